/-
  The evaluator's operations that only read are the model's.
  An operation of the evaluator that only reads is the model's.
-/
import Derived.Test.YtkdmpdbbcgdfkaaGreatDoorJ15
namespace Go.Proofs.YtkdmpdbbcgdfkaaGreatDoor.Sx
open Go Vm
set_option linter.unusedSimpArgs false
set_option linter.unusedVariables false
structure CxOk (C : Cx) : Prop where
  ty : ∀ t i, C.ty.get t = some i → C.P.info? t = some i
  room : C.room ≤ 1048576
  flds : ∀ t i, C.ty.get t = some i → ∀ fs, C.P.underlying t = some (.struct fs) → ∀ f ∈ fs.toList, ∃ i, C.P.info? f.type = some i
theorem CxOk.info {C : Cx} (hC : CxOk C) (t : Nat) : C.info t = C.P.info? t := by
  unfold Cx.info
  cases h : C.ty.get t with
  | none => rfl
  | some i => exact (hC.ty t i h).symm
theorem CxOk.und {C : Cx} (hC : CxOk C) (t : Nat) : C.und t = C.P.underlying t := by
  unfold Cx.und Program.underlying
  rw [hC.info]
  cases h : C.P.info? t with
  | none => rfl
  | some i =>
    obtain ⟨d, s1, s2, s3, s4, s5, s6, s7, s8, s9⟩ := i
    cases d <;> simp only
    rename_i nm u
    rw [hC.info]
    cases C.P.info? u <;> rfl
theorem CxOk.size {C : Cx} (hC : CxOk C) {t n : Nat} (h : C.size t = some n) : ∃ i, C.P.info? t = some i ∧ i.size = n := by
  unfold Cx.size at h
  rw [hC.info] at h
  simpa only [Option.map_eq_some_iff] using h
theorem CxOk.roomB {C : Cx} (hC : CxOk C) {e n : Nat} {i : TypeInfo} (hi : C.P.info? e = some i) (h : C.roomB e n = true) : n * i.bytes ≤ 1073741824 ∧ n ≤ 1073741824 := by
  unfold Cx.roomB at h
  rw [hC.info, hi] at h
  simpa using h
/-- what of the heap is needed where it is only read -/
structure Obs (st : St) (σ : Env) (h : Heap) : Prop where
  obj : ∀ i o, st.hp.get i = some o → ∃ q, σ i = some q ∧ objR σ q h[q.1]? o
  inj : ∀ i j o o' q r, st.hp.get i = some o → st.hp.get j = some o' → o.live = true → o'.live = true → σ i = some q → σ j = some r → q.1 = r.1 → i = j
theorem Rep.obs {ng : Nat} {st : St} {σ τ : Env} {h : Heap} (H : Rep ng st σ h) (e : Pre σ τ) : Obs st τ h :=
  ⟨fun i o ho => by
    obtain ⟨q, h1, h2⟩ := H.obj i o ho
    exact ⟨q, pre_get e h1, h2.mono e⟩, fun i j o o' q r hi hj h1 h2 hq hr => by
    obtain ⟨q', hq', _⟩ := H.obj i o hi
    obtain ⟨r', hr', _⟩ := H.obj j o' hj
    rw [pre_get e hq'] at hq
    rw [pre_get e hr'] at hr
    cases hq; cases hr
    exact H.inj i j o o' q r hi hj h1 h2 hq' hr'⟩
structure Frm (σ : Env) (sf : SF) (fr : Fr) : Prop where
  rel : Rel σ sf fr
  glob : ∀ g, g < sf.ng → ∃ c, σ g = some (g, c)
/-! ### constants -/
theorem bytes_back (s : ByteArray) : bytesOf (s.toList.map (·.toNat)) = s := by
  unfold bytesOf
  apply ByteArray.ext
  simp only [List.map_map]
  have : (UInt8.ofNat ∘ fun x : UInt8 => x.toNat) = id := by funext x; simp
  rw [this, List.map_id]
  obtain ⟨⟨l⟩⟩ := s
  simp [ByteArray.toList_mk]
theorem bytes_lt (s : ByteArray) : (s.toList.map (·.toNat)).all (Nat.blt · 256) = true := by
  simp only [List.all_map, List.all_eq_true, Function.comp, Nat.blt_eq]
  intro x _
  exact x.toNat_lt
mutual
theorem ofV_den (σ : Env) : ∀ (v : Value) (s : SV), ofV v = some s → den σ s = some v
  | .bool x, s, h => by simp only [ofV, Option.some.injEq] at h; subst h; rfl
  | .int k n, s, h => by simp only [ofV, Option.some.injEq] at h; subst h; rfl
  | .float _ _, s, h => by simp [ofV] at h
  | .complex _ _ _, s, h => by simp [ofV] at h
  | .string b, s, h => by simp only [ofV, Option.some.injEq] at h; subst h; simp only [den, bytes_lt, if_true, bytes_back]
  | .pointer none, s, h => by simp only [ofV, Option.some.injEq] at h; subst h; rfl
  | .pointer (some _), s, h => by simp [ofV] at h
  | .slice none 0 0, s, h => by simp only [ofV, Option.some.injEq] at h; subst h; rfl
  | .slice none 0 (_ + 1), s, h => by simp [ofV] at h
  | .slice none (_ + 1) _, s, h => by simp [ofV] at h
  | .slice (some _) _ _, s, h => by simp [ofV] at h
  | .map none, s, h => by simp only [ofV, Option.some.injEq] at h; subst h; rfl
  | .map (some _), s, h => by simp [ofV] at h
  | .chan _, s, h => by simp [ofV] at h
  | .func (.func g) ⟨a⟩ ⟨c⟩, s, h => by
    simp only [ofV, Option.bind_eq_some_iff, Option.map_eq_some_iff] at h
    obtain ⟨x, h1, y, h2, rfl⟩ := h
    simp only [den, ofVs_den σ a x h1, ofVs_den σ c y h2, Option.bind_some, Option.map_some]
  | .func (.method _) _ _, s, h => by simp [ofV] at h
  | .func (.methodOf _ _) _ _, s, h => by simp [ofV] at h
  | .func (.via _ _ _ _) _ _, s, h => by simp [ofV] at h
  | .func (.yield _) _ _, s, h => by simp [ofV] at h
  | .nilFunc, s, h => by simp only [ofV, Option.some.injEq] at h; subst h; rfl
  | .iface t v, s, h => by
    simp only [ofV, Option.map_eq_some_iff] at h
    obtain ⟨x, h1, rfl⟩ := h
    simp only [den, ofV_den σ v x h1, Option.map_some]
  | .nilIface, s, h => by simp only [ofV, Option.some.injEq] at h; subst h; rfl
  | .agg ⟨l⟩, s, h => by
    simp only [ofV, Option.map_eq_some_iff] at h
    obtain ⟨x, h1, rfl⟩ := h
    simp only [den, ofVs_den σ l x h1, Option.map_some]
  | .tuple ⟨l⟩, s, h => by
    simp only [ofV, Option.map_eq_some_iff] at h
    obtain ⟨x, h1, rfl⟩ := h
    simp only [den, ofVs_den σ l x h1, Option.map_some]
theorem ofVs_den (σ : Env) : ∀ (l : List Value) (s : List SV), ofVs l = some s → denL σ s = some l
  | [], s, h => by simp only [ofVs, Option.some.injEq] at h; subst h; rfl
  | v :: r, s, h => by
    simp only [ofVs, Option.bind_eq_some_iff, Option.map_eq_some_iff] at h
    obtain ⟨x, h1, y, h2, rfl⟩ := h
    simp only [denL, ofV_den σ v x h1, ofVs_den σ r y h2, Option.bind_some, Option.map_some]
end
section
variable {σ : Env} {sf : SF} {fr : Fr}
theorem evO_ok (hR : Frm σ sf fr) {x : Operand} {s : SV} (h : evO sf x = some s) : ∃ v, ev fr x = some v ∧ den σ s = some v := by
  cases x with
  | tmp t =>
    obtain ⟨v, h1, h2⟩ := hR.rel t s h
    exact ⟨v, h2, h1⟩
  | const v => exact ⟨v, rfl, ofV_den σ v s h⟩
  | global g =>
    simp only [evO] at h
    split at h
    · rename_i hg
      cases h
      obtain ⟨c, hc⟩ := hR.glob g (by simpa using hg)
      exact ⟨_, rfl, by simp [den, hc]⟩
    · cases h
  | func f => cases h; exact ⟨_, rfl, by simp [den, denL]⟩
theorem evOs_ok (hR : Frm σ sf fr) : ∀ (l : List Operand) (s : List SV), evOs sf l = some s → ∃ vs, evs fr l = some vs ∧ denL σ s = some vs
  | [], s, h => by simp only [evOs, Option.some.injEq] at h; subst h; exact ⟨[], rfl, rfl⟩
  | x :: r, s, h => by
    simp only [evOs, Option.bind_eq_some_iff, Option.map_eq_some_iff] at h
    obtain ⟨u, h1, w, h2, rfl⟩ := h
    obtain ⟨v, e1, d1⟩ := evO_ok hR h1
    obtain ⟨vs, e2, d2⟩ := evOs_ok hR r w h2
    exact ⟨v :: vs, by simp only [evs, e1, e2], by simp only [denL, d1, d2, Option.bind_some, Option.map_some]⟩
def denP (σ : Env) : List (Nat × SV) → Option (List (Nat × Value))
  | [] => some []
  | (i, s) :: r => (den σ s).bind fun v => (denP σ r).map ((i, v) :: ·)
theorem evPs_ok (hR : Frm σ sf fr) : ∀ (l : List (Nat × Operand)) (s : List (Nat × SV)), evPs sf l = some s → ∃ vs, evl fr l = some vs ∧ denP σ s = some vs
  | [], s, h => by simp only [evPs, Option.some.injEq] at h; subst h; exact ⟨[], rfl, rfl⟩
  | (i, x) :: r, s, h => by
    simp only [evPs, Option.bind_eq_some_iff, Option.map_eq_some_iff] at h
    obtain ⟨u, h1, w, h2, rfl⟩ := h
    obtain ⟨v, e1, d1⟩ := evO_ok hR h1
    obtain ⟨vs, e2, d2⟩ := evPs_ok hR r w h2
    exact ⟨(i, v) :: vs, by simp only [evl, e1, e2], by simp only [denP, d1, d2, Option.bind_some, Option.map_some]⟩
theorem bndS_ok (hR : Frm σ sf fr) {x : Option Operand} {d n : Nat} (h : bndS sf x d = some n) {k : Int → Prop} (hk : k n) : bnd fr x d k := by
  unfold bndS at h
  unfold bnd
  split at h
  · cases h; exact hk
  · simp only [Option.bind_eq_some_iff] at h
    obtain ⟨s, h1, h2⟩ := h
    obtain ⟨v, e1, d1⟩ := evO_ok hR h1
    split at h2
    · cases h2
      simp only [den, Option.some.injEq] at d1
      subst d1
      simp only [evk, e1]
      exact hk
    · cases h2
end
/-! ### comparisons -/
theorem beq_dec {α : Type} [BEq α] [LawfulBEq α] [DecidableEq α] (x y : α) : (x == y) = decide (x = y) := by
  by_cases h : x = y
  · subst h; simp
  · rw [decide_eq_false h]; simpa using h
theorem pureRun_ok {α : Type} {P : Program} : ∀ (s : Sem α) (v : α), pureRun P s = some v → ∀ w, s.run P w = .ok v w
  | .pure a, v, h, w => by simp only [pureRun, Option.some.injEq] at h; subst h; rfl
  | .program k, v, h, w => by
    simp only [pureRun] at h
    simp only [Sem.run]
    exact pureRun_ok (k P) v h w
  | .load _ _ _, _, h, _ => by simp [pureRun] at h
  | .store _ _ _ _, _, h, _ => by simp [pureRun] at h
  | .new _ _, _, h, _ => by simp [pureRun] at h
  | .shape _ _, _, h, _ => by simp [pureRun] at h
  | .freeze _ _ _, _, h, _ => by simp [pureRun] at h
  | .frozen _ _, _, h, _ => by simp [pureRun] at h
  | .getObj _ _, _, h, _ => by simp [pureRun] at h
  | .setObj _ _ _, _, h, _ => by simp [pureRun] at h
  | .choose _ _, _, h, _ => by simp [pureRun] at h
  | .sys _ _, _, h, _ => by simp [pureRun] at h
  | .mark _ k, v, h, w => by
    simp only [pureRun] at h
    simp only [Sem.run]
    exact pureRun_ok k v h w
  | .halt _, _, h, _ => by simp [pureRun] at h
mutual
theorem toV_den {σ : Env} : ∀ (s : SV) (u v : Value), toV s = some v → den σ s = some u → u = v
  | .b x, u, v, h, e => by simp only [toV, den, Option.some.injEq] at h e; exact e.symm.trans h
  | .i k n, u, v, h, e => by simp only [toV, den, Option.some.injEq] at h e; exact e.symm.trans h
  | .s l, u, v, h, e => by
    simp only [toV, den, Option.some.injEq] at h e
    split at e
    · cases e; exact h
    · cases e
  | .p _ _, u, v, h, e => by simp [toV] at h
  | .pn, u, v, h, e => by simp only [toV, den, Option.some.injEq] at h e; exact e.symm.trans h
  | .sl _ _ _ _, u, v, h, e => by simp [toV] at h
  | .sg _ _ _ _, u, v, h, e => by simp [toV] at h
  | .se _ _ _ _ _, u, v, h, e => by simp [toV] at h
  | .sn, u, v, h, e => by simp only [toV, den, Option.some.injEq] at h e; exact e.symm.trans h
  | .m _, u, v, h, e => by simp [toV] at h
  | .mn, u, v, h, e => by simp only [toV, den, Option.some.injEq] at h e; exact e.symm.trans h
  | .f _ _ _, u, v, h, e => by simp [toV] at h
  | .nf, u, v, h, e => by simp only [toV, den, Option.some.injEq] at h e; exact e.symm.trans h
  | .ifc t x, u, v, h, e => by
    simp only [toV, den, Option.map_eq_some_iff] at h e
    obtain ⟨a, h1, rfl⟩ := h
    obtain ⟨b, e1, rfl⟩ := e
    rw [toV_den x b a h1 e1]
  | .nifc, u, v, h, e => by simp only [toV, den, Option.some.injEq] at h e; exact e.symm.trans h
  | .agg l, u, v, h, e => by
    simp only [toV, den, Option.map_eq_some_iff] at h e
    obtain ⟨a, h1, rfl⟩ := h
    obtain ⟨b, e1, rfl⟩ := e
    rw [toVs_den l b a h1 e1]
  | .tup l, u, v, h, e => by simp [toV] at h
theorem toVs_den {σ : Env} : ∀ (l : List SV) (u v : List Value), toVs l = some v → denL σ l = some u → u = v
  | [], u, v, h, e => by simp only [toVs, denL, Option.some.injEq] at h e; exact e.symm.trans h
  | s :: r, u, v, h, e => by
    simp only [toVs, denL, Option.bind_eq_some_iff, Option.map_eq_some_iff] at h e
    obtain ⟨a, h1, b, h2, rfl⟩ := h
    obtain ⟨c, e1, d, e2, rfl⟩ := e
    rw [toV_den s c a h1 e1, toVs_den r d b h2 e2]
end
theorem ofNat_inj {a b : Nat} (ha : a < 256) (hb : b < 256) : UInt8.ofNat a = UInt8.ofNat b ↔ a = b := by
  constructor
  · intro h
    have := congrArg UInt8.toNat h
    rwa [UInt8.toNat_ofNat_of_lt' ha, UInt8.toNat_ofNat_of_lt' hb] at this
  · rintro rfl; rfl
theorem bytesOf_list (l : List Nat) : (bytesOf l).toList = l.map UInt8.ofNat := by unfold bytesOf; exact ByteArray.toList_mk _
theorem bytesOf_size (l : List Nat) : (bytesOf l).size = l.length := by simp [bytesOf, ByteArray.size]
theorem eqNs_ok : ∀ (x y : List Nat), x.all (Nat.blt · 256) = true → y.all (Nat.blt · 256) = true → eqNs x y = decide (x.map UInt8.ofNat = y.map UInt8.ofNat)
  | [], [], _, _ => rfl
  | [], _ :: _, _, _ => rfl
  | _ :: _, [], _, _ => rfl
  | a :: x, b :: y, hx, hy => by
    simp only [List.all_cons, Bool.and_eq_true, Nat.blt_eq] at hx hy
    simp only [eqNs, List.map_cons, List.cons.injEq, ofNat_inj hx.1 hy.1]
    split
    · rename_i e; rw [eqNs_ok x y hx.2 hy.2]; simp [e]
    · rename_i e; simp [e]
theorem lessS_ok : ∀ (x y : List Nat), x.all (Nat.blt · 256) = true → y.all (Nat.blt · 256) = true → lessS x y = Op.bytesLess (x.map UInt8.ofNat) (y.map UInt8.ofNat)
  | [], [], _, _ => rfl
  | [], _ :: _, _, _ => rfl
  | _ :: _, [], _, _ => rfl
  | a :: x, b :: y, hx, hy => by
    simp only [List.all_cons, Bool.and_eq_true, Nat.blt_eq] at hx hy
    simp only [lessS, List.map_cons, Op.bytesLess]
    have hlt : (UInt8.ofNat a < UInt8.ofNat b) ↔ a < b := by
      rw [UInt8.lt_iff_toNat_lt, UInt8.toNat_ofNat_of_lt' hx.1, UInt8.toNat_ofNat_of_lt' hy.1]
    split
    · rename_i e; subst e; rw [lessS_ok x y hx.2 hy.2]; simp
    · rename_i e
      have : (UInt8.ofNat a == UInt8.ofNat b) = false := by
        rw [beq_eq_false_iff_ne]; exact fun h => e ((ofNat_inj hx.1 hy.1).1 h)
      simp [this, hlt]
theorem intS_ok {op : BinOp} {a : IntKind} {x y : Int} {s : SV} (h : intS op a x y = some s) (σ : Env) : ∃ v, den σ s = some v ∧ ∀ k : Value → Prop, k v → intk op a x y k := by
  unfold intS b2 at h
  split at h
  case h_16 => cases h
  case h_4 => split at h; · cases h
              · rename_i h0; cases h; exact ⟨_, rfl, fun k hk => ⟨h0, hk⟩⟩
  case h_5 => split at h; · cases h
              · rename_i h0; cases h; exact ⟨_, rfl, fun k hk => ⟨h0, hk⟩⟩
  case h_10 => cases h; exact ⟨_, rfl, fun k hk => by unfold intk; rw [beq_dec]; exact hk⟩
  case h_11 => cases h; exact ⟨_, rfl, fun k hk => by unfold intk; rw [show (x != y) = !(x == y) from rfl, beq_dec]; exact hk⟩
  all_goals cases h; exact ⟨_, rfl, fun k hk => hk⟩
section
variable {C : Cx} (hC : CxOk C) {σ : Env}
theorem den_s {l : List Nat} {v : Value} (e : den σ (.s l) = some v) : l.all (Nat.blt · 256) = true ∧ v = .string (bytesOf l) := by
  simp only [den] at e
  split at e
  · rename_i hl; cases e; exact ⟨hl, rfl⟩
  · cases e
theorem den_str {l : List Nat} (e : l.all (Nat.blt · 256) = true) : den σ (.s l) = some (.string (bytesOf l)) := by simp only [den, e, if_true]
include hC in
theorem strS_ok {op : BinOp} {t : Nat} {xo yo : Operand} {x y : List Nat} {s : SV} {u v : Value} (e : C.binS op t xo yo (.s x) (.s y) = some s) (hx : den σ (.s x) = some u) (hy : den σ (.s y) = some v) :
    ∃ r, den σ s = some r ∧ ∀ k : Value → Prop, k r → binq C.P op t xo yo u v k := by
  obtain ⟨ax, rfl⟩ := den_s hx
  obtain ⟨ay, rfl⟩ := den_s hy
  have hg : ∀ op w, (eqGuard op t xo yo (.string (bytesOf x)) (.string (bytesOf y))).run C.P w = .ok () w := fun op w => by
    unfold eqGuard
    cases op <;> simp
  have gen : ∀ (op : BinOp) (r : Value), (op ≠ .add ∧ op ≠ .eql ∧ op ≠ .neq ∧ op ≠ .lss) → (∀ w, (binOp op t (.string (bytesOf x)) (.string (bytesOf y))).run C.P w = .ok r w) → ∀ k : Value → Prop, k r → binq C.P op t xo yo (.string (bytesOf x)) (.string (bytesOf y)) k := by
    intro op r ⟨h1, h2, h3, h4⟩ hr k hk
    unfold binq
    cases op <;> first
      | exact absurd rfl h1
      | exact absurd rfl h2
      | exact absurd rfl h3
      | exact absurd rfl h4
      | exact ⟨r, fun w => by rw [Sem.run_bind, hg]; exact hr w, hk⟩
  have hr := hC.room
  have heq : ((bytesOf x).toList == (bytesOf y).toList) = eqNs x y := by rw [beq_dec, bytesOf_list, bytesOf_list, eqNs_ok x y ax ay]
  have hlt : Op.bytesLess (bytesOf x).toList (bytesOf y).toList = lessS x y := by rw [bytesOf_list, bytesOf_list, lessS_ok x y ax ay]
  cases op <;> simp only [Cx.binS, b2] at e
  case add =>
    split at e
    · rename_i hl
      cases e
      refine ⟨_, den_str (by rw [List.all_append, ax, ay]; rfl), fun k hk => ⟨by rw [bytesOf_size, bytesOf_size]; omega, ?_⟩⟩
      have : bytesOf x ++ bytesOf y = bytesOf (x ++ y) := by
        apply ByteArray.ext
        rw [ByteArray.data_append]
        simp [bytesOf]
      rw [this]
      exact hk
    · cases e
  case eql => cases e; exact ⟨_, rfl, fun k hk => (show k (.bool ((bytesOf x).toList == (bytesOf y).toList)) from heq ▸ hk)⟩
  case neq => cases e; exact ⟨_, rfl, fun k hk => (show k (.bool !((bytesOf x).toList == (bytesOf y).toList)) from heq ▸ hk)⟩
  case lss => cases e; exact ⟨_, rfl, fun k hk => (show k (.bool (Op.bytesLess (bytesOf x).toList (bytesOf y).toList)) from hlt ▸ hk)⟩
  case leq => cases e; exact ⟨_, rfl, gen .leq _ (by simp) (fun w => by simp [binOp, Op.stringOp, heq, hlt])⟩
  case gtr => cases e; exact ⟨_, rfl, gen .gtr _ (by simp) (fun w => by simp [binOp, Op.stringOp, heq, hlt])⟩
  case geq => cases e; exact ⟨_, rfl, gen .geq _ (by simp) (fun w => by simp [binOp, Op.stringOp, heq, hlt])⟩
  all_goals cases e
theorem equal_run {P : Program} {t : TypeId} {u v : Value} {b : Bool} {w : World} (h : ∀ n, (Op.equalIn (n + 1) t u v).run P w = .ok b w) : (Op.equal t u v).run P w = .ok b w := h 9999
def plainV (u : Value) : Prop := (∀ k n, u ≠ .int k n) ∧ (∀ s, u ≠ .string s) ∧ (∀ k n, u ≠ .float k n) ∧ (∀ k n m, u ≠ .complex k n m)
structure EqR (P : Program) (t : TypeId) (xo yo : Operand) (u v : Value) (b : Bool) : Prop where
  guard : ∀ op w, (eqGuard op t xo yo u v).run P w = .ok () w
  eq : ∀ w, (Op.equal t u v).run P w = .ok b w
  pl : plainV u
theorem plain_b (b : Bool) : plainV (.bool b) := ⟨by simp, by simp, by simp, by simp⟩
theorem plain_p (b : Option Addr) : plainV (.pointer b) := ⟨by simp, by simp, by simp, by simp⟩
theorem plain_s (b : Option Addr) (n c : Nat) : plainV (.slice b n c) := ⟨by simp, by simp, by simp, by simp⟩
theorem plain_m (b : Option Nat) : plainV (.map b) := ⟨by simp, by simp, by simp, by simp⟩
theorem plain_nf : plainV .nilFunc := ⟨by simp, by simp, by simp, by simp⟩
theorem plain_f (f : Fn) (a c : Array Value) : plainV (.func f a c) := ⟨by simp, by simp, by simp, by simp⟩
theorem plain_ni : plainV .nilIface := ⟨by simp, by simp, by simp, by simp⟩
theorem plain_if (t : TypeId) (v : Value) : plainV (.iface t v) := ⟨by simp, by simp, by simp, by simp⟩
section
variable {P : Program} {t : TypeId} {w : World}
theorem eq_bool (ht : P.underlying t = some .bool) (a b : Bool) : (Op.equal t (.bool a) (.bool b)).run P w = .ok (a == b) w := equal_run fun n => by simp [Op.equalIn, run_underlying ht]
theorem eq_pn {e : TypeId} (ht : P.underlying t = some (.pointer e)) (b : Option Addr) : (Op.equal t (.pointer none) (.pointer b)).run P w = .ok b.isNone w := equal_run fun n => by simp [Op.equalIn, run_underlying ht]
theorem eq_np {e : TypeId} (ht : P.underlying t = some (.pointer e)) (b : Addr) : (Op.equal t (.pointer (some b)) (.pointer none)).run P w = .ok false w := equal_run fun n => by simp [Op.equalIn, run_underlying ht]
theorem eq_pp {e : TypeId} {i : TypeInfo} (ht : P.underlying t = some (.pointer e)) (hi : P.info? e = some i) (hs : i.size ≠ 0) (b o o' : Nat) :
    (Op.equal t (.pointer (some ⟨b, o, none⟩)) (.pointer (some ⟨b, o', none⟩))).run P w = .ok (decide (o = o')) w := equal_run fun n => by
  have : ((⟨b, o, none⟩ : Addr) == ⟨b, o', none⟩) = decide (o = o') := by rw [beq_dec]; simp
  simp [Op.equalIn, run_underlying ht, Vm.run_sizeOf hi, hs, sameAddr, this]
theorem eq_sn {e : TypeId} (ht : P.underlying t = some (.slice e)) (b : Option Addr) (n c n' c' : Nat) : (Op.equal t (.slice none n c) (.slice b n' c')).run P w = .ok b.isNone w := equal_run fun n => by simp [Op.equalIn, run_underlying ht]
theorem eq_ns {e : TypeId} (ht : P.underlying t = some (.slice e)) (b : Addr) (n c n' c' : Nat) : (Op.equal t (.slice (some b) n c) (.slice none n' c')).run P w = .ok false w := equal_run fun n => by simp [Op.equalIn, run_underlying ht]
theorem eq_mn {k e : TypeId} (ht : P.underlying t = some (.map k e)) (b : Option Nat) : (Op.equal t (.map none) (.map b)).run P w = .ok b.isNone w := equal_run fun n => by simp [Op.equalIn, run_underlying ht]
theorem eq_nm {k e : TypeId} (ht : P.underlying t = some (.map k e)) (b : Nat) : (Op.equal t (.map (some b)) (.map none)).run P w = .ok false w := equal_run fun n => by simp [Op.equalIn, run_underlying ht]
theorem eq_fnn {a b : Array TypeId} {c : Bool} (ht : P.underlying t = some (.func a b c)) : (Op.equal t .nilFunc .nilFunc).run P w = .ok true w := equal_run fun n => by simp [Op.equalIn, run_underlying ht]
theorem eq_fn {a b : Array TypeId} {c : Bool} (ht : P.underlying t = some (.func a b c)) (f : Fn) (x y : Array Value) : (Op.equal t .nilFunc (.func f x y)).run P w = .ok false w := equal_run fun n => by simp [Op.equalIn, run_underlying ht]
theorem eq_nfn {a b : Array TypeId} {c : Bool} (ht : P.underlying t = some (.func a b c)) (f : Fn) (x y : Array Value) : (Op.equal t (.func f x y) .nilFunc).run P w = .ok false w := equal_run fun n => by simp [Op.equalIn, run_underlying ht]
theorem eq_inn {m : Array (String × TypeId)} (ht : P.underlying t = some (.interface m)) : (Op.equal t .nilIface .nilIface).run P w = .ok true w := equal_run fun n => by simp [Op.equalIn, run_underlying ht]
theorem eq_in {m : Array (String × TypeId)} (ht : P.underlying t = some (.interface m)) (d : TypeId) (x : Value) : (Op.equal t .nilIface (.iface d x)).run P w = .ok false w := equal_run fun n => by simp [Op.equalIn, run_underlying ht]
theorem eq_ni {m : Array (String × TypeId)} (ht : P.underlying t = some (.interface m)) (d : TypeId) (x : Value) : (Op.equal t (.iface d x) .nilIface).run P w = .ok false w := equal_run fun n => by simp [Op.equalIn, run_underlying ht]
end
theorem guard_plain {P : Program} {u v : Value} (h : u ≠ .nilIface) (h' : ∀ l, u ≠ .agg l) (op : BinOp) (t : TypeId) (xo yo : Operand) (w : World) : (eqGuard op t xo yo u v).run P w = .ok () w := by
  unfold eqGuard
  cases op <;> first
    | (simp; done)
    | (cases u <;> first
        | exact absurd rfl h
        | exact absurd rfl (h' _)
        | simp)
theorem den_p {σ : Env} {a o : Nat} {v : Value} (e : den σ (.p a o) = some v) : ∃ q, σ a = some q ∧ v = .pointer (some ⟨q.1, o, none⟩) := by
  simp only [den, Option.map_eq_some_iff] at e
  obtain ⟨q, hq, rfl⟩ := e
  exact ⟨q, hq, rfl⟩
theorem den_sl {σ : Env} {a o n c : Nat} {v : Value} (e : den σ (.sl a o n c) = some v) : ∃ q, σ a = some q ∧ (n ≤ c ∧ c ≤ maxLen) ∧ v = .slice (some ⟨q.1, o, none⟩) n c := by
  simp only [den] at e
  split at e
  · rename_i hn
    simp only [Option.map_eq_some_iff] at e
    obtain ⟨q, hq, rfl⟩ := e
    exact ⟨q, hq, hn, rfl⟩
  · cases e
theorem den_sg {σ : Env} {a o x n : Nat} {v : Value} (e : den σ (.sg a o x n) = some v) : ∃ q, σ a = some q ∧ (x + n ≤ q.2 ∧ q.2 ≤ maxLen) ∧ v = .slice (some ⟨q.1, o, none⟩) n (q.2 - x) := by
  simp only [den, Option.bind_eq_some_iff] at e
  obtain ⟨q, hq, e⟩ := e
  split at e
  · rename_i hn; cases e; exact ⟨q, hq, hn, rfl⟩
  · cases e
theorem den_se {σ : Env} {a o d e x : Nat} {v : Value} (h : den σ (.se a o d e x) = some v) : ∃ q, σ a = some q ∧ (e + x ≤ q.2 ∧ q.2 ≤ maxLen) ∧ v = .slice (some ⟨q.1, if q.2 - e = x then o else o + d, none⟩) 0 (q.2 - e - x) := by
  simp only [den, Option.bind_eq_some_iff] at h
  obtain ⟨q, hq, h⟩ := h
  split at h
  · rename_i hn; cases h; exact ⟨q, hq, hn, rfl⟩
  · cases h
theorem den_i {σ : Env} {k : IntKind} {n : Int} {v : Value} (e : den σ (.i k n) = some v) : v = .int k n := by simpa [den] using e.symm
theorem den_b {σ : Env} {b : Bool} {v : Value} (e : den σ (.b b) = some v) : v = .bool b := by simpa [den] using e.symm
theorem den_m {σ : Env} {a : Nat} {v : Value} (e : den σ (.m a) = some v) : ∃ q, σ a = some q ∧ v = .map (some q.1) := by
  simp only [den, Option.map_eq_some_iff] at e
  obtain ⟨q, hq, rfl⟩ := e
  exact ⟨q, hq, rfl⟩
theorem den_pn {σ : Env} {v : Value} (e : den σ .pn = some v) : v = .pointer none := by simpa [den] using e.symm
theorem den_sn {σ : Env} {v : Value} (e : den σ .sn = some v) : v = .slice none 0 0 := by simpa [den] using e.symm
theorem den_mn {σ : Env} {v : Value} (e : den σ .mn = some v) : v = .map none := by simpa [den] using e.symm
theorem den_nf {σ : Env} {v : Value} (e : den σ .nf = some v) : v = .nilFunc := by simpa [den] using e.symm
theorem den_nifc {σ : Env} {v : Value} (e : den σ .nifc = some v) : v = .nilIface := by simpa [den] using e.symm
theorem den_ifc {σ : Env} {t : Nat} {s : SV} {v : Value} (e : den σ (.ifc t s) = some v) : ∃ x, den σ s = some x ∧ v = .iface t x := by
  simp only [den, Option.map_eq_some_iff] at e
  obtain ⟨q, hq, rfl⟩ := e
  exact ⟨q, hq, rfl⟩
theorem den_f {σ : Env} {g : Nat} {a c : List SV} {v : Value} (e : den σ (.f g a c) = some v) : ∃ x y, denL σ a = some x ∧ denL σ c = some y ∧ v = .func (.func g) x.toArray y.toArray := by
  simp only [den, Option.bind_eq_some_iff, Option.map_eq_some_iff] at e
  obtain ⟨x, h1, y, h2, rfl⟩ := e
  exact ⟨x, y, h1, h2, rfl⟩
include hC in
theorem eqS_ok {t : Nat} {xo yo : Operand} {x y : SV} {b : Bool} {u v : Value} (e : C.eqS t xo yo x y = some b) (hx : den σ x = some u) (hy : den σ y = some v) : EqR C.P t xo yo u v b := by
  unfold Cx.eqS at e
  rw [hC.und] at e
  split at e
  · rename_i ht
    split at e
    · cases e; rw [den_b hx, den_b hy]
      exact ⟨fun op w => guard_plain (by simp) (by simp) op t xo yo w, fun w => eq_bool ht _ _, plain_b _⟩
    · cases e
  · rename_i el ht
    split at e
    · cases e; rw [den_pn hx, den_pn hy]
      exact ⟨fun op w => guard_plain (by simp) (by simp) op t xo yo w, fun w => eq_pn ht _, plain_p _⟩
    · cases e; obtain ⟨q, _, rfl⟩ := den_p hy; rw [den_pn hx]
      exact ⟨fun op w => guard_plain (by simp) (by simp) op t xo yo w, fun w => eq_pn ht _, plain_p _⟩
    · cases e; obtain ⟨q, _, rfl⟩ := den_p hx; rw [den_pn hy]
      exact ⟨fun op w => guard_plain (by simp) (by simp) op t xo yo w, fun w => eq_np ht _, plain_p _⟩
    · rename_i a o a' o'
      split at e
      · rename_i ea
        subst ea
        simp only [Option.bind_eq_some_iff] at e
        obtain ⟨n, hn, e⟩ := e
        obtain ⟨i, hi, rfl⟩ := hC.size hn
        split at e
        · cases e
        · rename_i hs
          cases e
          obtain ⟨q, hq, rfl⟩ := den_p hx
          obtain ⟨q', hq', rfl⟩ := den_p hy
          rw [hq] at hq'; cases hq'
          exact ⟨fun op w => guard_plain (by simp) (by simp) op t xo yo w, fun w => eq_pp ht hi hs _ _ _, plain_p _⟩
      · cases e
    · cases e
  · rename_i el ht
    split at e
    · cases e; rw [den_sn hx, den_sn hy]
      exact ⟨fun op w => guard_plain (by simp) (by simp) op t xo yo w, fun w => eq_sn ht _ _ _ _ _, plain_s _ _ _⟩
    · cases e; obtain ⟨q, _, _, rfl⟩ := den_sl hy; rw [den_sn hx]
      exact ⟨fun op w => guard_plain (by simp) (by simp) op t xo yo w, fun w => eq_sn ht _ _ _ _ _, plain_s _ _ _⟩
    · cases e; obtain ⟨q, _, _, rfl⟩ := den_sg hy; rw [den_sn hx]
      exact ⟨fun op w => guard_plain (by simp) (by simp) op t xo yo w, fun w => eq_sn ht _ _ _ _ _, plain_s _ _ _⟩
    · cases e; obtain ⟨q, _, _, rfl⟩ := den_se hy; rw [den_sn hx]
      exact ⟨fun op w => guard_plain (by simp) (by simp) op t xo yo w, fun w => eq_sn ht _ _ _ _ _, plain_s _ _ _⟩
    · cases e; obtain ⟨q, _, _, rfl⟩ := den_sl hx; rw [den_sn hy]
      exact ⟨fun op w => guard_plain (by simp) (by simp) op t xo yo w, fun w => eq_ns ht _ _ _ _ _, plain_s _ _ _⟩
    · cases e; obtain ⟨q, _, _, rfl⟩ := den_sg hx; rw [den_sn hy]
      exact ⟨fun op w => guard_plain (by simp) (by simp) op t xo yo w, fun w => eq_ns ht _ _ _ _ _, plain_s _ _ _⟩
    · cases e; obtain ⟨q, _, _, rfl⟩ := den_se hx; rw [den_sn hy]
      exact ⟨fun op w => guard_plain (by simp) (by simp) op t xo yo w, fun w => eq_ns ht _ _ _ _ _, plain_s _ _ _⟩
    · cases e
  · rename_i ht
    split at e
    · cases e; rw [den_mn hx, den_mn hy]
      exact ⟨fun op w => guard_plain (by simp) (by simp) op t xo yo w, fun w => eq_mn ht _, plain_m _⟩
    · cases e; obtain ⟨q, _, rfl⟩ := den_m hy; rw [den_mn hx]
      exact ⟨fun op w => guard_plain (by simp) (by simp) op t xo yo w, fun w => eq_mn ht _, plain_m _⟩
    · cases e; obtain ⟨q, _, rfl⟩ := den_m hx; rw [den_mn hy]
      exact ⟨fun op w => guard_plain (by simp) (by simp) op t xo yo w, fun w => eq_nm ht _, plain_m _⟩
    · cases e
  · rename_i ht
    split at e
    · cases e; rw [den_nf hx, den_nf hy]
      exact ⟨fun op w => guard_plain (by simp) (by simp) op t xo yo w, fun w => eq_fnn ht, plain_nf⟩
    · cases e; obtain ⟨_, _, _, _, rfl⟩ := den_f hy; rw [den_nf hx]
      exact ⟨fun op w => guard_plain (by simp) (by simp) op t xo yo w, fun w => eq_fn ht _ _ _, plain_nf⟩
    · cases e; obtain ⟨_, _, _, _, rfl⟩ := den_f hx; rw [den_nf hy]
      exact ⟨fun op w => guard_plain (by simp) (by simp) op t xo yo w, fun w => eq_nfn ht _ _ _, plain_f _ _ _⟩
    · cases e
  · rename_i ht
    split at e
    · split at e
      · rename_i hc
        cases e; rw [den_nifc hx, den_nifc hy]
        refine ⟨fun op w => ?_, fun w => eq_inn ht, plain_ni⟩
        unfold eqGuard
        cases op <;> first
          | (simp; done)
          | (cases xo <;> cases yo <;> first
              | (simp [isC] at hc; done)
              | (simp; done))
      · cases e
    · cases e; obtain ⟨_, _, rfl⟩ := den_ifc hy; rw [den_nifc hx]
      refine ⟨fun op w => ?_, fun w => eq_in ht _ _, plain_ni⟩
      unfold eqGuard
      cases op <;> simp
    · cases e; obtain ⟨_, _, rfl⟩ := den_ifc hx; rw [den_nifc hy]
      exact ⟨fun op w => guard_plain (by simp) (by simp) op t xo yo w, fun w => eq_ni ht _ _, plain_if _ _⟩
    · cases e
  · cases e
end
end Go.Proofs.YtkdmpdbbcgdfkaaGreatDoor.Sx
namespace Go.Proofs.YtkdmpdbbcgdfkaaGreatDoor.Sx
open Go Vm
set_option linter.unusedSimpArgs false
set_option linter.unusedVariables false
section
variable {C : Cx} (hC : CxOk C) {st : St} {σ : Env} {h : Heap} {sf : SF} {fr : Fr}
include hC in
theorem binS_ok {op : BinOp} {t : Nat} {xo yo : Operand} {x y s : SV} {u v : Value} (e : C.binS op t xo yo x y = some s) (hx : den σ x = some u) (hy : den σ y = some v) :
    ∃ r, den σ s = some r ∧ ∀ k : Value → Prop, k r → binq C.P op t xo yo u v k := by
  have gen : ∀ (r : Value), (∀ w, (do eqGuard op t xo yo u v; binOp op t u v : Sem Value).run C.P w = .ok r w) → (∀ k n, u ≠ .int k n) → (∀ s, u ≠ .string s) → ∀ k : Value → Prop, k r → binq C.P op t xo yo u v k := by
    intro r hr h1 h2 k hk
    unfold binq
    split
    · exact absurd rfl (h1 _ _)
    · exact absurd rfl (h2 _)
    · exact ⟨r, hr, hk⟩
  unfold Cx.binS at e
  split at e
  · rename_i a x b y
    simp only [den, Option.some.injEq] at hx hy
    subst hx hy
    split at e
    · split at e
      · rename_i h0; cases e; exact ⟨_, rfl, fun k hk => ⟨h0, hk⟩⟩
      · cases e
    · split at e
      · rename_i h0; cases e; exact ⟨_, rfl, fun k hk => ⟨h0, hk⟩⟩
      · cases e
    · rename_i h1 h2
      split at e
      · rename_i hab
        subst hab
        obtain ⟨r, hr, hk⟩ := intS_ok e σ
        refine ⟨r, hr, fun k hr => ?_⟩
        have := hk k hr
        unfold binq
        cases op <;> first
          | exact absurd rfl h1
          | exact absurd rfl h2
          | (simp only [if_true]; exact this)
      · cases e
  · rename_i x y
    exact strS_ok hC (x := x) (y := y) (by unfold Cx.binS; exact e) hx hy
  · rename_i x y
    simp only [den, Option.map_eq_some_iff] at hx hy
    obtain ⟨xs, hxs, rfl⟩ := hx
    obtain ⟨ys, hys, rfl⟩ := hy
    simp only [Option.bind_eq_some_iff] at e
    obtain ⟨xs', e1, ys', e2, r, e3, e⟩ := e
    have := toVs_den x xs xs' e1 hxs
    subst this
    have := toVs_den y ys ys' e2 hys
    subst this
    split at e
    · simp only [b2, Option.some.injEq] at e
      subst e
      exact ⟨_, rfl, gen _ (fun w => pureRun_ok _ _ e3 w) (by simp) (by simp)⟩
    · cases e
  · rename_i h1 h2 h3
    split at e
    · simp only [Option.bind_eq_some_iff, b2, Option.some.injEq] at e
      obtain ⟨b, e, rfl⟩ := e
      obtain ⟨g1, g2, g3, g4, g7, g8⟩ := eqS_ok hC e hx hy
      refine ⟨_, rfl, gen _ (fun w => ?_) g3 g4⟩
      rw [Sem.run_bind, g1]
      simp only [Result.andThen_ok]
      cases u <;> first
        | exact absurd rfl (g3 _ _)
        | exact absurd rfl (g4 _)
        | exact absurd rfl (g7 _ _)
        | exact absurd rfl (g8 _ _ _)
        | simp [binOp, g2]
    · simp only [Option.bind_eq_some_iff, b2, Option.some.injEq] at e
      obtain ⟨b, e, rfl⟩ := e
      obtain ⟨g1, g2, g3, g4, g7, g8⟩ := eqS_ok hC e hx hy
      refine ⟨_, rfl, gen _ (fun w => ?_) g3 g4⟩
      rw [Sem.run_bind, g1]
      simp only [Result.andThen_ok]
      cases u <;> first
        | exact absurd rfl (g3 _ _)
        | exact absurd rfl (g4 _)
        | exact absurd rfl (g7 _ _)
        | exact absurd rfl (g8 _ _ _)
        | simp [binOp, g2]
    · cases e
/-- a part of a row of cells -/
theorem take_drop_den {l : List SV} {vs : List Value} (e : denL σ l = some vs) (a b : Nat) : denL σ ((l.drop a).take b) = some ((vs.drop a).take b) := denL_take _ _ _ (denL_drop _ _ _ e)
include hC in
theorem partS_ok {t off : Nat} {l : List SV} {s : SV} {vs : List Value} (e : C.partS t l off = some s) (hl : denL σ l = some vs) :
    ∃ v, den σ s = some v ∧ ∀ k : Value → Prop, k v → partk C.P t vs.toArray off k := by
  unfold Cx.partS at e
  simp only [Option.bind_eq_some_iff, hC.info, hC.und] at e
  obtain ⟨i, hi, e⟩ := e
  have hx : ∀ a b : Nat, vs.toArray.extract a (a + b) = ((vs.drop a).take b).toArray := fun a b => by
    simp only [List.extract_toArray, List.extract_eq_take_drop]
    congr 2; omega
  split at e
  · rename_i ht
    cases e
    exact ⟨_, by simp only [den, take_drop_den hl]; rfl, fun k hk => by unfold partk; simp only [ht, hi, hx]; exact hk⟩
  · rename_i ht
    cases e
    exact ⟨_, by simp only [den, take_drop_den hl]; rfl, fun k hk => by unfold partk; simp only [ht, hi, hx]; exact hk⟩
  · rename_i d h1 h2 ht
    obtain ⟨v, hv, hg⟩ := denL_get l vs off s hl e
    refine ⟨v, hv, fun k hk => ?_⟩
    unfold partk
    have hg' : vs.toArray[off]? = some v := by simpa using hg
    rw [ht, hi]
    cases d <;> first
      | exact (h1 _ rfl).elim
      | exact (h2 _ _ rfl).elim
      | (simp only [hg']; exact hk)
  · cases e
/-- block b's cells -/
def BlkF (h : Heap) (b : Nat) (l : List Value) (t : TypeId) : Prop := ∃ fz, h[b]? = some (.cells l.toArray t fz)
theorem BlkF.rd {h : Heap} {b : Nat} {l : List Value} {t : TypeId} (hb : BlkF h b l t) {o : Nat} {v : Value} (hv : l[o]? = some v) : Vm.rd h ⟨b, o, none⟩ = some v := by
  obtain ⟨fz, hb⟩ := hb
  simp [Vm.rd, hb, hv]
theorem BlkF.rdN {h : Heap} {b : Nat} {l : List Value} {t : TypeId} (hb : BlkF h b l t) (o : Nat) (vs : List Value) (hv : (l.drop o).take vs.length = vs) : Vm.rdN h b o vs := by
  intro j v hj
  refine hb.rd ?_
  have hlt := (List.getElem?_eq_some_iff.1 hj).1
  have h1 : (l.drop o)[j]? = some v := by
    rw [← hv, List.getElem?_take] at hj
    rw [if_pos hlt] at hj
    exact hj
  rwa [List.getElem?_drop] at h1
theorem row_rd (hO : Obs st σ h) {id : Nat} {l : List SV} {t : Nat} {g : Option Nat} (e : rowOf st id = some (l, t, g)) :
    ∃ q vs tl, σ id = some q ∧ denL σ l = some vs ∧ (∀ v ∈ vs, v.oneCell' = true) ∧ BlkF h q.1 (vs ++ tl) t ∧ gR q (vs ++ tl).length tl g := by
  unfold rowOf at e
  split at e
  · rename_i l' t' g' w' ho
    cases e
    obtain ⟨q, hq, vs, tl, fz, h1, h2, h3, h4, h5⟩ := hO.obj _ _ ho
    exact ⟨q, vs, tl, hq, h1, h2, ⟨fz, h3⟩, h4⟩
  · cases e
theorem row_wr (hO : Obs st σ h) {id : Nat} {l : List SV} {t : Nat} {g : Option Nat} (e : rowW st id = some (l, t, g)) :
    ∃ q vs tl, σ id = some q ∧ denL σ l = some vs ∧ (∀ v ∈ vs, v.oneCell' = true) ∧ Blk h q.1 (vs ++ tl) t ∧ gR q (vs ++ tl).length tl g ∧ st.hp.get id = some (.row l t g true) := by
  unfold rowW at e
  split at e
  · rename_i l' t' g' ho
    cases e
    obtain ⟨q, hq, vs, tl, fz, h1, h2, h3, h4, h5⟩ := hO.obj _ _ ho
    rw [h5 rfl] at h3
    exact ⟨q, vs, tl, hq, h1, h2, h3, h4, ho⟩
  · cases e
include hC in
theorem loadS_ok (hO : Obs st σ h) {t id off : Nat} {s : SV} (e : C.loadS st t id off = some s) :
    ∃ q v, σ id = some q ∧ den σ s = some v ∧ ∀ k : Value → Prop, k v → loadk C.P t q.1 off h k := by
  unfold Cx.loadS at e
  simp only [Option.bind_eq_some_iff, hC.info, hC.und] at e
  obtain ⟨⟨l, t', g⟩, hr, i, hi, e⟩ := e
  obtain ⟨q, vs, tl, hq, hl, h1, hb, _⟩ := row_rd hO hr
  have hlen := denL_length _ _ hl
  have agg : ∀ (n : Nat), off + n ≤ l.length → ((vs.drop off).take n).length = n ∧ Vm.rdN h q.1 off ((vs.drop off).take n) := fun n hn => by
    have hln : ((vs.drop off).take n).length = n := by simp only [List.length_take, List.length_drop, hlen]; omega
    refine ⟨hln, hb.rdN off _ ?_⟩
    rw [hln, List.drop_append_of_le_length (by omega), List.take_append_of_le_length (by simp only [List.length_drop]; omega)]
  split at e
  · rename_i ht
    split at e
    · rename_i hn
      cases e
      obtain ⟨g1, g2⟩ := agg _ hn
      exact ⟨q, _, hq, by simp only [den, take_drop_den hl]; rfl, fun k hk => by unfold loadk; simp only [ht, hi]; exact ⟨_, g1, g2, hk⟩⟩
    · cases e
  · rename_i ht
    split at e
    · rename_i hn
      cases e
      obtain ⟨g1, g2⟩ := agg _ hn
      exact ⟨q, _, hq, by simp only [den, take_drop_den hl]; rfl, fun k hk => by unfold loadk; simp only [ht, hi]; exact ⟨_, g1, g2, hk⟩⟩
    · cases e
  · rename_i d k1 k2 ht
    obtain ⟨v, hv, hg⟩ := denL_get l vs off s hl e
    refine ⟨q, v, hq, hv, fun k hk => ?_⟩
    have hlt := (List.getElem?_eq_some_iff.1 hg).1
    have hrd : Vm.rd h ⟨q.1, off, none⟩ = some v := hb.rd (by rw [List.getElem?_append_left hlt]; exact hg)
    unfold loadk
    rw [ht, hi]
    cases d <;> first
      | exact (k1 _ rfl).elim
      | exact (k2 _ _ rfl).elim
      | exact ⟨v, hrd, hk⟩
  · cases e
theorem addk_ok {b off n : Nat} {k : Addr → Prop} (hk : k ⟨b, off + n, none⟩) : addk ⟨b, off, none⟩ n k := hk
theorem addi_ok {b off i s : Nat} {k : Addr → Prop} (hk : k ⟨b, off + i * s, none⟩) : addi ⟨b, off, none⟩ i s k := by
  unfold addi
  split
  · rename_i e; subst e; rw [Nat.mul_one] at hk; exact hk
  · exact hk
theorem fieldOf_ok (hC : CxOk C) {t i : Nat} {f : Field} (e : fieldOf C t i = some f) : ∃ fs, C.P.underlying t = some (.struct fs) ∧ fs[i]? = some f := by
  unfold fieldOf at e
  rw [hC.und] at e
  split at e
  · rename_i fs ht; exact ⟨fs, ht, by simpa using e⟩
  · cases e
theorem lenS_ok {s : SV} {n : Nat} {v : Value} (e : lenS s = some n) (hv : den σ s = some v) : ∃ A c, v = .slice A n c ∧ n ≤ c ∧ c ≤ maxLen := by
  unfold lenS at e
  split at e
  · cases e; rw [den_sn hv]; exact ⟨_, _, rfl, Nat.le_refl _, Nat.zero_le _⟩
  · cases e; obtain ⟨q, _, hn, rfl⟩ := den_sl hv; exact ⟨_, _, rfl, hn⟩
  · cases e; obtain ⟨q, _, hn, rfl⟩ := den_sg hv; exact ⟨_, _, rfl, by omega, by omega⟩
  · cases e; obtain ⟨q, _, hn, rfl⟩ := den_se hv; exact ⟨_, _, rfl, by omega, by omega⟩
  · cases e
/-- an element of a string -/
theorem bytesOf_get {l : List Nat} {n b : Nat} (hl : l.all (Nat.blt · 256) = true) (e : l[n]? = some b) : (bytesOf l)[n]? = some (UInt8.ofNat b) ∧ (UInt8.ofNat b).toNat = b := by
  obtain ⟨hn, hb⟩ := List.getElem?_eq_some_iff.1 e
  have hs : n < (bytesOf l).size := by rw [bytesOf_size]; exact hn
  have hlt : b < 256 := by
    have := List.all_eq_true.1 hl b (List.mem_of_getElem? e)
    simpa using this
  refine ⟨?_, UInt8.toNat_ofNat_of_lt' hlt⟩
  rw [getElem?_pos (bytesOf l) n hs]
  congr 1
  show (bytesOf l).data[n] = _
  simp [bytesOf, hb]
theorem bytesOf_cut (l : List Nat) (a b : Nat) : (bytesOf l).extract a b = bytesOf ((l.drop a).take (b - a)) := by
  apply ByteArray.ext
  simp only [bytesOf, ByteArray.data_extract, List.extract_toArray]
  rw [List.extract_eq_take_drop]
  congr 1
  rw [List.map_take, List.map_drop]
theorem all_cut {l : List Nat} (hl : l.all (Nat.blt · 256) = true) (a b : Nat) : ((l.drop a).take b).all (Nat.blt · 256) = true := by
  simp only [List.all_eq_true] at *
  exact fun x hx => hl x (List.mem_of_mem_drop (List.mem_of_mem_take hx))
end
end Go.Proofs.YtkdmpdbbcgdfkaaGreatDoor.Sx
