/-
  The evaluator's values and heaps, and those of the model.
-/
import Derived.Test.YtkdmpdbbcgdfkaaGreatDoorJ14
namespace Go.Proofs.YtkdmpdbbcgdfkaaGreatDoor.Sx
open Go Vm
set_option linter.unusedSimpArgs false
/-- where a block's number stands in the heap, and how many elements it has room for -/
abbrev Env := Nat → Option (Nat × Nat)
def Pre (σ τ : Env) : Prop := ∀ i q, σ i = some q → τ i = some q
theorem Pre.refl (σ : Env) : Pre σ σ := fun _ _ h => h
theorem Pre.trans {a b c : Env} (h : Pre a b) (k : Pre b c) : Pre a c := fun i q e => k i q (h i q e)
mutual
def den (σ : Env) : SV → Option Value
  | .b x => some (.bool x)
  | .i k n => some (.int k n)
  | .s l => if l.all (Nat.blt · 256) then some (.string (bytesOf l)) else none
  | .p a o => (σ a).map fun q => .pointer (some ⟨q.1, o, none⟩)
  | .pn => some (.pointer none)
  | .sl a o n c => if n ≤ c ∧ c ≤ maxLen then (σ a).map fun q => .slice (some ⟨q.1, o, none⟩) n c else none
  | .sg a o e n => (σ a).bind fun q => if e + n ≤ q.2 ∧ q.2 ≤ maxLen then some (.slice (some ⟨q.1, o, none⟩) n (q.2 - e)) else none
  | .se a o d e x => (σ a).bind fun q => if e + x ≤ q.2 ∧ q.2 ≤ maxLen then some (.slice (some ⟨q.1, if q.2 - e = x then o else o + d, none⟩) 0 (q.2 - e - x)) else none
  | .sn => some (.slice none 0 0)
  | .m a => (σ a).map fun q => .map (some q.1)
  | .mn => some (.map none)
  | .f g a c => (denL σ a).bind fun a => (denL σ c).map fun c => .func (.func g) a.toArray c.toArray
  | .nf => some .nilFunc
  | .ifc t v => (den σ v).map (.iface t)
  | .nifc => some .nilIface
  | .agg l => (denL σ l).map fun l => .agg l.toArray
  | .tup l => (denL σ l).map fun l => .tuple l.toArray
def denL (σ : Env) : List SV → Option (List Value)
  | [] => some []
  | v :: r => (den σ v).bind fun v => (denL σ r).map (v :: ·)
end
theorem pre_get {σ τ : Env} (h : Pre σ τ) {a : Nat} {q : Nat × Nat} (e : σ a = some q) : τ a = some q := h a q e
mutual
theorem den_mono {σ τ : Env} (h : Pre σ τ) : ∀ (s : SV) (v : Value), den σ s = some v → den τ s = some v
  | .b _, _, e => e
  | .i _ _, _, e => e
  | .s _, _, e => e
  | .p a o, v, e => by
    simp only [den, Option.map_eq_some_iff] at e ⊢
    obtain ⟨q, h1, h2⟩ := e
    exact ⟨q, pre_get h h1, h2⟩
  | .pn, _, e => e
  | .sl a o n c, v, e => by
    simp only [den] at e ⊢
    split at e
    · rename_i hc
      rw [if_pos hc]
      simp only [Option.map_eq_some_iff] at e ⊢
      obtain ⟨q, h1, h2⟩ := e
      exact ⟨q, pre_get h h1, h2⟩
    · cases e
  | .sg a o x n, v, e => by
    simp only [den, Option.bind_eq_some_iff] at e ⊢
    obtain ⟨q, h1, h2⟩ := e
    exact ⟨q, pre_get h h1, h2⟩
  | .se a o d x y, v, e => by
    simp only [den, Option.bind_eq_some_iff] at e ⊢
    obtain ⟨q, h1, h2⟩ := e
    exact ⟨q, pre_get h h1, h2⟩
  | .sn, _, e => e
  | .m a, v, e => by
    simp only [den, Option.map_eq_some_iff] at e ⊢
    obtain ⟨q, h1, h2⟩ := e
    exact ⟨q, pre_get h h1, h2⟩
  | .mn, _, e => e
  | .f g a c, v, e => by
    simp only [den, Option.bind_eq_some_iff, Option.map_eq_some_iff] at e ⊢
    obtain ⟨x, h1, y, h2, h3⟩ := e
    exact ⟨x, denL_mono h a x h1, y, denL_mono h c y h2, h3⟩
  | .nf, _, e => e
  | .ifc t u, v, e => by
    simp only [den, Option.map_eq_some_iff] at e ⊢
    obtain ⟨x, h1, h2⟩ := e
    exact ⟨x, den_mono h u x h1, h2⟩
  | .nifc, _, e => e
  | .agg l, v, e => by
    simp only [den, Option.map_eq_some_iff] at e ⊢
    obtain ⟨x, h1, h2⟩ := e
    exact ⟨x, denL_mono h l x h1, h2⟩
  | .tup l, v, e => by
    simp only [den, Option.map_eq_some_iff] at e ⊢
    obtain ⟨x, h1, h2⟩ := e
    exact ⟨x, denL_mono h l x h1, h2⟩
theorem denL_mono {σ τ : Env} (h : Pre σ τ) : ∀ (l : List SV) (vs : List Value), denL σ l = some vs → denL τ l = some vs
  | [], _, e => e
  | s :: r, vs, e => by
    simp only [denL, Option.bind_eq_some_iff, Option.map_eq_some_iff] at e ⊢
    obtain ⟨x, h1, y, h2, h3⟩ := e
    exact ⟨x, den_mono h s x h1, y, denL_mono h r y h2, h3⟩
end
mutual
theorem den_below {σ τ : Env} {n : Nat} (h : ∀ i, i < n → τ i = σ i) : ∀ (s : SV), below n s = true → den τ s = den σ s
  | .b _, _ => rfl
  | .i _ _, _ => rfl
  | .s _, _ => rfl
  | .p a o, e => by simp only [below, Nat.blt_eq] at e; simp only [den, h _ e]
  | .pn, _ => rfl
  | .sl a o n c, e => by simp only [below, Nat.blt_eq] at e; simp only [den, h _ e]
  | .sg a o x n, e => by simp only [below, Nat.blt_eq] at e; simp only [den, h _ e]
  | .se a o d x y, e => by simp only [below, Nat.blt_eq] at e; simp only [den, h _ e]
  | .sn, _ => rfl
  | .m a, e => by simp only [below, Nat.blt_eq] at e; simp only [den, h _ e]
  | .mn, _ => rfl
  | .f g a c, e => by simp only [below, Bool.and_eq_true] at e; simp only [den, denL_below h a e.1, denL_below h c e.2]
  | .nf, _ => rfl
  | .ifc t u, e => by simp only [below] at e; simp only [den, den_below h u e]
  | .nifc, _ => rfl
  | .agg l, e => by simp only [below] at e; simp only [den, denL_below h l e]
  | .tup l, e => by simp only [below] at e; simp only [den, denL_below h l e]
theorem denL_below {σ τ : Env} {n : Nat} (h : ∀ i, i < n → τ i = σ i) : ∀ (l : List SV), belows n l = true → denL τ l = denL σ l
  | [], _ => rfl
  | s :: r, e => by simp only [belows, Bool.and_eq_true] at e; simp only [denL, den_below h s e.1, denL_below h r e.2]
end
theorem denL_length {σ : Env} : ∀ (l : List SV) (vs : List Value), denL σ l = some vs → vs.length = l.length
  | [], _, e => by simp only [denL, Option.some.injEq] at e; subst e; rfl
  | s :: r, vs, e => by
    simp only [denL, Option.bind_eq_some_iff, Option.map_eq_some_iff] at e
    obtain ⟨x, h1, y, h2, rfl⟩ := e
    simp [denL_length r y h2]
theorem denL_get {σ : Env} : ∀ (l : List SV) (vs : List Value) (i : Nat) (s : SV), denL σ l = some vs → l[i]? = some s → ∃ v, den σ s = some v ∧ vs[i]? = some v
  | [], _, _, _, _, h => by simp at h
  | s :: r, vs, i, u, e, h => by
    simp only [denL, Option.bind_eq_some_iff, Option.map_eq_some_iff] at e
    obtain ⟨x, h1, y, h2, rfl⟩ := e
    cases i with
    | zero => simp only [List.getElem?_cons_zero, Option.some.injEq] at h; subst h; exact ⟨x, h1, rfl⟩
    | succ i => simp only [List.getElem?_cons_succ] at h ⊢; exact denL_get r y i u h2 h
theorem denL_append {σ : Env} : ∀ (a b : List SV) (x y : List Value), denL σ a = some x → denL σ b = some y → denL σ (a ++ b) = some (x ++ y)
  | [], b, x, y, h, k => by simp only [denL, Option.some.injEq] at h; subst h; exact k
  | s :: r, b, x, y, h, k => by
    simp only [denL, Option.bind_eq_some_iff, Option.map_eq_some_iff] at h
    obtain ⟨u, h1, v, h2, rfl⟩ := h
    simp only [List.cons_append, denL, h1, denL_append r b v y h2 k, Option.bind_some, Option.map_some]
theorem denL_take {σ : Env} : ∀ (n : Nat) (l : List SV) (vs : List Value), denL σ l = some vs → denL σ (l.take n) = some (vs.take n)
  | 0, _, _, _ => by simp [denL]
  | n + 1, [], vs, e => by simp only [denL, Option.some.injEq] at e; subst e; simp [denL]
  | n + 1, s :: r, vs, e => by
    simp only [denL, Option.bind_eq_some_iff, Option.map_eq_some_iff] at e
    obtain ⟨x, h1, y, h2, rfl⟩ := e
    simp only [List.take_succ_cons, denL, h1, denL_take n r y h2, Option.bind_some, Option.map_some]
theorem denL_drop {σ : Env} : ∀ (n : Nat) (l : List SV) (vs : List Value), denL σ l = some vs → denL σ (l.drop n) = some (vs.drop n)
  | 0, _, _, e => by simpa using e
  | n + 1, [], vs, e => by simp only [denL, Option.some.injEq] at e; subst e; simp [denL]
  | n + 1, s :: r, vs, e => by
    simp only [denL, Option.bind_eq_some_iff, Option.map_eq_some_iff] at e
    obtain ⟨x, h1, y, h2, rfl⟩ := e
    simpa using denL_drop n r y h2
/-! ### forcing turns nothing -/
@[simp] theorem forceN_eq {α : Type} (n : Nat) (k : Nat → α) : forceN n k = k n := by cases n <;> rfl
@[simp] theorem forceI_eq {α : Type} (n : Int) (k : Int → α) : forceI n k = k n := by cases n <;> simp [forceI]
@[simp] theorem forceNs_eq {α : Type} : ∀ (l : List Nat) (k : List Nat → α), forceNs l k = k l
  | [], _ => rfl
  | n :: r, k => by simp [forceNs, forceNs_eq r]
mutual
theorem forceV_eq {α : Type} : ∀ (v : SV) (k : SV → α), forceV v k = k v
  | .b x, k => by cases x <;> rfl
  | .i a n, k => by cases a <;> simp [forceV]
  | .s l, k => by simp [forceV]
  | .p a o, k => by simp [forceV]
  | .pn, k => rfl
  | .sl a o n c, k => by simp [forceV]
  | .sg a o e n, k => by simp [forceV]
  | .se a o d e x, k => by simp [forceV]
  | .sn, k => rfl
  | .m a, k => by simp [forceV]
  | .mn, k => rfl
  | .f g a c, k => by simp only [forceV, forceN_eq, forceVs_eq a, forceVs_eq c]
  | .nf, k => rfl
  | .ifc t v, k => by simp only [forceV, forceN_eq, forceV_eq v]
  | .nifc, k => rfl
  | .agg l, k => by simp only [forceV, forceVs_eq l]
  | .tup l, k => by simp only [forceV, forceVs_eq l]
theorem forceVs_eq {α : Type} : ∀ (l : List SV) (k : List SV → α), forceVs l k = k l
  | [], _ => rfl
  | v :: r, k => by simp only [forceVs, forceV_eq v, forceVs_eq r]
end
/-! ### tables -/
theorem get_nil {α : Type} (n : Nat) : (Tr.nil : Tr α).get n = none := rfl
theorem get_bare {α : Type} (n : Nat) : (Tr.node .nil none .nil : Tr α).get n = none := by
  cases n with
  | zero => rfl
  | succ n => simp only [Tr.get]; split <;> rfl
theorem setK_bare {α β : Type} (g : Nat) (n : Nat) (x : α) (k : Tr α → Option β) : Tr.setK (g + 1) .nil n x k = Tr.setK (g + 1) (.node .nil none .nil) n x k := by
  cases n <;> rfl
theorem setK_node {α β : Type} {g : Nat} (ih : ∀ (t : Tr α) (n : Nat) (x : α) (k : Tr α → Option β) (r : β), Tr.setK g t n x k = some r → ∃ t', k t' = some r ∧ ∀ j, t'.get j = if j = n then some x else t.get j)
    (l : Tr α) (v : Option α) (q : Tr α) (n : Nat) (x : α) (k : Tr α → Option β) (r : β) (h : Tr.setK (g + 1) (.node l v q) n x k = some r) :
    ∃ t', k t' = some r ∧ ∀ j, t'.get j = if j = n then some x else (Tr.node l v q).get j := by
  cases n with
  | zero =>
    refine ⟨_, h, fun j => ?_⟩
    cases j with
    | zero => rfl
    | succ j => rfl
  | succ n =>
    simp only [Tr.setK] at h
    split at h
    · rename_i hn
      obtain ⟨l', h1, h2⟩ := ih l (n / 2) x _ r h
      refine ⟨_, h1, fun j => ?_⟩
      cases j with
      | zero => rfl
      | succ j =>
        simp only [Tr.get]
        by_cases hj : j % 2 = 0
        · rw [if_pos hj, if_pos hj, h2]
          by_cases e : j = n
          · subst e; simp
          · rw [if_neg (by omega), if_neg (by omega)]
        · rw [if_neg hj, if_neg hj, if_neg (by omega)]
    · rename_i hn
      obtain ⟨l', h1, h2⟩ := ih q (n / 2) x _ r h
      refine ⟨_, h1, fun j => ?_⟩
      cases j with
      | zero => rfl
      | succ j =>
        simp only [Tr.get]
        by_cases hj : j % 2 = 0
        · rw [if_pos hj, if_pos hj, if_neg (by omega)]
        · rw [if_neg hj, if_neg hj, h2]
          by_cases e : j = n
          · subst e; simp
          · rw [if_neg (by omega), if_neg (by omega)]
theorem setK_some {α β : Type} : ∀ (g : Nat) (t : Tr α) (n : Nat) (x : α) (k : Tr α → Option β) (r : β), Tr.setK g t n x k = some r → ∃ t', k t' = some r ∧ ∀ j, t'.get j = if j = n then some x else t.get j
  | 0, _, _, _, _, _, h => by simp [Tr.setK] at h
  | g + 1, .nil, n, x, k, r, h => by
    rw [setK_bare] at h
    obtain ⟨t', h1, h2⟩ := setK_node (setK_some g) _ _ _ n x k r h
    exact ⟨t', h1, fun j => by rw [h2, get_bare, get_nil]⟩
  | g + 1, .node l v q, n, x, k, r, h => setK_node (setK_some g) l v q n x k r h
/-! ### the frame, the heap -/
def Rel (σ : Env) (sf : SF) (fr : Fr) : Prop := ∀ t s, sf.get t = some s → ∃ v, den σ s = some v ∧ lk fr t = some v
theorem Rel.mono {σ τ : Env} (h : Pre σ τ) {sf : SF} {fr : Fr} (H : Rel σ sf fr) : Rel τ sf fr := fun t s e => by
  obtain ⟨v, h1, h2⟩ := H t s e
  exact ⟨v, den_mono h s v h1, h2⟩
theorem Rel.put {σ : Env} {sf : SF} {fr : Fr} (H : Rel σ sf fr) {d : Option Nat} {s : SV} {v : Value} (hv : den σ s = some v) {β : Type} {k : SF → Option β} {r : β} (h : putS sf d s k = some r) :
    ∃ sf', k sf' = some r ∧ Rel σ sf' (Vm.put fr d v) ∧ sf'.ng = sf.ng := by
  cases d with
  | none => exact ⟨sf, h, H, rfl⟩
  | some d =>
    simp only [putS, forceV_eq] at h
    obtain ⟨sf', h1, h2⟩ := setK_some _ _ _ _ _ _ h
    refine ⟨⟨sf.ng, sf'⟩, h1, fun t u e => ?_, rfl⟩
    unfold SF.get at e
    simp only at e
    rw [h2] at e
    simp only [Vm.put, lk]
    split at e
    · rename_i et
      rw [if_pos et]
      cases e
      exact ⟨v, hv, rfl⟩
    · rename_i et
      rw [if_neg et]
      exact H t u e
def gR (q : Nat × Nat) (n : Nat) (tl : List Value) : Option Nat → Prop
  | none => tl = []
  | some k => n = q.2 * k ∧ q.2 ≤ maxLen
/-- what an object is, in the block that stands for it -/
def objR (σ : Env) (q : Nat × Nat) (o : Option Obj) : SO → Prop
  | .row l t g w => ∃ vs tl fz, denL σ l = some vs ∧ (∀ v ∈ vs, v.oneCell' = true) ∧ o = some (.cells (vs ++ tl).toArray t fz) ∧ gR q (vs ++ tl).length tl g ∧ (w = true → fz = (0, 0))
  | .map es => ∃ (mes : Array MapEntry) (c : Nat), o = some (.map mes c) ∧ denL σ (es.map (·.1)) = some (mes.toList.map (·.key)) ∧ denL σ (es.map (·.2)) = some (mes.toList.map (·.val)) ∧ MapKept.Stamped mes c
  | .dead => True
def SO.live : SO → Bool
  | .dead => false
  | _ => true
structure Rep (ng : Nat) (st : St) (σ : Env) (h : Heap) : Prop where
  glob : ∀ g, g < ng → ∃ c, σ g = some (g, c)
  has : ∀ (i : Nat) q, σ i = some q → ng ≤ i → ∃ o, st.hp.get i = some o
  ngn : ng ≤ st.n
  dom : ∀ (i : Nat) q, σ i = some q → i < st.n ∧ q.1 < h.size
  obj : ∀ i o, st.hp.get i = some o → ∃ q, σ i = some q ∧ objR σ q h[q.1]? o
  inj : ∀ i j o o' q r, st.hp.get i = some o → st.hp.get j = some o' → o.live = true → o'.live = true → σ i = some q → σ j = some r → q.1 = r.1 → i = j
/-- a step of the evaluator: which blocks may turn (those that numbers from low on stand for), which numbers are as they were (those below n) -/
structure Steps (n low : Nat) (σ : Env) (h : Heap) (σ' : Env) (h' : Heap) : Prop where
  pre : Pre σ σ'
  same : ∀ i, i < n → σ' i = σ i
  size : h.size ≤ h'.size
  keep : ∀ b, b < h.size → (∀ (i : Nat) q, low ≤ i → σ' i = some q → q.1 ≠ b) → h'[b]? = h[b]?
  new : ∀ (i : Nat) q, σ i = none → σ' i = some q → q.1 < h.size → ∃ (j : Nat) (r : Nat × Nat), low ≤ j ∧ σ j = some r ∧ r.1 = q.1
theorem Steps.refl (n low : Nat) (σ : Env) (h : Heap) : Steps n low σ h σ h :=
  ⟨Pre.refl _, fun _ _ => rfl, Nat.le_refl _, fun _ _ _ => rfl, fun i q hi e _ => by rw [hi] at e; cases e⟩
theorem Steps.ext (n low : Nat) (σ : Env) {h h' : Heap} (e : ExtH h h') : Steps n low σ h σ h' :=
  ⟨Pre.refl _, fun _ _ => rfl, e.size, fun b hb _ => e.block b hb, fun i q hi e _ => by rw [hi] at e; cases e⟩
theorem Steps.trans {n n' low low' : Nat} {σ σ1 σ2 : Env} {h h1 h2 : Heap} (x : Steps n low σ h σ1 h1) (y : Steps n' low' σ1 h1 σ2 h2) (hn : n ≤ n') (hl : low' ≤ low) : Steps n low' σ h σ2 h2 := by
  refine ⟨x.pre.trans y.pre, fun i hi => (y.same i (by omega)).trans (x.same i hi), Nat.le_trans x.size y.size, fun b hb H => ?_, fun i q hi e hq => ?_⟩
  · rw [y.keep b (Nat.lt_of_lt_of_le hb x.size) H]
    exact x.keep b hb fun i q hi e => H i q (Nat.le_trans hl hi) (y.pre i q e)
  · have old : ∀ (i : Nat) (q : Nat × Nat), σ i = none → σ1 i = some q → q.1 < h.size → ∃ (j : Nat) (r : Nat × Nat), low' ≤ j ∧ σ j = some r ∧ r.1 = q.1 := fun i q hi e hq => by
      obtain ⟨j, r, h1, h2⟩ := x.new i q hi e hq
      exact ⟨j, r, Nat.le_trans hl h1, h2⟩
    cases hi1 : σ1 i with
    | some q1 =>
      have := y.pre i q1 hi1
      rw [e] at this
      cases this
      exact old i q hi hi1 hq
    | none =>
      obtain ⟨j, r, h1, h3, h4⟩ := y.new i q hi1 e (Nat.lt_of_lt_of_le hq x.size)
      cases hj : σ j with
      | some r' =>
        have := x.pre j r' hj
        rw [h3] at this
        cases this
        exact ⟨j, r, h1, hj, h4⟩
      | none =>
        obtain ⟨j', r', g1, g3, g4⟩ := old j r hj h3 (by omega)
        exact ⟨j', r', g1, g3, g4.trans h4⟩
theorem Steps.less {n n' low low' : Nat} {σ σ1 : Env} {h h1 : Heap} (x : Steps n low σ h σ1 h1) (hn : n' ≤ n) (hl : low' ≤ low) : Steps n' low' σ h σ1 h1 :=
  ⟨x.pre, fun i hi => x.same i (by omega), x.size, fun b hb H => x.keep b hb fun i q hi e => H i q (Nat.le_trans hl hi) e, fun i q hi e hq => by
    obtain ⟨j, r, h1, h2⟩ := x.new i q hi e hq
    exact ⟨j, r, Nat.le_trans hl h1, h2⟩⟩
/-- nothing old was turned: only blocks came -/
theorem Steps.only {n low : Nat} {σ σ' : Env} {h h' : Heap} (x : Steps n low σ h σ' h') (hd : ∀ i q, σ i = some q → i < low) : ExtH h h' := by
  refine ⟨x.size, fun b hb => x.keep b hb fun i q hi e hq => ?_⟩
  have hnone : σ i = none := by
    cases hs : σ i with
    | none => rfl
    | some r => have := hd i r hs; omega
  obtain ⟨j, r, h1, h2, _⟩ := x.new i q hnone e (by omega)
  have := hd j r h2
  omega
theorem objR.mono {σ τ : Env} (h : Pre σ τ) {q : Nat × Nat} {o : Option Obj} {s : SO} (H : objR σ q o s) : objR τ q o s := by
  cases s with
  | row l t g w =>
    obtain ⟨vs, tl, fz, h1, h2⟩ := H
    exact ⟨vs, tl, fz, denL_mono h _ _ h1, h2⟩
  | map es =>
    obtain ⟨mes, c, h1, h2, h3, h4⟩ := H
    exact ⟨mes, c, h1, denL_mono h _ _ h2, denL_mono h _ _ h3, h4⟩
  | dead => trivial
theorem Rep.ext {ng : Nat} {st : St} {σ : Env} {h h' : Heap} (H : Rep ng st σ h) (e : ExtH h h') : Rep ng st σ h' :=
  ⟨H.glob, H.has, H.ngn, fun i q hq => ⟨(H.dom i q hq).1, Nat.lt_of_lt_of_le (H.dom i q hq).2 e.size⟩, fun i o ho => by
    obtain ⟨q, hq, hr⟩ := H.obj i o ho
    exact ⟨q, hq, by rw [e.block q.1 (H.dom i q hq).2]; exact hr⟩, H.inj⟩
end Go.Proofs.YtkdmpdbbcgdfkaaGreatDoor.Sx
