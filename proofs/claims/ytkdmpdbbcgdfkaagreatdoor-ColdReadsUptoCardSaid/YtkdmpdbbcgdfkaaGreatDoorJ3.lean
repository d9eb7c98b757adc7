/-
  Regions, drawn or not; branches, blocks, loops; from a body to a contract.
-/
import Derived.Test.YtkdmpdbbcgdfkaaGreatDoorJ2
namespace Go.Proofs.YtkdmpdbbcgdfkaaGreatDoor.Vm
open Go
variable {ds : List Deferred}
set_option linter.unusedSimpArgs false
/-- an operation's guard: A where it is carried out, B where it is passed over -/
def gk (all : List Oper) (o : Oper) (fr : Fr) (A B : Prop) : Prop :=
  match o.guard with
  | none => A
  | some (j, want) => match (all[j]?).bind (·.dst) with
    | some d => match lk fr d with
      | some (.bool b) => match b, want with
        | true, true => A
        | false, false => A
        | true, false => B
        | false, true => B
      | some (.tuple _) => B
      | _ => False
    | none => False
theorem gk_elim {all : List Oper} {o : Oper} {fr : Fr} {A B : Prop} (H : gk all o fr A B) {n : Nat} {a : Act} (hF : Hold ds n fr a) :
    (Region.wanted o (yielded all.toArray a.tmps) = true ∧ A) ∨ (Region.wanted o (yielded all.toArray a.tmps) = false ∧ B) := by
  unfold gk at H
  split at H
  · rename_i hg; exact .inl ⟨by simp [Region.wanted, hg], H⟩
  · rename_i j want hg
    split at H
    · rename_i d hd
      split at H
      · rename_i b hb
        obtain ⟨h1, h2⟩ := hF.has d _ hb
        have h3 : a.tmps[d]? = some (.bool b) := by
          rw [Array.getD_eq_getD_getElem?] at h2
          have : d < a.tmps.size := by rw [hF.size]; exact h1
          simpa [Array.getElem?_eq_getElem this] using h2
        have hy : yielded all.toArray a.tmps j = some b := by
          unfold yielded
          rw [show ((all.toArray[j]?).bind (·.dst)) = some d by simpa using hd]
          simp [h3]
        split at H
        · exact .inl ⟨by simp [Region.wanted, hg, hy], H⟩
        · exact .inl ⟨by simp [Region.wanted, hg, hy], H⟩
        · exact .inr ⟨by simp [Region.wanted, hg, hy], H⟩
        · exact .inr ⟨by simp [Region.wanted, hg, hy], H⟩
      · rename_i us hb
        obtain ⟨h1, h2⟩ := hF.has d _ hb
        have h3 : a.tmps[d]? = some (.tuple us) := by
          rw [Array.getD_eq_getD_getElem?] at h2
          have : d < a.tmps.size := by rw [hF.size]; exact h1
          simpa [Array.getElem?_eq_getElem this] using h2
        have hy : yielded all.toArray a.tmps j = none := by
          unfold yielded
          rw [show ((all.toArray[j]?).bind (·.dst)) = some d by simpa using hd]
          simp [h3]
        exact .inr ⟨by simp [Region.wanted, hg, hy], H⟩
      · exact H.elim
    · exact H.elim
/-- the operations of a list, one behind the other -/
def evOps (P : Program) (all : List Oper) : List Oper → Fr → Heap → (Fr → Heap → Prop) → Prop
  | [], fr, h, K => K fr h
  | o :: r, fr, h, K => gk all o fr (opx P o fr h fun v h' => evOps P all r (put fr o.dst v) h' K) (evOps P all r (put fr o.dst undef) h K)
def dstsB (n : Nat) (ops : List Oper) : Bool := ops.all fun o => match o.dst with
  | some d => Nat.blt d n
  | none => true
theorem dok_of {n : Nat} {ops : List Oper} (h : dstsB n ops = true) {o : Oper} (ho : o ∈ ops) : dok n o.dst := by
  have := List.all_eq_true.1 h o ho
  unfold dok
  split
  · rename_i d hd; simp only [hd] at this; rwa [Nat.blt_eq] at this
  · trivial
theorem evOps_sound {P : Program} {n : Nat} {all : List Oper} {Q : Exit → Act → World → Prop} {K : Fr → Heap → Prop} : ∀ (l : List Oper), (∀ o ∈ l, dok n o.dst) → ∀ (fr : Fr) (h : Heap) (a : Act) (w : World),
    evOps P all l fr h K → Hold ds n fr a → w.heap = h → (∀ fr' a' w', Hold ds n fr' a' → SameEnv w w' → K fr' w'.heap → Q .normal a' w') → wpList P all.toArray Q l a w
  | [], _, fr, h, a, w, H, hF, hw, hQ => hQ fr a w hF (SameEnv.refl w) (hw ▸ H)
  | o :: r, hd, fr, h, a, w, H, hF, hw, hQ => by
    unfold evOps at H
    unfold wpList
    rcases gk_elim H hF with ⟨hg, H⟩ | ⟨hg, H⟩
    · rw [if_pos hg]
      refine .inl (wp_of_comes (opx_sound hF H hw) fun v w' hs hk => ?_)
      exact evOps_sound r (fun o ho => hd o (by simp [ho])) _ _ _ w' hk (hF.put _ _ (hd o (by simp))) rfl (fun fr' a' w'' h1 h2 h3 => hQ fr' a' w'' h1 (hs.trans h2) h3)
    · rw [if_neg (by simp [hg])]
      exact evOps_sound r (fun o ho => hd o (by simp [ho])) _ _ _ w H (hF.put _ _ (hd o (by simp))) hw hQ
/-- an operation of a drawn region's head that yields the same whatever blocks come -/
def opqc (P : Program) (o : Oper) (fr : Fr) (h : Heap) (k : Value → Prop) : Prop :=
  match quietOp P o with
  | true => opq P o fr h k
  | false => match o.op with
    | .call c => match c.callee with
      | .value f => evk fr f fun fv => match fv with
        | .func (.func f) first cap => ∃ vs, evs fr c.args.toList = some vs ∧ ∃ v, FxQ P f (first ++ vs.toArray ++ cap) h v ∧ k v
        | _ => False
      | _ => False
    | _ => False
/-- blocks below B are as they were -/
structure ExtU (B : Nat) (h h' : Heap) : Prop where
  size : h.size ≤ h'.size
  block : ∀ b, b < B → b < h.size → h'[b]? = h[b]?
theorem ExtH.toU {h h' : Heap} (B : Nat) (e : ExtH h h') : ExtU B h h' := ⟨e.size, fun b _ hb => e.block b hb⟩
/-- h0: the heap at the region's beginning -/
def evH (P : Program) (all : List Oper) (imp : Nat → Bool) (h0 : Heap) (L : Fr → Heap → Prop) : List Nat → Fr → Heap → Prop
  | [], fr, h => ∀ h', ExtH h h' → L fr h'
  | i :: p, fr, h => match all[i]? with
    | none => False
    | some o => gk all o fr
        (match imp i with
          | true => ∀ h1, ExtH h h1 → opx P o fr h1 fun v h2 => ExtU h0.size h1 h2 ∧ ∀ h3, ExtH h2 h3 → evH P all imp h0 L p (put fr o.dst v) h3
          | false => opqc P o fr h0 fun v => evH P all imp h0 L p (put fr o.dst v) h)
        (evH P all imp h0 L p (put fr o.dst undef) h)
/-- the blocks of K are as they were -/
structure ExtP (K : Nat → Prop) (h h' : Heap) : Prop where
  size : h.size ≤ h'.size
  block : ∀ b, K b → b < h.size → h'[b]? = h[b]?
theorem ExtH.toP {h h' : Heap} (K : Nat → Prop) (e : ExtH h h') : ExtP K h h' := ⟨e.size, fun b _ hb => e.block b hb⟩
theorem ExtP.refl (K : Nat → Prop) (h : Heap) : ExtP K h h := ⟨Nat.le_refl _, fun _ _ _ => rfl⟩
theorem ExtP.trans {K : Nat → Prop} {a b c : Heap} (x : ExtP K a b) (y : ExtP K b c) : ExtP K a c := ⟨Nat.le_trans x.size y.size, fun i hK hi => (y.block i hK (Nat.lt_of_lt_of_le hi x.size)).trans (x.block i hK hi)⟩
theorem ExtB.ofP {K : Nat → Prop} {w w' : World} (h : SameEnv w w') (k : ExtP K w.heap w'.heap) : ExtB K w w' := ⟨h.os, h.tape, h.output, k.size, k.block⟩
theorem ExtB.heap {K : Nat → Prop} {w w' : World} (h : ExtB K w w') : ExtP K w.heap w'.heap := ⟨h.size, h.block⟩
theorem ExtU.p {B : Nat} {h h' : Heap} (k : ExtU B h h') : ExtP (fun b => b < B) h h' := ⟨k.size, k.block⟩
theorem extX_of_comes {P : Program} {B : Nat → Prop} {o : Oper} {a : Act} {w : World} {k : Value → Heap → Prop} {K : Act → World → Prop}
    (H : Comes' P ((execOp a.eval o).run P w) w fun v h2 => ExtP B w.heap h2 ∧ ∀ h3, ExtH h2 h3 → k v h3)
    (hK : ∀ v w', SameEnv w w' → k v w'.heap → K (a.put o.dst v) w') : extX P B o a w K := by
  unfold extX
  generalize (execOp a.eval o).run P w = r at *
  cases r with
  | halt x w' => exact H.elim
  | ok nx w' =>
    cases nx <;> simp only [Comes'] at H <;> simp only [uponX]
    case value v => exact ⟨ExtB.ofP H.1 H.2.1, fun w3 h3 => hK _ _ (H.1.trans h3.env) (H.2.2 _ h3.heap)⟩
    case skip => exact ⟨ExtB.ofP H.1 H.2.1, fun w3 h3 => hK _ _ (H.1.trans h3.env) (H.2.2 _ h3.heap)⟩
    case enter f args =>
      obtain ⟨rfl, H⟩ := H
      refine ⟨ExtB.refl _ _, H.mono ?_⟩
      rintro e w'' ⟨v, he, hs, hx, hk⟩
      exact ⟨v, he, ExtB.ofP hs hx, fun w3 h3 => hK _ _ (hs.trans h3.env) (hk _ h3.heap)⟩
theorem opqc_sound {P : Program} {o : Oper} {fr : Fr} {h : Heap} {k : Value → Prop} {n : Nat} {a : Act} (hF : Hold ds n fr a) (H : opqc P o fr h k) {w : World} (hw : ExtH h w.heap) :
    ∃ v, k v ∧ ∀ w1, ExtB (fun b => b < h.size) w w1 → uponV P w1 v ((execOp a.eval o).run P w1) := by
  have hB : ∀ {w1 : World}, ExtB (fun b => b < h.size) w w1 → ExtH h w1.heap := fun {w1} e => ⟨Nat.le_trans hw.size e.size, fun b hb => (e.block b hb (Nat.lt_of_lt_of_le hb hw.size)).trans (hw.block b hb)⟩
  unfold opqc at H
  split at H
  · obtain ⟨v, hk, hr⟩ := opq_sound hF H
    exact ⟨v, hk, fun w1 h1 => by rw [hr w1 (hB h1)]; exact ⟨rfl, Ext.refl _⟩⟩
  · rename_i hq
    split at H
    · rename_i c ho
      split at H
      · rename_i f hc
        obtain ⟨fv, hfv, H⟩ := evk_elim H
        split at H
        · rename_i f' first cap
          obtain ⟨vs, hvs, v, hR, hk⟩ := H
          refine ⟨v, hk, fun w1 h1 => ?_⟩
          have hi : opi P o fr w1.heap (fun u h2 => u = v ∧ ExtH w1.heap h2) := by
            unfold opi
            simp only [ho, hc, evk, hfv]
            exact ⟨vs, hvs, _, hR w1.heap (hB h1), fun _ _ h => h⟩
          have hc' := opi_sound hF hi (w := w1) rfl
          generalize (execOp a.eval o).run P w1 = r at *
          cases r with
          | halt x w' => exact hc'.elim
          | ok nx w' =>
            cases nx <;> simp only [Comes'] at hc' <;> simp only [uponV]
            case value u => exact ⟨hc'.2.1, Ext.of hc'.1 hc'.2.2⟩
            case skip => exact ⟨hc'.2.1.symm, Ext.of hc'.1 hc'.2.2⟩
            case enter g args =>
              obtain ⟨rfl, hc'⟩ := hc'
              refine ⟨Ext.refl _, hc'.mono ?_⟩
              rintro e w'' ⟨u, he, hs, rfl, hx⟩
              exact ⟨he, Ext.of hs hx⟩
        · exact H.elim
      · exact H.elim
    · exact H.elim
theorem evH_sound {P : Program} {n : Nat} {all : List Oper} {imp : Nat → Bool} {h0 : Heap} {L : Fr → Heap → Prop} {L' : Act → World → Prop} (hd : ∀ o ∈ all, dok n o.dst) (w0 : World) (hL : ∀ fr a w, Hold ds n fr a → SameEnv w0 w → L fr w.heap → L' a w) :
    ∀ (p : List Nat) (fr : Fr) (h : Heap) (a : Act) (w : World), evH P all imp h0 L p fr h → Hold ds n fr a → ExtH h w.heap → ExtH h0 w.heap → SameEnv w0 w → wpH P (fun b => b < h0.size) all.toArray imp L' p a w
  | [], fr, h, a, w, H, hF, hw, _, hs => hL fr a w hF hs (H _ hw)
  | i :: p, fr, h, a, w, H, hF, hw, hw0, hs => by
    unfold evH at H
    unfold wpH
    cases ho : all[i]? with
    | none => simp [ho] at H
    | some o =>
      simp only [ho] at H
      have hdo : dok n o.dst := hd o (List.mem_of_getElem? ho)
      have ho' : all.toArray[i]? = some o := by simpa using ho
      cases him : imp i with
      | true =>
        simp only [him] at H
        simp only [if_true]
        unfold opX
        simp only [ho']
        rcases gk_elim H hF with ⟨hg, H⟩ | ⟨hg, H⟩
        · rw [if_pos hg]
          refine extX_of_comes (k := fun v h3 => ExtH h0 h3 ∧ evH P all imp h0 L p (put fr o.dst v) h3) ?_ fun v w' hs' hk => ?_
          · refine (opx_sound hF (H w.heap hw) rfl).mono fun v h2 hk => ⟨hk.1.p, fun h3 h23 => ⟨?_, hk.2 h3 h23⟩⟩
            have h02 : ExtH h0 h2 := ⟨Nat.le_trans hw0.size hk.1.size, fun b hb => (hk.1.block b hb (Nat.lt_of_lt_of_le hb hw0.size)).trans (hw0.block b hb)⟩
            exact h02.trans h23
          · exact evH_sound hd w0 hL p _ _ _ w' hk.2 (hF.put _ _ hdo) (ExtH.refl _) hk.1 (hs.trans hs')
        · rw [if_neg (by simp [hg])]
          exact fun w3 h3 => evH_sound hd w0 hL p _ _ _ w3 H (hF.put _ _ hdo) (hw.trans h3.heap) (hw0.trans h3.heap) (hs.trans h3.env)
      | false =>
        simp only [him] at H
        simp only [Bool.false_eq_true, if_false, ho']
        rcases gk_elim H hF with ⟨hg, H⟩ | ⟨hg, H⟩
        · obtain ⟨v, hk, hv⟩ := opqc_sound hF H hw0
          exact ⟨v, .inl ⟨hg, hv⟩, fun w2 h2 => evH_sound hd w0 hL p _ _ _ w2 hk (hF.put _ _ hdo) (hw.trans h2.heap) (hw0.trans h2.heap) (hs.trans h2.env)⟩
        · exact ⟨undef, .inr ⟨hg, rfl⟩, fun w2 h2 => evH_sound hd w0 hL p _ _ _ w2 H (hF.put _ _ hdo) (hw.trans h2.heap) (hw0.trans h2.heap) (hs.trans h2.env)⟩
/-! ### code -/
/-- what holds where a piece of code is left -/
def Post (ds : List Deferred) (w0 : World) (n : Nat) (Q : Exit → Fr → Heap → Prop) : Exit → Act → World → Prop := fun e a w => ∃ fr, Hold ds n fr a ∧ SameEnv w0 w ∧ Q e fr w.heap
/-- code over a frame of n slots and a heap -/
structure CwD (ds : List Deferred) (P : Program) (n : Nat) (c : Code) (Q : Exit → Fr → Heap → Prop) (fr : Fr) (h : Heap) : Prop where
  run : ∀ w0 a w, Hold ds n fr a → SameEnv w0 w → w.heap = h → c.wp P (Post ds w0 n Q) a w
abbrev Cw := CwD []
section
variable {P : Program} {n : Nat} {Q : Exit → Fr → Heap → Prop} {fr : Fr} {h : Heap}
def thenQ (N : Fr → Heap → Prop) (Q : Exit → Fr → Heap → Prop) : Exit → Fr → Heap → Prop
  | .normal, fr, h => N fr h
  | e, fr, h => Q e fr h
theorem Post.then {w0 : World} {N : Fr → Heap → Prop} {K : Act → World → Prop} (hN : ∀ fr a w, Hold ds n fr a → SameEnv w0 w → N fr w.heap → K a w) :
    ∀ e a w, Post ds w0 n (thenQ N Q) e a w → Exit.then K (Post ds w0 n Q) e a w := by
  rintro e a w ⟨fr, hF, hs, hq⟩
  cases e with
  | normal => exact hN fr a w hF hs hq
  | _ => exact ⟨fr, hF, hs, hq⟩
theorem cw_seq {x y : Code} (H : CwD ds P n x (thenQ (fun fr h => CwD ds P n y Q fr h) Q) fr h) : CwD ds P n (.seq x y) Q fr h :=
  ⟨fun w0 a w hF hs hw => wp_seq (Code.wp_mono (Post.then fun _ a' w' hF' hs' hk => hk.run w0 a' w' hF' hs' rfl) (H.run w0 a w hF hs hw))⟩
theorem cw_skip (H : Q .normal fr h) : CwD ds P n .skip Q fr h := ⟨fun _ _ _ hF hs hw => wp_skip ⟨fr, hF, hs, hw ▸ H⟩⟩
theorem cw_ret (H : Q .ret fr h) : CwD ds P n .ret Q fr h := ⟨fun _ _ _ hF hs hw => wp_ret ⟨fr, hF, hs, hw ▸ H⟩⟩
theorem cw_exit {id : Nat} (H : Q (.exit id) fr h) : CwD ds P n (.exit id) Q fr h := ⟨fun _ _ _ hF hs hw => wp_exit ⟨fr, hF, hs, hw ▸ H⟩⟩
def blockQ (id : Nat) (Q : Exit → Fr → Heap → Prop) : Exit → Fr → Heap → Prop
  | .exit id', fr, h => if id' = id then Q .normal fr h else Q (.exit id') fr h
  | e, fr, h => Q e fr h
theorem cw_block {id : Nat} {c : Code} (H : CwD ds P n c (blockQ id Q) fr h) : CwD ds P n (.block id c) Q fr h :=
  ⟨fun w0 a w hF hs hw => wp_block (Code.wp_mono (by
    rintro e a w ⟨fr, hF, hs, hq⟩
    cases e with
    | exit id' =>
      simp only [Exit.inBlock]
      simp only [blockQ] at hq
      split
      · rename_i e; rw [if_pos e] at hq; exact ⟨fr, hF, hs, hq⟩
      · rename_i e; rw [if_neg e] at hq; exact ⟨fr, hF, hs, hq⟩
    | _ => exact ⟨fr, hF, hs, hq⟩) (H.run w0 a w hF hs hw))⟩
theorem cw_cond {c : Operand} {x y : Code} {b : Bool} (hc : ev fr c = some (.bool b)) (H : CwD ds P n (if b then x else y) Q fr h) : CwD ds P n (.cond c x y) Q fr h :=
  ⟨fun w0 a w hF hs hw => wp_cond (hF.ev hc) (H.run w0 a w hF hs hw)⟩
theorem cw_true {c : Operand} {x y : Code} (hc : ev fr c = some (.bool true)) (H : CwD ds P n x Q fr h) : CwD ds P n (.cond c x y) Q fr h := cw_cond hc H
theorem cw_false {c : Operand} {x y : Code} (hc : ev fr c = some (.bool false)) (H : CwD ds P n y Q fr h) : CwD ds P n (.cond c x y) Q fr h := cw_cond hc H
theorem cw_split {c : Operand} {x y : Code} {b : Bool} (hc : ev fr c = some (.bool b)) (H1 : b = true → CwD ds P n x Q fr h) (H2 : b = false → CwD ds P n y Q fr h) : CwD ds P n (.cond c x y) Q fr h := by
  cases b with
  | true => exact cw_true hc (H1 rfl)
  | false => exact cw_false hc (H2 rfl)
theorem cw_yes {c : Operand} {x y : Code} {p : Prop} [Decidable p] (hc : ev fr c = some (.bool (decide p))) (hp : p) (H : CwD ds P n x Q fr h) : CwD ds P n (.cond c x y) Q fr h := cw_true (by rw [hc, decide_eq_true hp]) H
theorem cw_no {c : Operand} {x y : Code} {p : Prop} [Decidable p] (hc : ev fr c = some (.bool (decide p))) (hp : ¬ p) (H : CwD ds P n y Q fr h) : CwD ds P n (.cond c x y) Q fr h := cw_false (by rw [hc, decide_eq_false hp]) H
theorem cw_keep {c : Code} (fr' : Fr) (hs : Sub fr' fr) (H : CwD ds P n c Q fr' h) : CwD ds P n c Q fr h := ⟨fun w0 a w hF he hw => H.run w0 a w (hF.sub hs) he hw⟩
theorem cw_mono {c : Code} {Q' : Exit → Fr → Heap → Prop} (H : CwD ds P n c Q fr h) (hq : ∀ e fr h, Q e fr h → Q' e fr h) : CwD ds P n c Q' fr h :=
  ⟨fun w0 a w hF hs hw => Code.wp_mono (fun _ _ _ ⟨fr, h1, h2, h3⟩ => ⟨fr, h1, h2, hq _ _ _ h3⟩) (H.run w0 a w hF hs hw)⟩
theorem cw_region {id : Nat} {ops : Array Oper} (hd : dstsB n ops.toList = true) (H : evOps P ops.toList ops.toList fr h fun fr h => Q .normal fr h) : CwD ds P n (.region id ops false) Q fr h :=
  ⟨fun w0 a w hF hs hw => wp_region_list (by
    have := evOps_sound (n := n) (Q := Post ds w0 n Q) ops.toList (fun o ho => dok_of hd ho) fr h a w H hF hw (fun fr' a' w' hF' hs' hk => ⟨fr', hF', hs.trans hs', hk⟩)
    simpa using this)⟩
theorem cw_drawn {id : Nat} {ops : Array Oper} (hm : P.follows .mixedOrders = true) (m : Nat) (imp : Nat → Bool) (p : List Nat) (hB : regB ops m imp p = true) (hd : dstsB n ops.toList = true)
    (H : evH P ops.toList imp h (fun fr h => evOps P ops.toList (ops.toList.drop m) fr h fun fr h => Q .normal fr h) p fr h) : CwD ds P n (.region id ops true) Q fr h :=
  ⟨fun w0 a w hF hs hw => by
    refine wp_region_head (fun b => b < h.size) m imp p hm hB ?_
    have := evH_sound (n := n) (P := P) (all := ops.toList) (imp := imp) (h0 := h) (fun o ho => dok_of hd ho) w0 (L' := fun a' w' => wpList P ops (Post ds w0 n Q) (ops.toList.drop m) a' w')
      (fun fr1 a' w' hF' hs' hk => by
        have := evOps_sound (n := n) (Q := Post ds w0 n Q) (ops.toList.drop m) (fun o ho => dok_of hd (List.mem_of_mem_drop ho)) fr1 w'.heap a' w' hk hF' rfl (fun fr'' a'' w'' hF'' hs'' hk' => ⟨fr'', hF'', hs'.trans hs'', hk'⟩)
        simpa using this)
      p fr h a { w with drawn := w.drawn + 1 } H hF (hw ▸ ExtH.refl _) (hw ▸ ExtH.refl _) ⟨hs.os, hs.tape, hs.output⟩
    simpa using this⟩
/-- A loop: at each round's head the frame is F s, and H s holds of the heap, for some s; a round lowers μ. -/
theorem cw_loop {S : Type} (F : S → Fr) (I : S → Heap → Prop) (μ : S → Nat) (s0 : S) {c : Code} (h0 : Sub (F s0) fr) (hI : I s0 h)
    (round : ∀ s h, I s h → CwD ds P n c (thenQ (fun fr' h' => ∃ s', Sub (F s') fr' ∧ I s' h' ∧ μ s' < μ s) Q) (F s) h) : CwD ds P n (.loop c) Q fr h := by
  refine ⟨fun w0 a w hF hs hw b k cs => ?_⟩
  have key : ∀ m s a w, μ s = m → Hold ds n (F s) a → SameEnv w0 w → I s w.heap →
      ∃ e a' w', Post ds w0 n Q e a' w' ∧ Arrives P (lone (b.at a (.code c :: .inLoop c :: k)) cs w) b k cs e a' w' := by
    intro m
    induction m using Nat.strongRecOn with
    | _ m ih =>
      intro s a w hm hF hs hI
      obtain ⟨e, a₁, w₁, ⟨fr₁, hF₁, hs₁, hq⟩, harr⟩ := (round s w.heap hI).run w0 a w hF hs rfl b (.inLoop c :: k) cs
      cases e with
      | normal =>
        obtain ⟨s', hsub, hI', hlt⟩ := hq
        obtain ⟨e₂, a₂, w₂, hq₂, harr₂⟩ := ih (μ s') (hm ▸ hlt) s' a₁ w₁ rfl (hF₁.sub hsub) hs₁ hI'
        exact ⟨e₂, a₂, w₂, hq₂, .of_steps (Steps.trans harr (.one step_inLoop)) harr₂⟩
      | exit id => exact ⟨_, a₁, w₁, ⟨fr₁, hF₁, hs₁, hq⟩, .pass (x := .inLoop c) rfl (fun _ _ => .inl (by simp)) harr⟩
      | goto l => exact ⟨_, a₁, w₁, ⟨fr₁, hF₁, hs₁, hq⟩, .pass (x := .inLoop c) rfl (fun _ _ => .inl (by simp)) harr⟩
      | ret => exact ⟨_, a₁, w₁, ⟨fr₁, hF₁, hs₁, hq⟩, .pass (x := .inLoop c) rfl (fun _ _ => .inl (by simp)) harr⟩
      | panic ch => exact ⟨_, a₁, w₁, ⟨fr₁, hF₁, hs₁, hq⟩, .pass (x := .inLoop c) rfl (fun _ _ => .inl (by simp)) harr⟩
      | outgrown => exact ⟨_, a₁, w₁, ⟨fr₁, hF₁, hs₁, hq⟩, .pass (x := .inLoop c) rfl (fun _ _ => .inl (by simp)) harr⟩
  obtain ⟨e, a', w', hq, harr⟩ := key _ s0 a w rfl (hF.sub h0) hs (hw ▸ hI)
  exact ⟨e, a', w', hq, .of_steps (.one step_loop) harr⟩
/-! ### from a body to a contract -/
def resL (P : Program) : List ResultVar → Fr → Heap → (List Value → Prop) → Prop
  | [], _, _, k => k []
  | .tmp t :: r, fr, h, k => match lk fr t with
    | some v => resL P r fr h fun vs => k (v :: vs)
    | none => False
  | .cell a T :: r, fr, h, k => match lk fr a with
    | some (.pointer (some ⟨b, off, none⟩)) => loadk P T b off h fun v => resL P r fr h fun vs => k (v :: vs)
    | _ => False
def one (vs : List Value) : Value :=
  match vs with
  | [v] => v
  | vs => .tuple vs.toArray
def resF (tmps : Array Value) : ResultVar → Sem Value
  | .tmp t => pure (tmps.getD t undef)
  | .cell x t => do loadVar t (← asAddr (tmps.getD x undef))
theorem resL_run {P : Program} {n : Nat} {fr : Fr} {a : Act} {w : World} (hF : Hold ds n fr a) : ∀ (l : List ResultVar) (k : List Value → Prop), resL P l fr w.heap k →
    ∃ vs, k vs ∧ (l.mapM (resF a.tmps)).run P w = .ok vs w
  | [], k, H => ⟨[], H, by simp⟩
  | .tmp t :: r, k, H => by
    unfold resL at H
    split at H
    · rename_i v hv
      obtain ⟨vs, hk, hr⟩ := resL_run hF r _ H
      refine ⟨v :: vs, hk, ?_⟩
      have e : (resF a.tmps (.tmp t)).run P w = .ok v w := by simp only [resF, Sem.run_pure, (hF.has t v hv).2]
      simp only [List.mapM_cons, Sem.run_bind, Sem.run_pure, Result.andThen_ok, e, hr]
    · exact H.elim
  | .cell x T :: r, k, H => by
    unfold resL at H
    split at H
    · rename_i b off hx
      obtain ⟨v, H, hl⟩ := loadk_elim H
      obtain ⟨vs, hk, hr⟩ := resL_run hF r _ H
      refine ⟨v :: vs, hk, ?_⟩
      have e : (resF a.tmps (.cell x T)).run P w = .ok v w := by simp only [resF, (hF.has x _ hx).2, asAddr, Sem.run_bind, Sem.run_pure, Result.andThen_ok, hl w (ExtH.refl _)]
      simp only [List.mapM_cons, Sem.run_bind, Sem.run_pure, Result.andThen_ok, e, hr]
    · exact H.elim
theorem results_run {P : Program} {n : Nat} {fr : Fr} {a : Act} {w : World} {fn : Func} {R : Value → Prop} (hF : Hold ds n fr a) (H : resL P fn.results.toList fr w.heap fun vs => R (one vs)) :
    ∃ v, R v ∧ (results fn a.tmps).run P w = .ok v w := by
  obtain ⟨vs, hR, hr⟩ := resL_run hF fn.results.toList _ H
  refine ⟨one vs, hR, ?_⟩
  have e : (fn.results.mapM (resF a.tmps)).run P w = .ok vs.toArray w := by
    rw [Array.mapM_eq_mapM_toList, map_eq_pure_bind, Sem.run_bind, hr]
    rfl
  have e1 : results fn a.tmps = (do
      let vs ← fn.results.mapM (resF a.tmps)
      pure (if h : vs.size = 1 then vs[0] else .tuple vs)) := by
    unfold results
    congr 2
  rw [e1, Sem.run_bind, e]
  simp only [Result.andThen_ok, Sem.run_pure]
  congr 1
  match vs with
  | [] => rfl
  | [v] => rfl
  | u :: v :: r => simp [one]
def argsFr : List Value → Nat → Fr
  | [], _ => []
  | v :: r, i => (i, v) :: argsFr r (i + 1)
theorem lk_argsFr : ∀ (l : List Value) (i t : Nat) (v : Value), lk (argsFr l i) t = some v → i ≤ t ∧ l[t - i]? = some v
  | [], _, _, _, h => by simp [argsFr, lk] at h
  | u :: r, i, t, v, h => by
    simp only [argsFr, lk] at h
    split at h
    · rename_i e; subst e; cases h; simp
    · rename_i e
      obtain ⟨h1, h2⟩ := lk_argsFr r (i + 1) t v h
      refine ⟨by omega, ?_⟩
      rw [show t - i = (t - (i + 1)) + 1 by omega]
      simpa using h2
def fnQ (P : Program) (fn : Func) (R : Value → Heap → Prop) : Exit → Fr → Heap → Prop
  | .normal, fr, h => resL P fn.results.toList fr h fun vs => R (one vs) h
  | .ret, fr, h => resL P fn.results.toList fr h fun vs => R (one vs) h
  | _, _, _ => False
/-- a function that makes nothing and changes nothing -/
def FxP (P : Program) (f : FuncId) (args : Array Value) (v : Value) : Prop := ∀ h, Fx P f args h fun u h' => u = v ∧ h' = h
theorem FxP.q {P : Program} {f : FuncId} {args : Array Value} {v : Value} (H : FxP P f args v) (h : Heap) : FxQ P f args h v :=
  fun h1 _ => (H h1).mono fun _ _ ⟨e, e'⟩ => ⟨e, e' ▸ ExtH.refl _⟩
/-- FROM A BODY TO A CONTRACT. -/
theorem fn_of {P : Program} {f : FuncId} {fn : Func} {c : Code} {args : Array Value} {h : Heap} {R : Value → Heap → Prop} (n : Nat) (hf : P.funcs[f]? = some fn) (hb : fn.body = some c) (hp : plain P f = true)
    (hn : fn.ntmps = n) (ha : args.size ≤ n) (H : Cw P n c (fnQ P fn R) (argsFr args.toList 0) h) : Fx P f args h R := by
  refine .inl ⟨hp, fun w hw => calls_of_wp hf hb ?_⟩
  have hF : Hold [] n (argsFr args.toList 0) { tmps := args ++ Array.replicate (fn.ntmps - args.size) undef, defers := [] } := by
    refine ⟨by simp [hn]; omega, rfl, fun t v hl => ?_⟩
    obtain ⟨_, h2⟩ := lk_argsFr _ _ _ _ hl
    simp only [Nat.sub_zero, Array.getElem?_toList] at h2
    obtain ⟨h3, h4⟩ := Array.getElem?_eq_some_iff.1 h2
    refine ⟨by omega, ?_⟩
    rw [Array.getD_eq_getD_getElem?, Array.getElem?_append_left h3, h2]
    rfl
  refine Code.wp_mono ?_ (H.run w _ w hF (SameEnv.refl w) hw)
  rintro e a w' ⟨fr, hF', hs, hq⟩
  cases e with
  | normal =>
    obtain ⟨v, hR, hr⟩ := results_run (R := fun v => R v w'.heap) hF' hq
    exact ⟨hF'.defers, v, hr, v, rfl, hs, hR⟩
  | ret =>
    obtain ⟨v, hR, hr⟩ := results_run (R := fun v => R v w'.heap) hF' hq
    exact ⟨hF'.defers, v, hr, v, rfl, hs, hR⟩
  | _ => exact hq.elim
end
end Go.Proofs.YtkdmpdbbcgdfkaaGreatDoor.Vm
