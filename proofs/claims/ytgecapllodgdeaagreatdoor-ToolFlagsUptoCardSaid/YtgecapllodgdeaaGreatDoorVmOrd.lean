/-
  Regions that draw their order, of operations that only read (whatever the order: the same values), of operations that make memory in one forced order, and of a forced tail: one walk serves every order.
-/
import Derived.WalkKit
import Derived.StillTail
namespace Go.Proofs.YtgecapllodgdeaaGreatDoor.Vm
open Go
/-- w' is w with new blocks. -/
structure Ext (w w' : World) : Prop where
  os : w'.os = w.os
  tape : w'.tape = w.tape
  output : w'.output = w.output
  size : w.heap.size ≤ w'.heap.size
  block : ∀ b, b < w.heap.size → w'.heap[b]? = w.heap[b]?
theorem Ext.refl (w : World) : Ext w w := ⟨rfl, rfl, rfl, Nat.le_refl _, fun _ _ => rfl⟩
theorem Ext.trans {a b c : World} (h : Ext a b) (k : Ext b c) : Ext a c :=
  ⟨k.os.trans h.os, k.tape.trans h.tape, k.output.trans h.output, Nat.le_trans h.size k.size, fun i hi => (k.block i (Nat.lt_of_lt_of_le hi h.size)).trans (h.block i hi)⟩
/-- the blocks of B are as they were; no block has gone -/
structure ExtB (B : Nat → Prop) (w w' : World) : Prop where
  os : w'.os = w.os
  tape : w'.tape = w.tape
  output : w'.output = w.output
  size : w.heap.size ≤ w'.heap.size
  block : ∀ b, B b → b < w.heap.size → w'.heap[b]? = w.heap[b]?
theorem ExtB.refl (B : Nat → Prop) (w : World) : ExtB B w w := ⟨rfl, rfl, rfl, Nat.le_refl _, fun _ _ _ => rfl⟩
theorem ExtB.trans {B : Nat → Prop} {a b c : World} (h : ExtB B a b) (k : ExtB B b c) : ExtB B a c :=
  ⟨k.os.trans h.os, k.tape.trans h.tape, k.output.trans h.output, Nat.le_trans h.size k.size, fun i hB hi => (k.block i hB (Nat.lt_of_lt_of_le hi h.size)).trans (h.block i hB hi)⟩
theorem Ext.toB {a b : World} (B : Nat → Prop) (h : Ext a b) : ExtB B a b := ⟨h.os, h.tape, h.output, h.size, fun i _ hi => h.block i hi⟩
theorem Ext.drawn (w : World) (n : Nat) : Ext w { w with drawn := n } := ⟨rfl, rfl, rfl, Nat.le_refl _, fun _ _ => rfl⟩
section
variable {P : Program} {ops : Array Oper} {md : Region.Mode} {B : Nat → Prop}
/-- the operation runs from w and leaves a world with new blocks; behind it, whatever blocks come, K -/
def uponX (P : Program) (B : Nat → Prop) (o : Oper) (a : Act) (w : World) (K : Act → World → Prop) : Result Next → Prop
  | .ok (.value v) w' => ExtB B w w' ∧ ∀ w3, Ext w' w3 → K (a.put o.dst v) w3
  | .ok .skip w' => ExtB B w w' ∧ ∀ w3, Ext w' w3 → K (a.put o.dst undef) w3
  | .ok (.enter f args) w' => ExtB B w w' ∧ Calls P f args w' (fun e w'' => ∃ v, e = .returned v ∧ ExtB B w' w'' ∧ ∀ w3, Ext w'' w3 → K (a.put o.dst v) w3)
  | _ => False
def extX (P : Program) (B : Nat → Prop) (o : Oper) (a : Act) (w : World) (K : Act → World → Prop) : Prop := uponX P B o a w K ((execOp a.eval o).run P w)
theorem extX_mono {o : Oper} {a : Act} {w : World} {K K' : Act → World → Prop} (h : ∀ a w', ExtB B w w' → K a w' → K' a w') (hh : extX P B o a w K) : extX P B o a w K' := by
  unfold extX at *
  generalize (execOp a.eval o).run P w = r at *
  cases r with
  | halt x w' => exact hh
  | ok n w' =>
    cases n <;> simp only [uponX] at hh ⊢
    case value v => exact ⟨hh.1, fun w3 h3 => h _ _ (hh.1.trans (h3.toB B)) (hh.2 w3 h3)⟩
    case skip => exact ⟨hh.1, fun w3 h3 => h _ _ (hh.1.trans (h3.toB B)) (hh.2 w3 h3)⟩
    case enter f args =>
      refine ⟨hh.1, hh.2.mono ?_⟩
      rintro e w'' ⟨v, he, hx, hk⟩
      exact ⟨v, he, hx, fun w3 h3 => h _ _ ((hh.1.trans hx).trans (h3.toB B)) (hk w3 h3)⟩
/-- operation number i -/
def opX (P : Program) (B : Nat → Prop) (ops : Array Oper) (i : Nat) (K : Act → World → Prop) (a : Act) (w : World) : Prop :=
  match ops[i]? with
  | none => False
  | some o => if Region.wanted o (yielded ops a.tmps) then extX P B o a w K else ∀ w3, Ext w w3 → K (a.put o.dst undef) w3
theorem opX_mono {i : Nat} {a : Act} {w : World} {K K' : Act → World → Prop} (h : ∀ a w', ExtB B w w' → K a w' → K' a w') (hh : opX P B ops i K a w) : opX P B ops i K' a w := by
  unfold opX at *
  split
  · rename_i ho; simp only [ho] at hh
  · rename_i o ho
    simp only [ho] at hh
    split
    · rename_i hw; simp only [hw, if_true] at hh; exact extX_mono h hh
    · rename_i hw; simp only [hw] at hh; exact fun w3 h3 => h _ _ (h3.toB B) (hh w3 h3)
/-- In every world that is w with new blocks, operation 'o' yields v and leaves a world with new blocks. -/
def uponV (P : Program) (w : World) (v : Value) : Result Next → Prop
  | .ok (.value u) w' => u = v ∧ Ext w w'
  | .ok .skip w' => v = undef ∧ Ext w w'
  | .ok (.enter f args) w' => Ext w w' ∧ Calls P f args w' (fun e w'' => e = .returned v ∧ Ext w' w'')
  | _ => False
def Stays (P : Program) (B : Nat → Prop) (ops : Array Oper) (o : Oper) (v : Value) (a : Act) (w : World) : Prop :=
  (Region.wanted o (yielded ops a.tmps) = true ∧ ∀ w1, ExtB B w w1 → uponV P w1 v ((execOp a.eval o).run P w1)) ∨
  (Region.wanted o (yielded ops a.tmps) = false ∧ v = undef)
theorem Stays.later {o : Oper} {v : Value} {a : Act} {w w' : World} (h : Stays P B ops o v a w) (he : ExtB B w w') : Stays P B ops o v a w' := by
  rcases h with ⟨h1, h2⟩ | h
  · exact .inl ⟨h1, fun w1 h3 => h2 w1 (he.trans h3)⟩
  · exact .inr h
theorem Stays.of_same {o : Oper} {v : Value} {a a' : Act} {w : World} (hy : Stays P B ops o v a w) (he : execOp a'.eval o = execOp a.eval o)
    (hw : Region.wanted o (yielded ops a'.tmps) = Region.wanted o (yielded ops a.tmps)) : Stays P B ops o v a' w := by
  unfold Stays at *
  rw [he, hw]
  exact hy
theorem Stays.opX {i : Nat} {o : Oper} {v : Value} {a : Act} {w : World} (hi : ops[i]? = some o) (hy : Stays P B ops o v a w) {K : Act → World → Prop}
    (h : ∀ w2, Ext w w2 → K (a.put o.dst v) w2) : opX P B ops i K a w := by
  unfold Vm.opX
  simp only [hi]
  rcases hy with ⟨hw, hv⟩ | ⟨hw, rfl⟩
  · simp only [hw, if_true]
    have h1 := hv w (ExtB.refl B w)
    unfold extX
    generalize (execOp a.eval o).run P w = r at *
    cases r with
    | halt x w' => exact h1
    | ok n w' =>
      cases n <;> simp only [uponV] at h1 <;> simp only [uponX]
      case value u => obtain ⟨rfl, he⟩ := h1; exact ⟨he.toB B, fun w3 h3 => h w3 (he.trans h3)⟩
      case skip => obtain ⟨rfl, he⟩ := h1; exact ⟨he.toB B, fun w3 h3 => h w3 (he.trans h3)⟩
      case enter f args =>
        refine ⟨h1.1.toB B, h1.2.mono ?_⟩
        rintro e w'' ⟨rfl, hx⟩
        exact ⟨v, rfl, hx.toB B, fun w3 h3 => h w3 ((h1.1.trans hx).trans h3)⟩
  · simp only [hw, Bool.false_eq_true, if_false]; exact h
/-- j comes up ahead of i, of which it is apart: nothing turns. -/
theorem opX_put {j : Nat} {oi oj : Oper} {v : Value} (hj : ops[j]? = some oj) (hap : oi.apart ops oj = true)
    (hsi : ∀ cs b, oi.op ≠ .select cs b) (hsj : ∀ cs b, oj.op ≠ .select cs b) {K : Act → World → Prop} {a : Act} {w : World}
    (hy : Stays P B ops oi v a w) (h : opX P B ops j K (a.put oi.dst v) w) :
    opX P B ops j (fun a' w' => Stays P B ops oi v a' w' ∧ K (a'.put oi.dst v) w') a w := by
  obtain ⟨h1, h2, h3⟩ := Oper.apart_spec hap
  have keep : ∀ (a : Act) (w : World), Stays P B ops oi v a w → ∀ u, Stays P B ops oi v (a.put oj.dst u) w := fun a w hy u =>
    hy.of_same (execOp_put oi hsi a oj.dst u h3) (wanted_put oi a oj.dst u h3)
  unfold opX at *
  simp only [hj] at *
  rw [wanted_put oj a oi.dst v h1] at h
  split
  · rename_i hw
    simp only [hw, if_true] at h
    unfold extX at *
    rw [execOp_put oj hsj a oi.dst v h1] at h
    generalize (execOp a.eval oj).run P w = r at *
    cases r with
    | halt x w' => exact h
    | ok n w' =>
      cases n <;> simp only [uponX] at h ⊢
      case value u => exact ⟨h.1, fun w3 e3 => ⟨keep a w3 (hy.later (h.1.trans (e3.toB B))) u, by rw [← Act.put_comm a v u h2]; exact h.2 w3 e3⟩⟩
      case skip => exact ⟨h.1, fun w3 e3 => ⟨keep a w3 (hy.later (h.1.trans (e3.toB B))) _, by rw [← Act.put_comm a v undef h2]; exact h.2 w3 e3⟩⟩
      case enter f args =>
        refine ⟨h.1, h.2.mono ?_⟩
        rintro e w'' ⟨u, he, hx, hk⟩
        exact ⟨u, he, hx, fun w3 e3 => ⟨keep a w3 (hy.later ((h.1.trans hx).trans (e3.toB B))) u, by rw [← Act.put_comm a v u h2]; exact hk w3 e3⟩⟩
  · rename_i hw
    simp only [hw] at h
    exact fun w3 e3 => ⟨keep a w3 (hy.later (e3.toB B)) _, by rw [← Act.put_comm a v undef h2]; exact h w3 e3⟩
/-- Whatever order is picked from here on, f operations long; all of them below n. -/
def wpX (P : Program) (B : Nat → Prop) (md : Region.Mode) (ops : Array Oper) (n : Nat) (L : Array Bool → Act → World → Prop) : Nat → Array Bool → Act → World → Prop
  | 0, listed, a, w => L listed a w
  | f + 1, listed, a, w => Region.ready md ops listed ≠ [] ∧ ∀ i ∈ Region.ready md ops listed, i < n ∧ opX P B ops i (wpX P B md ops n L f (listed.setIfInBounds i true)) a w
theorem Oper.wp_of_extX {o : Oper} {a : Act} {w : World} {K : Act → World → Prop} {Q : Exit → Act → World → Prop} (h : extX P B o a w K) : o.wp P a w K Q := by
  unfold extX at h
  unfold Oper.wp
  generalize (execOp a.eval o).run P w = r at *
  cases r with
  | halt x w' => exact h.elim
  | ok n w' =>
    cases n <;> simp only [uponX] at h <;> simp only [Oper.upon]
    case value v => exact h.2 w' (Ext.refl _)
    case skip => exact h.2 w' (Ext.refl _)
    case enter f args =>
      refine h.2.mono ?_
      rintro e w'' ⟨v, rfl, hx, hk⟩
      exact hk w'' (Ext.refl _)
theorem wpOp_of_opX {i : Nat} {a : Act} {w : World} {K : Act → World → Prop} {Q : Exit → Act → World → Prop} (h : opX P B ops i K a w) : wpOp P ops Q i K a w := by
  unfold opX at h
  unfold wpOp
  split
  · rename_i ho; simp only [ho] at h
  · rename_i o ho
    simp only [ho] at h
    split
    · rename_i hw; simp only [hw, if_true] at h; exact .inl (Oper.wp_of_extX h)
    · rename_i hw; simp only [hw] at h; exact h w (Ext.refl _)
theorem wpAny_of_wpX {n g : Nat} {L : Array Bool → Act → World → Prop} {Q : Exit → Act → World → Prop} (hL : ∀ listed a w, L listed a w → wpAny P md ops Q g listed a w) :
    ∀ (f : Nat) (listed : Array Bool) (a : Act) (w : World), wpX P B md ops n L f listed a w → wpAny P md ops Q (f + g) listed a w
  | 0, listed, a, w, h => by rw [Nat.zero_add]; exact hL _ _ _ h
  | f + 1, listed, a, w, h => by
    rw [show f + 1 + g = (f + g) + 1 by omega]
    exact ⟨fun h0 => absurd h0 h.1, fun i hi => wpOp_mono (fun a' w' h' => wpAny_of_wpX hL f _ a' w' h') (wpOp_of_opX (h.2 i hi).2)⟩
/-- An operation that yields the same whatever comes may be taken first. -/
theorem wpX_first {n i : Nat} {oi : Oper} {v : Value} {L : Array Bool → Act → World → Prop} (hi : ops[i]? = some oi) (hsel : ∀ (j : Nat) (o : Oper) cs b, ops[j]? = some o → o.op ≠ .select cs b)
    (hs : Region.sinkB md ops n = true) (hc : Region.chainB md ops n = true) (hn : n < ops.size) (hin : i < n)
    (hdone : ∀ listed a w, L listed a w → ∀ j ∈ Region.ready md ops listed, n ≤ j) :
    ∀ (f : Nat) (listed : Array Bool) (a : Act) (w : World), HeadInv md ops n listed →
      (∀ j oj, ops[j]? = some oj → j ≠ i → listed.getD j true = false → (∀ e ∈ oj.after, Region.binds md e = true → e.on ≠ i) → oi.apart ops oj = true) →
      i ∈ Region.ready md ops listed → Stays P B ops oi v a w →
      (∀ w2, Ext w w2 → wpX P B md ops n L f (listed.setIfInBounds i true) (a.put oi.dst v) w2) → wpX P B md ops n L (f + 1) listed a w := by
  intro f
  induction f with
  | zero =>
    intro listed a w inv _ hr hy H
    have hun := (mem_ready.1 hr).1
    refine ⟨fun h => (by rw [h] at hr; cases hr), fun j hj => ?_⟩
    have hjn : j < n := by
      rcases Nat.lt_or_ge j n with h | h
      · exact h
      · exact absurd hj (tail_waits hs hc hn inv _ i rfl hin hun j h)
    refine ⟨hjn, ?_⟩
    by_cases hji : j = i
    · subst hji; exact hy.opX hi H
    · have := hdone _ _ _ (H w (Ext.refl _)) j (ready_mono hj hji)
      omega
  | succ f ih =>
    intro listed a w inv hfree hr hy H
    have hun := (mem_ready.1 hr).1
    refine ⟨fun h => (by rw [h] at hr; cases hr), fun j hj => ?_⟩
    have hjn : j < n := by
      rcases Nat.lt_or_ge j n with h | h
      · exact h
      · exact absurd hj (tail_waits hs hc hn inv _ i rfl hin hun j h)
    refine ⟨hjn, ?_⟩
    by_cases hji : j = i
    · subst hji; exact hy.opX hi H
    · have h1 := ((H w (Ext.refl _)).2 j (ready_mono hj hji)).2
      obtain ⟨hjun, oj, hoj, hall⟩ := mem_ready.1 hj
      have hnot : ∀ e ∈ oj.after, Region.binds md e = true → e.on ≠ i := fun e he hb heq => by
        have h1 := hall e he hb
        rw [heq, getD_both hun] at h1
        cases h1
      have hfree' : ∀ k ok, ops[k]? = some ok → k ≠ i → (listed.setIfInBounds j true).getD k true = false →
          (∀ e ∈ ok.after, Region.binds md e = true → e.on ≠ i) → oi.apart ops ok = true := fun k ok hk hki hunk hno => by
        refine hfree k ok hk hki ?_ hno
        by_cases hjk : j = k
        · subst hjk; exact hjun
        · rw [getD_set_ne true hjk] at hunk; exact hunk
      -- behind j, whatever blocks come: i first again
      have h2 := opX_put hoj (hfree j oj hoj hji hjun hnot) (fun cs b => hsel i oi cs b hi) (fun cs b => hsel j oj cs b hoj) hy
        (opX_close h1)
      refine opX_mono (fun a' w' hx h3 => ih (listed.setIfInBounds j true) a' w' (inv.set hj hjn) hfree' (ready_mono hr (Ne.symm hji)) h3.1 ?_) h2
      intro w2 hw2
      rw [Array.setIfInBounds_comm _ _ hji]
      exact h3.2 w2 hw2
where
  opX_close {i : Nat} {a : Act} {w : World} {K : Act → World → Prop} (h : opX P B ops i K a w) : opX P B ops i (fun a' w' => ∀ w3, Ext w' w3 → K a' w3) a w := by
    unfold opX at *
    split
    · rename_i ho; simp only [ho] at h
    · rename_i o ho
      simp only [ho] at h
      split
      · rename_i hw
        simp only [hw, if_true] at h
        unfold extX at *
        generalize (execOp a.eval o).run P w = r at *
        cases r with
        | halt x w' => exact h
        | ok n w' =>
          cases n <;> simp only [uponX] at h ⊢
          case value v => exact ⟨h.1, fun w3 h3 w4 h4 => h.2 w4 (h3.trans h4)⟩
          case skip => exact ⟨h.1, fun w3 h3 w4 h4 => h.2 w4 (h3.trans h4)⟩
          case enter f args =>
            refine ⟨h.1, h.2.mono ?_⟩
            rintro e w'' ⟨v, he, hx, hk⟩
            exact ⟨v, he, hx, fun w3 h3 w4 h4 => hk w4 (h3.trans h4)⟩
      · rename_i hw
        simp only [hw] at h
        exact fun w3 h3 w4 h4 => h w4 (h3.trans h4)
/-- The walk over the head, in the order p; 'imp' says which operations make memory. -/
def wpH (P : Program) (B : Nat → Prop) (ops : Array Oper) (imp : Nat → Bool) (L : Act → World → Prop) : List Nat → Act → World → Prop
  | [], a, w => L a w
  | i :: p, a, w => if imp i then opX P B ops i (wpH P B ops imp L p) a w else
      match ops[i]? with
      | none => False
      | some o => ∃ v, Stays P B ops o v a w ∧ ∀ w2, Ext w w2 → wpH P B ops imp L p (a.put o.dst v) w2
def headB (md : Region.Mode) (ops : Array Oper) (n : Nat) (imp : Nat → Bool) : List Nat → Array Bool → Bool
  | [], listed => Region.seqB md ops (ops.size - n) n listed
  | i :: p, listed => decide (i < n) && (Region.ready md ops listed).contains i &&
      (if imp i then decide (Region.ready md ops listed = [i]) else Region.free md ops listed i) && headB md ops n imp p (listed.setIfInBounds i true)
theorem wpX_of_wpH {n : Nat} {imp : Nat → Bool} {L : Act → World → Prop} (hsel : Region.noSelect ops = true) (hs : Region.sinkB md ops n = true) (hc : Region.chainB md ops n = true) (hn : n < ops.size) :
    ∀ (p : List Nat) (listed : Array Bool) (a : Act) (w : World), HeadInv md ops n listed → headB md ops n imp p listed = true → wpH P B ops imp L p a w →
      wpX P B md ops n (fun listed' a' w' => Region.seqB md ops (ops.size - n) n listed' = true ∧ L a' w') p.length listed a w
  | [], listed, a, w, _, hB, h => ⟨hB, h⟩
  | i :: p, listed, a, w, inv, hB, h => by
    simp only [headB, Bool.and_eq_true, decide_eq_true_eq] at hB
    obtain ⟨⟨⟨hin, hr⟩, hk⟩, hB'⟩ := hB
    have hr' : i ∈ Region.ready md ops listed := by simpa using hr
    unfold wpH at h
    by_cases himp : imp i = true
    · simp only [himp, if_true, decide_eq_true_eq] at hk h
      refine ⟨fun h0 => (by rw [h0] at hr'; cases hr'), fun j hj => ?_⟩
      rw [hk] at hj
      have hji : j = i := by simpa using hj
      subst hji
      exact ⟨hin, opX_mono (fun a' w' _ h' => wpX_of_wpH hsel hs hc hn p _ a' w' (inv.set hr' hin) hB' h') h⟩
    · simp only [himp] at hk h
      cases ho : ops[i]? with
      | none => simp [ho] at h
      | some o =>
        simp only [ho] at h
        obtain ⟨v, hy, hK⟩ := h
        exact wpX_first ho (Region.noSelect_spec hsel) hs hc hn hin (fun listed' a' w' hL => seqB_ready hL.1) p.length listed a w inv (Region.free_spec ho hk) hr' hy
          (fun w2 h2 => wpX_of_wpH hsel hs hc hn p _ _ w2 (inv.set hr' hin) hB' (hK w2 h2))
def regB (ops : Array Oper) (n : Nat) (imp : Nat → Bool) (p : List Nat) : Bool :=
  Region.noSelect ops && decide (n < ops.size) && decide (p.length = n) && Region.sinkB .any ops n && Region.chainB .any ops n && headB .any ops n imp p (Array.replicate ops.size false)
theorem wp_region_head {id : Nat} {Q : Exit → Act → World → Prop} {a : Act} {w : World} (B : Nat → Prop) (n : Nat) (imp : Nat → Bool) (p : List Nat) (hm : P.follows .mixedOrders = true) (hB : regB ops n imp p = true)
    (h : wpH P B ops imp (fun a' w' => wpList P ops Q (ops.toList.drop n) a' w') p a { w with drawn := w.drawn + 1 }) : (Code.region id ops true).wp P Q a w := by
  simp only [regB, Bool.and_eq_true, decide_eq_true_eq] at hB
  obtain ⟨⟨⟨⟨⟨hsel, hn⟩, hp⟩, hs⟩, hc⟩, hh⟩ := hB
  have inv0 : HeadInv .any ops n (Array.replicate ops.size false) :=
    ⟨by simp, fun j oj _ hl => (by rw [getD_replicate_false] at hl; cases hl), fun t _ ht => getD_in (by simpa using ht) (getD_replicate_false _ _)⟩
  refine wp_region_any hm ?_
  have h1 := wpX_of_wpH hsel hs hc hn p _ a _ inv0 hh h
  have h2 := wpAny_of_wpX (g := ops.size - n) (Q := Q) (fun listed a' w' hL =>
    have hl : (ops.toList.drop n).length = ops.size - n := by simp
    hl ▸ wpAny_of_seq (ops.toList.drop n) n listed a' w' (by simp) (by rw [hl]; exact hL.1) hL.2) p.length _ a _ h1
  rwa [hp, Nat.add_sub_cancel' (Nat.le_of_lt hn)] at h2
end
end Go.Proofs.YtgecapllodgdeaaGreatDoor.Vm
