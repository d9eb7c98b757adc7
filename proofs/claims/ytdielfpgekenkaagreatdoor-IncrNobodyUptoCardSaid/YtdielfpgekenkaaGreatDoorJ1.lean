/-
  Regions that draw their order, of operations that only read (whatever the order: the same values), of operations that make memory in one forced order, and of a forced tail: one walk serves every order.
  One operation at a time over a frame of the slots that matter and a heap: what is to be shown of each, and that it is enough.
  The operations that only read: what is asked of each is enough, in every heap with more blocks.
-/
import Derived.WalkKit
import Derived.StillTail
import Derived.WalkLawsBesides
namespace Go.Proofs.YtdielfpgekenkaaGreatDoor.Vm
open Go
/-- w' is w with new blocks. -/
structure Ext (w w' : World) : Prop where
  os : w'.os = w.os
  tape : w'.tape = w.tape
  output : w'.output = w.output
  size : w.heap.size ≤ w'.heap.size
  block : ∀ b, b < w.heap.size → w'.heap[b]? = w.heap[b]?
theorem Ext.refl (w : World) : Ext w w := ⟨rfl, rfl, rfl, Nat.le_refl _, fun _ _ => rfl⟩
theorem Ext.trans {a b c : World} (h : Ext a b) (k : Ext b c) : Ext a c :=
  ⟨k.os.trans h.os, k.tape.trans h.tape, k.output.trans h.output, Nat.le_trans h.size k.size, fun i hi => (k.block i (Nat.lt_of_lt_of_le hi h.size)).trans (h.block i hi)⟩
/-- the blocks of B are as they were; no block has gone -/
structure ExtB (B : Nat → Prop) (w w' : World) : Prop where
  os : w'.os = w.os
  tape : w'.tape = w.tape
  output : w'.output = w.output
  size : w.heap.size ≤ w'.heap.size
  block : ∀ b, B b → b < w.heap.size → w'.heap[b]? = w.heap[b]?
theorem ExtB.refl (B : Nat → Prop) (w : World) : ExtB B w w := ⟨rfl, rfl, rfl, Nat.le_refl _, fun _ _ _ => rfl⟩
theorem ExtB.trans {B : Nat → Prop} {a b c : World} (h : ExtB B a b) (k : ExtB B b c) : ExtB B a c :=
  ⟨k.os.trans h.os, k.tape.trans h.tape, k.output.trans h.output, Nat.le_trans h.size k.size, fun i hB hi => (k.block i hB (Nat.lt_of_lt_of_le hi h.size)).trans (h.block i hB hi)⟩
theorem Ext.toB {a b : World} (B : Nat → Prop) (h : Ext a b) : ExtB B a b := ⟨h.os, h.tape, h.output, h.size, fun i _ hi => h.block i hi⟩
theorem Ext.drawn (w : World) (n : Nat) : Ext w { w with drawn := n } := ⟨rfl, rfl, rfl, Nat.le_refl _, fun _ _ => rfl⟩
section
variable {P : Program} {ops : Array Oper} {md : Region.Mode} {B : Nat → Prop}
/-- the operation runs from w and leaves a world with new blocks; behind it, whatever blocks come, K -/
def uponX (P : Program) (B : Nat → Prop) (o : Oper) (a : Act) (w : World) (K : Act → World → Prop) : Result Next → Prop
  | .ok (.value v) w' => ExtB B w w' ∧ ∀ w3, Ext w' w3 → K (a.put o.dst v) w3
  | .ok .skip w' => ExtB B w w' ∧ ∀ w3, Ext w' w3 → K (a.put o.dst undef) w3
  | .ok (.enter f args) w' => ExtB B w w' ∧ Calls P f args w' (fun e w'' => ∃ v, e = .returned v ∧ ExtB B w' w'' ∧ ∀ w3, Ext w'' w3 → K (a.put o.dst v) w3)
  | _ => False
def extX (P : Program) (B : Nat → Prop) (o : Oper) (a : Act) (w : World) (K : Act → World → Prop) : Prop := uponX P B o a w K ((execOp a.eval o).run P w)
theorem extX_mono {o : Oper} {a : Act} {w : World} {K K' : Act → World → Prop} (h : ∀ a w', ExtB B w w' → K a w' → K' a w') (hh : extX P B o a w K) : extX P B o a w K' := by
  unfold extX at *
  generalize (execOp a.eval o).run P w = r at *
  cases r with
  | halt x w' => exact hh
  | ok n w' =>
    cases n <;> simp only [uponX] at hh ⊢
    case value v => exact ⟨hh.1, fun w3 h3 => h _ _ (hh.1.trans (h3.toB B)) (hh.2 w3 h3)⟩
    case skip => exact ⟨hh.1, fun w3 h3 => h _ _ (hh.1.trans (h3.toB B)) (hh.2 w3 h3)⟩
    case enter f args =>
      refine ⟨hh.1, hh.2.mono ?_⟩
      rintro e w'' ⟨v, he, hx, hk⟩
      exact ⟨v, he, hx, fun w3 h3 => h _ _ ((hh.1.trans hx).trans (h3.toB B)) (hk w3 h3)⟩
/-- operation number i -/
def opX (P : Program) (B : Nat → Prop) (ops : Array Oper) (i : Nat) (K : Act → World → Prop) (a : Act) (w : World) : Prop :=
  match ops[i]? with
  | none => False
  | some o => if Region.wanted o (yielded ops a.tmps) then extX P B o a w K else ∀ w3, Ext w w3 → K (a.put o.dst undef) w3
theorem opX_mono {i : Nat} {a : Act} {w : World} {K K' : Act → World → Prop} (h : ∀ a w', ExtB B w w' → K a w' → K' a w') (hh : opX P B ops i K a w) : opX P B ops i K' a w := by
  unfold opX at *
  split
  · rename_i ho; simp only [ho] at hh
  · rename_i o ho
    simp only [ho] at hh
    split
    · rename_i hw; simp only [hw, if_true] at hh; exact extX_mono h hh
    · rename_i hw; simp only [hw] at hh; exact fun w3 h3 => h _ _ (h3.toB B) (hh w3 h3)
/-- In every world that is w with new blocks, operation 'o' yields v and leaves a world with new blocks. -/
def uponV (P : Program) (w : World) (v : Value) : Result Next → Prop
  | .ok (.value u) w' => u = v ∧ Ext w w'
  | .ok .skip w' => v = undef ∧ Ext w w'
  | .ok (.enter f args) w' => Ext w w' ∧ Calls P f args w' (fun e w'' => e = .returned v ∧ Ext w' w'')
  | _ => False
def Stays (P : Program) (B : Nat → Prop) (ops : Array Oper) (o : Oper) (v : Value) (a : Act) (w : World) : Prop :=
  (Region.wanted o (yielded ops a.tmps) = true ∧ ∀ w1, ExtB B w w1 → uponV P w1 v ((execOp a.eval o).run P w1)) ∨
  (Region.wanted o (yielded ops a.tmps) = false ∧ v = undef)
theorem Stays.later {o : Oper} {v : Value} {a : Act} {w w' : World} (h : Stays P B ops o v a w) (he : ExtB B w w') : Stays P B ops o v a w' := by
  rcases h with ⟨h1, h2⟩ | h
  · exact .inl ⟨h1, fun w1 h3 => h2 w1 (he.trans h3)⟩
  · exact .inr h
theorem Stays.of_same {o : Oper} {v : Value} {a a' : Act} {w : World} (hy : Stays P B ops o v a w) (he : execOp a'.eval o = execOp a.eval o)
    (hw : Region.wanted o (yielded ops a'.tmps) = Region.wanted o (yielded ops a.tmps)) : Stays P B ops o v a' w := by
  unfold Stays at *
  rw [he, hw]
  exact hy
theorem Stays.opX {i : Nat} {o : Oper} {v : Value} {a : Act} {w : World} (hi : ops[i]? = some o) (hy : Stays P B ops o v a w) {K : Act → World → Prop}
    (h : ∀ w2, Ext w w2 → K (a.put o.dst v) w2) : opX P B ops i K a w := by
  unfold Vm.opX
  simp only [hi]
  rcases hy with ⟨hw, hv⟩ | ⟨hw, rfl⟩
  · simp only [hw, if_true]
    have h1 := hv w (ExtB.refl B w)
    unfold extX
    generalize (execOp a.eval o).run P w = r at *
    cases r with
    | halt x w' => exact h1
    | ok n w' =>
      cases n <;> simp only [uponV] at h1 <;> simp only [uponX]
      case value u => obtain ⟨rfl, he⟩ := h1; exact ⟨he.toB B, fun w3 h3 => h w3 (he.trans h3)⟩
      case skip => obtain ⟨rfl, he⟩ := h1; exact ⟨he.toB B, fun w3 h3 => h w3 (he.trans h3)⟩
      case enter f args =>
        refine ⟨h1.1.toB B, h1.2.mono ?_⟩
        rintro e w'' ⟨rfl, hx⟩
        exact ⟨v, rfl, hx.toB B, fun w3 h3 => h w3 ((h1.1.trans hx).trans h3)⟩
  · simp only [hw, Bool.false_eq_true, if_false]; exact h
/-- j comes up ahead of i, of which it is apart: nothing turns. -/
theorem opX_put {j : Nat} {oi oj : Oper} {v : Value} (hj : ops[j]? = some oj) (hap : oi.apart ops oj = true)
    (hsi : ∀ cs b, oi.op ≠ .select cs b) (hsj : ∀ cs b, oj.op ≠ .select cs b) {K : Act → World → Prop} {a : Act} {w : World}
    (hy : Stays P B ops oi v a w) (h : opX P B ops j K (a.put oi.dst v) w) :
    opX P B ops j (fun a' w' => Stays P B ops oi v a' w' ∧ K (a'.put oi.dst v) w') a w := by
  obtain ⟨h1, h2, h3⟩ := Oper.apart_spec hap
  have keep : ∀ (a : Act) (w : World), Stays P B ops oi v a w → ∀ u, Stays P B ops oi v (a.put oj.dst u) w := fun a w hy u =>
    hy.of_same (execOp_put oi hsi a oj.dst u h3) (wanted_put oi a oj.dst u h3)
  unfold opX at *
  simp only [hj] at *
  rw [wanted_put oj a oi.dst v h1] at h
  split
  · rename_i hw
    simp only [hw, if_true] at h
    unfold extX at *
    rw [execOp_put oj hsj a oi.dst v h1] at h
    generalize (execOp a.eval oj).run P w = r at *
    cases r with
    | halt x w' => exact h
    | ok n w' =>
      cases n <;> simp only [uponX] at h ⊢
      case value u => exact ⟨h.1, fun w3 e3 => ⟨keep a w3 (hy.later (h.1.trans (e3.toB B))) u, by rw [← Act.put_comm a v u h2]; exact h.2 w3 e3⟩⟩
      case skip => exact ⟨h.1, fun w3 e3 => ⟨keep a w3 (hy.later (h.1.trans (e3.toB B))) _, by rw [← Act.put_comm a v undef h2]; exact h.2 w3 e3⟩⟩
      case enter f args =>
        refine ⟨h.1, h.2.mono ?_⟩
        rintro e w'' ⟨u, he, hx, hk⟩
        exact ⟨u, he, hx, fun w3 e3 => ⟨keep a w3 (hy.later ((h.1.trans hx).trans (e3.toB B))) u, by rw [← Act.put_comm a v u h2]; exact hk w3 e3⟩⟩
  · rename_i hw
    simp only [hw] at h
    exact fun w3 e3 => ⟨keep a w3 (hy.later (e3.toB B)) _, by rw [← Act.put_comm a v undef h2]; exact h w3 e3⟩
/-- Whatever order is picked from here on, f operations long; all of them below n. -/
def wpX (P : Program) (B : Nat → Prop) (md : Region.Mode) (ops : Array Oper) (n : Nat) (L : Array Bool → Act → World → Prop) : Nat → Array Bool → Act → World → Prop
  | 0, listed, a, w => L listed a w
  | f + 1, listed, a, w => Region.ready md ops listed ≠ [] ∧ ∀ i ∈ Region.ready md ops listed, i < n ∧ opX P B ops i (wpX P B md ops n L f (listed.setIfInBounds i true)) a w
theorem Oper.wp_of_extX {o : Oper} {a : Act} {w : World} {K : Act → World → Prop} {Q : Exit → Act → World → Prop} (h : extX P B o a w K) : o.wp P a w K Q := by
  unfold extX at h
  unfold Oper.wp
  generalize (execOp a.eval o).run P w = r at *
  cases r with
  | halt x w' => exact h.elim
  | ok n w' =>
    cases n <;> simp only [uponX] at h <;> simp only [Oper.upon]
    case value v => exact h.2 w' (Ext.refl _)
    case skip => exact h.2 w' (Ext.refl _)
    case enter f args =>
      refine h.2.mono ?_
      rintro e w'' ⟨v, rfl, hx, hk⟩
      exact hk w'' (Ext.refl _)
theorem wpOp_of_opX {i : Nat} {a : Act} {w : World} {K : Act → World → Prop} {Q : Exit → Act → World → Prop} (h : opX P B ops i K a w) : wpOp P ops Q i K a w := by
  unfold opX at h
  unfold wpOp
  split
  · rename_i ho; simp only [ho] at h
  · rename_i o ho
    simp only [ho] at h
    split
    · rename_i hw; simp only [hw, if_true] at h; exact .inl (Oper.wp_of_extX h)
    · rename_i hw; simp only [hw] at h; exact h w (Ext.refl _)
theorem wpAny_of_wpX {n g : Nat} {L : Array Bool → Act → World → Prop} {Q : Exit → Act → World → Prop} (hL : ∀ listed a w, L listed a w → wpAny P md ops Q g listed a w) :
    ∀ (f : Nat) (listed : Array Bool) (a : Act) (w : World), wpX P B md ops n L f listed a w → wpAny P md ops Q (f + g) listed a w
  | 0, listed, a, w, h => by rw [Nat.zero_add]; exact hL _ _ _ h
  | f + 1, listed, a, w, h => by
    rw [show f + 1 + g = (f + g) + 1 by omega]
    exact ⟨fun h0 => absurd h0 h.1, fun i hi => wpOp_mono (fun a' w' h' => wpAny_of_wpX hL f _ a' w' h') (wpOp_of_opX (h.2 i hi).2)⟩
/-- An operation that yields the same whatever comes may be taken first. -/
theorem wpX_first {n i : Nat} {oi : Oper} {v : Value} {L : Array Bool → Act → World → Prop} (hi : ops[i]? = some oi) (hsel : ∀ (j : Nat) (o : Oper) cs b, ops[j]? = some o → o.op ≠ .select cs b)
    (hs : Region.sinkB md ops n = true) (hc : Region.chainB md ops n = true) (hn : n < ops.size) (hin : i < n)
    (hdone : ∀ listed a w, L listed a w → ∀ j ∈ Region.ready md ops listed, n ≤ j) :
    ∀ (f : Nat) (listed : Array Bool) (a : Act) (w : World), HeadInv md ops n listed →
      (∀ j oj, ops[j]? = some oj → j ≠ i → listed.getD j true = false → (∀ e ∈ oj.after, Region.binds md e = true → e.on ≠ i) → oi.apart ops oj = true) →
      i ∈ Region.ready md ops listed → Stays P B ops oi v a w →
      (∀ w2, Ext w w2 → wpX P B md ops n L f (listed.setIfInBounds i true) (a.put oi.dst v) w2) → wpX P B md ops n L (f + 1) listed a w := by
  intro f
  induction f with
  | zero =>
    intro listed a w inv _ hr hy H
    have hun := (mem_ready.1 hr).1
    refine ⟨fun h => (by rw [h] at hr; cases hr), fun j hj => ?_⟩
    have hjn : j < n := by
      rcases Nat.lt_or_ge j n with h | h
      · exact h
      · exact absurd hj (tail_waits hs hc hn inv _ i rfl hin hun j h)
    refine ⟨hjn, ?_⟩
    by_cases hji : j = i
    · subst hji; exact hy.opX hi H
    · have := hdone _ _ _ (H w (Ext.refl _)) j (ready_mono hj hji)
      omega
  | succ f ih =>
    intro listed a w inv hfree hr hy H
    have hun := (mem_ready.1 hr).1
    refine ⟨fun h => (by rw [h] at hr; cases hr), fun j hj => ?_⟩
    have hjn : j < n := by
      rcases Nat.lt_or_ge j n with h | h
      · exact h
      · exact absurd hj (tail_waits hs hc hn inv _ i rfl hin hun j h)
    refine ⟨hjn, ?_⟩
    by_cases hji : j = i
    · subst hji; exact hy.opX hi H
    · have h1 := ((H w (Ext.refl _)).2 j (ready_mono hj hji)).2
      obtain ⟨hjun, oj, hoj, hall⟩ := mem_ready.1 hj
      have hnot : ∀ e ∈ oj.after, Region.binds md e = true → e.on ≠ i := fun e he hb heq => by
        have h1 := hall e he hb
        rw [heq, getD_both hun] at h1
        cases h1
      have hfree' : ∀ k ok, ops[k]? = some ok → k ≠ i → (listed.setIfInBounds j true).getD k true = false →
          (∀ e ∈ ok.after, Region.binds md e = true → e.on ≠ i) → oi.apart ops ok = true := fun k ok hk hki hunk hno => by
        refine hfree k ok hk hki ?_ hno
        by_cases hjk : j = k
        · subst hjk; exact hjun
        · rw [getD_set_ne true hjk] at hunk; exact hunk
      -- behind j, whatever blocks come: i first again
      have h2 := opX_put hoj (hfree j oj hoj hji hjun hnot) (fun cs b => hsel i oi cs b hi) (fun cs b => hsel j oj cs b hoj) hy
        (opX_close h1)
      refine opX_mono (fun a' w' hx h3 => ih (listed.setIfInBounds j true) a' w' (inv.set hj hjn) hfree' (ready_mono hr (Ne.symm hji)) h3.1 ?_) h2
      intro w2 hw2
      rw [Array.setIfInBounds_comm _ _ hji]
      exact h3.2 w2 hw2
where
  opX_close {i : Nat} {a : Act} {w : World} {K : Act → World → Prop} (h : opX P B ops i K a w) : opX P B ops i (fun a' w' => ∀ w3, Ext w' w3 → K a' w3) a w := by
    unfold opX at *
    split
    · rename_i ho; simp only [ho] at h
    · rename_i o ho
      simp only [ho] at h
      split
      · rename_i hw
        simp only [hw, if_true] at h
        unfold extX at *
        generalize (execOp a.eval o).run P w = r at *
        cases r with
        | halt x w' => exact h
        | ok n w' =>
          cases n <;> simp only [uponX] at h ⊢
          case value v => exact ⟨h.1, fun w3 h3 w4 h4 => h.2 w4 (h3.trans h4)⟩
          case skip => exact ⟨h.1, fun w3 h3 w4 h4 => h.2 w4 (h3.trans h4)⟩
          case enter f args =>
            refine ⟨h.1, h.2.mono ?_⟩
            rintro e w'' ⟨v, he, hx, hk⟩
            exact ⟨v, he, hx, fun w3 h3 w4 h4 => hk w4 (h3.trans h4)⟩
      · rename_i hw
        simp only [hw] at h
        exact fun w3 h3 w4 h4 => h w4 (h3.trans h4)
/-- The walk over the head, in the order p; 'imp' says which operations make memory. -/
def wpH (P : Program) (B : Nat → Prop) (ops : Array Oper) (imp : Nat → Bool) (L : Act → World → Prop) : List Nat → Act → World → Prop
  | [], a, w => L a w
  | i :: p, a, w => if imp i then opX P B ops i (wpH P B ops imp L p) a w else
      match ops[i]? with
      | none => False
      | some o => ∃ v, Stays P B ops o v a w ∧ ∀ w2, Ext w w2 → wpH P B ops imp L p (a.put o.dst v) w2
def headB (md : Region.Mode) (ops : Array Oper) (n : Nat) (imp : Nat → Bool) : List Nat → Array Bool → Bool
  | [], listed => Region.seqB md ops (ops.size - n) n listed
  | i :: p, listed => decide (i < n) && (Region.ready md ops listed).contains i &&
      (if imp i then decide (Region.ready md ops listed = [i]) else Region.free md ops listed i) && headB md ops n imp p (listed.setIfInBounds i true)
theorem wpX_of_wpH {n : Nat} {imp : Nat → Bool} {L : Act → World → Prop} (hsel : Region.noSelect ops = true) (hs : Region.sinkB md ops n = true) (hc : Region.chainB md ops n = true) (hn : n < ops.size) :
    ∀ (p : List Nat) (listed : Array Bool) (a : Act) (w : World), HeadInv md ops n listed → headB md ops n imp p listed = true → wpH P B ops imp L p a w →
      wpX P B md ops n (fun listed' a' w' => Region.seqB md ops (ops.size - n) n listed' = true ∧ L a' w') p.length listed a w
  | [], listed, a, w, _, hB, h => ⟨hB, h⟩
  | i :: p, listed, a, w, inv, hB, h => by
    simp only [headB, Bool.and_eq_true, decide_eq_true_eq] at hB
    obtain ⟨⟨⟨hin, hr⟩, hk⟩, hB'⟩ := hB
    have hr' : i ∈ Region.ready md ops listed := by simpa using hr
    unfold wpH at h
    by_cases himp : imp i = true
    · simp only [himp, if_true, decide_eq_true_eq] at hk h
      refine ⟨fun h0 => (by rw [h0] at hr'; cases hr'), fun j hj => ?_⟩
      rw [hk] at hj
      have hji : j = i := by simpa using hj
      subst hji
      exact ⟨hin, opX_mono (fun a' w' _ h' => wpX_of_wpH hsel hs hc hn p _ a' w' (inv.set hr' hin) hB' h') h⟩
    · simp only [himp] at hk h
      cases ho : ops[i]? with
      | none => simp [ho] at h
      | some o =>
        simp only [ho] at h
        obtain ⟨v, hy, hK⟩ := h
        exact wpX_first ho (Region.noSelect_spec hsel) hs hc hn hin (fun listed' a' w' hL => seqB_ready hL.1) p.length listed a w inv (Region.free_spec ho hk) hr' hy
          (fun w2 h2 => wpX_of_wpH hsel hs hc hn p _ _ w2 (inv.set hr' hin) hB' (hK w2 h2))
def regB (ops : Array Oper) (n : Nat) (imp : Nat → Bool) (p : List Nat) : Bool :=
  Region.noSelect ops && decide (n < ops.size) && decide (p.length = n) && Region.sinkB .any ops n && Region.chainB .any ops n && headB .any ops n imp p (Array.replicate ops.size false)
theorem wp_region_head {id : Nat} {Q : Exit → Act → World → Prop} {a : Act} {w : World} (B : Nat → Prop) (n : Nat) (imp : Nat → Bool) (p : List Nat) (hm : P.follows .mixedOrders = true) (hB : regB ops n imp p = true)
    (h : wpH P B ops imp (fun a' w' => wpList P ops Q (ops.toList.drop n) a' w') p a { w with drawn := w.drawn + 1 }) : (Code.region id ops true).wp P Q a w := by
  simp only [regB, Bool.and_eq_true, decide_eq_true_eq] at hB
  obtain ⟨⟨⟨⟨⟨hsel, hn⟩, hp⟩, hs⟩, hc⟩, hh⟩ := hB
  have inv0 : HeadInv .any ops n (Array.replicate ops.size false) :=
    ⟨by simp, fun j oj _ hl => (by rw [getD_replicate_false] at hl; cases hl), fun t _ ht => getD_in (by simpa using ht) (getD_replicate_false _ _)⟩
  refine wp_region_any hm ?_
  have h1 := wpX_of_wpH hsel hs hc hn p _ a _ inv0 hh h
  have h2 := wpAny_of_wpX (g := ops.size - n) (Q := Q) (fun listed a' w' hL =>
    have hl : (ops.toList.drop n).length = ops.size - n := by simp
    hl ▸ wpAny_of_seq (ops.toList.drop n) n listed a' w' (by simp) (by rw [hl]; exact hL.1) hL.2) p.length _ a _ h1
  rwa [hp, Nat.add_sub_cancel' (Nat.le_of_lt hn)] at h2
end
end Go.Proofs.YtdielfpgekenkaaGreatDoor.Vm
namespace Go.Proofs.YtdielfpgekenkaaGreatDoor.Vm
open Go
variable {ds : List Deferred}
abbrev Fr := List (Nat × Value)
abbrev Heap := Array Obj
def lk : Fr → Nat → Option Value
  | [], _ => none
  | (s, v) :: r, t => if t = s then some v else lk r t
def ev (fr : Fr) : Operand → Option Value
  | .tmp t => lk fr t
  | .const v => some v
  | .global g => some (.pointer (some ⟨g, 0, none⟩))
  | .func f => some (.func (.func f) #[] #[])
def evl (fr : Fr) : List (Nat × Operand) → Option (List (Nat × Value))
  | [] => some []
  | (i, x) :: r => match ev fr x, evl fr r with
    | some v, some vs => some ((i, v) :: vs)
    | _, _ => none
def evs (fr : Fr) : List Operand → Option (List Value)
  | [] => some []
  | x :: r => match ev fr x, evs fr r with
    | some v, some vs => some (v :: vs)
    | _, _ => none
def evk (fr : Fr) (x : Operand) (k : Value → Prop) : Prop :=
  match ev fr x with
  | some v => k v
  | none => False
theorem evk_elim {fr : Fr} {x : Operand} {k : Value → Prop} (h : evk fr x k) : ∃ v, ev fr x = some v ∧ k v := by
  unfold evk at h
  split at h
  · exact ⟨_, by assumption, h⟩
  · exact h.elim
def put (fr : Fr) (d : Option Nat) (v : Value) : Fr :=
  match d with
  | some d => (d, v) :: fr
  | none => fr
/-- the slots that fr names hold what it says; ds is deferred -/
structure Hold (ds : List Deferred) (n : Nat) (fr : Fr) (a : Act) : Prop where
  size : a.tmps.size = n
  defers : a.defers = ds
  has : ∀ t v, lk fr t = some v → t < n ∧ a.tmps.getD t undef = v
theorem Hold.ev {n : Nat} {fr : Fr} {a : Act} (hF : Hold ds n fr a) {x : Operand} {v : Value} (h : ev fr x = some v) : a.eval x = v := by
  cases x with
  | tmp t => exact (hF.has t v h).2
  | const u => simpa [Vm.ev, Act.eval] using h
  | global g => simpa [Vm.ev, Act.eval] using h
  | func f => simpa [Vm.ev, Act.eval] using h
def dok (n : Nat) : Option Nat → Prop
  | some d => d < n
  | none => True
theorem Hold.put {n : Nat} {fr : Fr} {a : Act} (hF : Hold ds n fr a) (d : Option Nat) (v : Value) (hd : dok n d) : Hold ds n (put fr d v) (a.put d v) := by
  cases d with
  | none => exact hF
  | some d =>
    refine ⟨by simp [Act.put, hF.size], hF.defers, fun t u h => ?_⟩
    have hd' : d < n := hd
    simp only [Vm.put, lk] at h
    by_cases e : t = d
    · subst e
      simp only [if_true, Option.some.injEq] at h
      subst h
      exact ⟨hd', by simp [Act.put, hF.size, hd']⟩
    · rw [if_neg e] at h
      obtain ⟨h1, h2⟩ := hF.has t u h
      refine ⟨h1, ?_⟩
      simp only [Act.put, Array.getD_eq_getD_getElem?]
      rw [Array.getElem?_setIfInBounds_ne (fun e' => e e'.symm), ← Array.getD_eq_getD_getElem?]
      exact h2
def Sub : Fr → Fr → Prop
  | [], _ => True
  | (t, v) :: r, fr => lk fr t = some v ∧ Sub r fr
theorem Sub.lk {r fr : Fr} (h : Sub r fr) {t : Nat} {v : Value} (hl : lk r t = some v) : lk fr t = some v := by
  induction r with
  | nil => simp [Vm.lk] at hl
  | cons x r ih =>
    obtain ⟨s, u⟩ := x
    simp only [Vm.lk] at hl
    split at hl
    · rename_i e; subst e; cases hl; exact h.1
    · exact ih h.2 hl
theorem Hold.sub {n : Nat} {r fr : Fr} {a : Act} (hF : Hold ds n fr a) (h : Sub r fr) : Hold ds n r a := ⟨hF.size, hF.defers, fun t v hl => hF.has t v (h.lk hl)⟩

/-! ### the heap -/
def rd (h : Heap) (a : Addr) : Option Value :=
  match h[a.block]? with
  | some (.cells c _ _) => if a.spot.isSome then none else c[a.off]?
  | _ => none
theorem cell_eq_rd (w : World) (a : Addr) : w.cell? a = rd w.heap a := rfl
/-- a block of cells of our own -/
def Blk (h : Heap) (b : Nat) (l : List Value) (t : TypeId) : Prop := h[b]? = some (.cells l.toArray t (0, 0))
structure ExtH (h h' : Heap) : Prop where
  size : h.size ≤ h'.size
  block : ∀ b, b < h.size → h'[b]? = h[b]?
theorem ExtH.refl (h : Heap) : ExtH h h := ⟨Nat.le_refl _, fun _ _ => rfl⟩
theorem ExtH.trans {a b c : Heap} (h : ExtH a b) (k : ExtH b c) : ExtH a c := ⟨Nat.le_trans h.size k.size, fun i hi => (k.block i (Nat.lt_of_lt_of_le hi h.size)).trans (h.block i hi)⟩
theorem rd_lt {h : Heap} {a : Addr} {v : Value} (hr : rd h a = some v) : a.block < h.size := by
  unfold rd at hr
  split at hr
  · rename_i hb; exact (Array.getElem?_eq_some_iff.1 hb).1
  · cases hr
theorem ExtH.rd {h h' : Heap} (he : ExtH h h') {a : Addr} {v : Value} (hr : rd h a = some v) : rd h' a = some v := by
  have := he.block a.block (rd_lt hr)
  unfold Vm.rd at *
  rw [this]
  exact hr
theorem Blk.lt {h : Heap} {b : Nat} {l : List Value} {t : TypeId} (hb : Blk h b l t) : b < h.size := (Array.getElem?_eq_some_iff.1 hb).1
theorem ExtH.blk {h h' : Heap} (he : ExtH h h') {b : Nat} {l : List Value} {t : TypeId} (hb : Blk h b l t) : Blk h' b l t := (he.block b hb.lt).trans hb
theorem Blk.rd {h : Heap} {b : Nat} {l : List Value} {t : TypeId} (hb : Blk h b l t) {o : Nat} {v : Value} (hv : l[o]? = some v) : rd h ⟨b, o, none⟩ = some v := by
  unfold Blk at hb
  simp [Vm.rd, hb, hv]
def rdN (h : Heap) (b o : Nat) (vs : List Value) : Prop := ∀ j v, vs[j]? = some v → rd h ⟨b, o + j, none⟩ = some v
theorem Blk.rdN {h : Heap} {b : Nat} {l : List Value} {t : TypeId} (hb : Blk h b l t) (o : Nat) (vs : List Value) (hv : (l.drop o).take vs.length = vs) : rdN h b o vs := by
  intro j v hj
  refine hb.rd ?_
  have hlt := (List.getElem?_eq_some_iff.1 hj).1
  have h1 : (l.drop o)[j]? = some v := by
    rw [← hv, List.getElem?_take] at hj
    rw [if_pos hlt] at hj
    exact hj
  rwa [List.getElem?_drop] at h1
theorem Blk.all {h : Heap} {b : Nat} {l : List Value} {t : TypeId} (hb : Blk h b l t) : Vm.rdN h b 0 l := hb.rdN 0 l (by simp)
theorem ExtH.rdN {h h' : Heap} (he : ExtH h h') {b o : Nat} {vs : List Value} (hr : rdN h b o vs) : Vm.rdN h' b o vs := fun j v hj => he.rd (hr j v hj)
/-- h' is h with one new block -/
structure Newed (h h' : Heap) (o : Obj) : Prop where
  size : h'.size = h.size + 1
  new : h'[h.size]? = some o
  block : ∀ b, b < h.size → h'[b]? = h[b]?
theorem Newed.ext {h h' : Heap} {o : Obj} (hn : Newed h h' o) : ExtH h h' := ⟨by rw [hn.size]; omega, hn.block⟩
theorem Newed.push (h : Heap) (o : Obj) : Newed h (h.push o) o := ⟨by simp, by simp, fun b hb => by rw [Array.getElem?_push, if_neg (by omega)]⟩
theorem Newed.blk {h h' : Heap} {c : Array Value} {t : TypeId} (hn : Newed h h' (.cells c t)) : Blk h' h.size c.toList t := hn.new
/-- h' is h but for block b, which now holds l -/
structure Wrote (h h' : Heap) (b : Nat) (l : List Value) (t : TypeId) : Prop where
  size : h'.size = h.size
  new : Blk h' b l t
  block : ∀ c, c ≠ b → h'[c]? = h[c]?
theorem Wrote.blk {h h' : Heap} {b : Nat} {l : List Value} {t : TypeId} (hw : Wrote h h' b l t) {c : Nat} {m : List Value} {u : TypeId} (hc : Blk h c m u) (hne : c ≠ b) : Blk h' c m u := (hw.block c hne).trans hc
theorem Wrote.cast {h h' : Heap} {b : Nat} {l l' : List Value} {t : TypeId} (hw : Wrote h h' b l t) (e : l = l') : Wrote h h' b l' t := e ▸ hw
theorem Wrote.rd {h h' : Heap} {b : Nat} {l : List Value} {t : TypeId} (hw : Wrote h h' b l t) {a : Addr} {v : Value} (hr : rd h a = some v) (hne : a.block ≠ b) : Vm.rd h' a = some v := by
  unfold Vm.rd at *
  rw [hw.block _ hne]
  exact hr
theorem Wrote.rdN {h h' : Heap} {b : Nat} {l : List Value} {t : TypeId} (hw : Wrote h h' b l t) {c o : Nat} {vs : List Value} (hr : rdN h c o vs) (hne : c ≠ b) : Vm.rdN h' c o vs := fun j v hj => hw.rd (hr j v hj) hne
def splice (l : List Value) (o : Nat) (vs : List Value) : List Value := l.take o ++ vs ++ l.drop (o + vs.length)

theorem i64_nat (n : Nat) (h : n < 9223372036854775808) : IntKind.i64.wrap (n : Int) = (n : Int) := by rw [IntKind.wrap_i64]; omega
theorem i64_in (n : Int) (h : -9223372036854775808 ≤ n) (h' : n < 9223372036854775808) : IntKind.i64.wrap n = n := by rw [IntKind.wrap_i64]; omega
theorem i64_eq (i : Int) (n : Nat) (e : i = n) (h : n < 9223372036854775808) : IntKind.i64.wrap i = (n : Int) := by rw [e]; exact i64_nat n h
/-- a slot that holds an int -/
theorem slot_i64 (i : Int) (n : Nat) (e : i = n) (h : n < 9223372036854775808) : some (Value.int .i64 (IntKind.i64.wrap i)) = some (.int .i64 (n : Int)) := by rw [i64_eq i n e h]
/-! ### operations that only read -/
def addk (a : Addr) (n : Nat) (k : Addr → Prop) : Prop :=
  match a with
  | ⟨b, off, none⟩ => k ⟨b, off + n, none⟩
  | _ => False
theorem addk_elim {a : Addr} {n : Nat} {k : Addr → Prop} (h : addk a n k) : k (a.add n) := by
  unfold addk at h
  split at h
  · rename_i b off
    have : (⟨b, off, none⟩ : Addr).add n = ⟨b, off + n, none⟩ := by unfold Addr.add; split <;> simp_all
    rw [this]; exact h
  · exact h.elim
/-- element i of a row of elements of so many cells -/
def addi (a : Addr) (i size : Nat) (k : Addr → Prop) : Prop := if size = 1 then addk a i k else addk a (i * size) k
theorem addi_elim {a : Addr} {i size : Nat} {k : Addr → Prop} (h : addi a i size k) : k (a.add (i * size)) := by
  unfold addi at h
  split at h
  · rename_i e; rw [e, Nat.mul_one]; exact addk_elim h
  · exact addk_elim h
def partk (P : Program) (T : TypeId) (cs : Array Value) (off : Nat) (k : Value → Prop) : Prop :=
  match P.underlying T, P.info? T with
  | some (.struct _), some inf => k (.agg (cs.extract off (off + inf.size)))
  | some (.array _ _), some inf => k (.agg (cs.extract off (off + inf.size)))
  | some _, some _ => match cs[off]? with
    | some v => k v
    | none => False
  | _, _ => False
theorem partk_elim {P : Program} {T : TypeId} {cs : Array Value} {off : Nat} {k : Value → Prop} (h : partk P T cs off k) : ∃ v, (∀ w, (part T cs off).run P w = .ok v w) ∧ k v := by
  unfold partk at h
  split at h
  · rename_i hu hi; exact ⟨_, fun w => by simp [part, isAgg, Sem.run_bind, run_underlying hu, sizeOf, typeInfo, hi], h⟩
  · rename_i hu hi; exact ⟨_, fun w => by simp [part, isAgg, Sem.run_bind, run_underlying hu, sizeOf, typeInfo, hi], h⟩
  · rename_i d inf hns hna hu hi
    split at h
    · rename_i v hv
      refine ⟨v, fun w => ?_, h⟩
      have : (isAgg T).run P w = .ok false w := by
        unfold isAgg
        rw [Sem.run_bind, run_underlying hu w]
        cases d <;> simp_all
      simp [part, Sem.run_bind, this, hv]
    · exact h.elim
  · exact h.elim
theorem run_loadN {P : Program} {t : TypeId} {inf : TypeInfo} (hagg : ∀ w, (isAgg t).run P w = .ok true w) (hi : P.info? t = some inf) {vs : List Value} (hl : vs.length = inf.size) {w : World} {b off : Nat} (hr : rdN w.heap b off vs) :
    (loadVar t ⟨b, off, none⟩).run P w = .ok (.agg vs.toArray) w := by
  have h1 : (loadCells ⟨b, off, none⟩ vs.length).run P w = .ok vs.toArray w := run_loadCells_list (P := P) w ⟨b, off, none⟩ vs (fun j v hv => by
    have hadd : (⟨b, off, none⟩ : Addr).add j = ⟨b, off + j, none⟩ := by unfold Addr.add; split <;> simp_all
    rw [hadd, cell_eq_rd]
    exact hr j v hv)
  rw [hl] at h1
  simp [loadVar, Sem.run_bind, hagg, sizeOf, typeInfo, hi, h1]
def loadk (P : Program) (t : TypeId) (b off : Nat) (h : Heap) (k : Value → Prop) : Prop :=
  match P.underlying t, P.info? t with
  | some (.struct _), some inf => ∃ vs, vs.length = inf.size ∧ rdN h b off vs ∧ k (.agg vs.toArray)
  | some (.array _ _), some inf => ∃ vs, vs.length = inf.size ∧ rdN h b off vs ∧ k (.agg vs.toArray)
  | some _, some _ => ∃ v, rd h ⟨b, off, none⟩ = some v ∧ k v
  | _, _ => False
theorem loadk_elim {P : Program} {t : TypeId} {b off : Nat} {h : Heap} {k : Value → Prop} (H : loadk P t b off h k) :
    ∃ v, k v ∧ ∀ w, ExtH h w.heap → (loadVar t ⟨b, off, none⟩).run P w = .ok v w := by
  unfold loadk at H
  split at H
  · rename_i ht hi
    obtain ⟨vs, hl, hr, H⟩ := H
    exact ⟨_, H, fun w hw => run_loadN (P := P) (t := t) (fun w => by simp [isAgg, run_underlying ht]) hi hl (hw.rdN hr)⟩
  · rename_i ht hi
    obtain ⟨vs, hl, hr, H⟩ := H
    exact ⟨_, H, fun w hw => run_loadN (P := P) (t := t) (fun w => by simp [isAgg, run_underlying ht]) hi hl (hw.rdN hr)⟩
  · rename_i d inf hns hna hu hi
    obtain ⟨u, hr, H⟩ := H
    refine ⟨u, H, fun w hw => ?_⟩
    have hagg : (isAgg t).run P w = .ok false w := by
      unfold isAgg
      rw [Sem.run_bind, run_underlying hu w]
      cases d <;> simp_all
    have hc : w.cell? _ = some u := hw.rd hr
    simp [loadVar, hagg, run_load, hc]
  · exact H.elim
/-- the operands of an operation of two integers -/
def intk (op : BinOp) (a : IntKind) (x y : Int) (k : Value → Prop) : Prop :=
  match op with
  | .add => k (.int a (a.wrap (x + y)))
  | .sub => k (.int a (a.wrap (x - y)))
  | .mul => k (.int a (a.wrap (x * y)))
  | .quo => y ≠ 0 ∧ k (.int a (a.wrap (x.tdiv y)))
  | .rem => y ≠ 0 ∧ k (.int a (x.tmod y))
  | .and => k (.int a (bits .and a x y))
  | .or => k (.int a (bits .or a x y))
  | .xor => k (.int a (bits .xor a x y))
  | .andNot => k (.int a (bits .andNot a x y))
  | .eql => k (.bool (x == y))
  | .neq => k (.bool (x != y))
  | .lss => k (.bool (decide (x < y)))
  | .leq => k (.bool (decide (x ≤ y)))
  | .gtr => k (.bool (decide (x > y)))
  | .geq => k (.bool (decide (x ≥ y)))
  | _ => False
def binq (P : Program) (op : BinOp) (t : TypeId) (xo yo : Operand) (x y : Value) (k : Value → Prop) : Prop :=
  match x, y with
  | .int a x, .int b y => match op with
    | .shl => 0 ≤ y ∧ k (.int a (a.wrap (x * 2 ^ min y.toNat a.bits)))
    | .shr => 0 ≤ y ∧ k (.int a (x / 2 ^ min y.toNat a.bits))
    | op => if a = b then intk op a x y k else False
  | .string x, .string y => match op with
    | .add => (x.size : Int) + y.size ≤ 9223372036854775807 ∧ k (.string (x ++ y))
    | .eql => k (.bool (x.toList == y.toList))
    | .neq => k (.bool !(x.toList == y.toList))
    | .lss => k (.bool (Op.bytesLess x.toList y.toList))
    | op => ∃ v, (∀ w, (do eqGuard op t xo yo (.string x) (.string y); binOp op t (.string x) (.string y) : Sem Value).run P w = .ok v w) ∧ k v
  | x, y => ∃ v, (∀ w, (do eqGuard op t xo yo x y; binOp op t x y : Sem Value).run P w = .ok v w) ∧ k v
theorem binq_elim {P : Program} {op : BinOp} {t : TypeId} {xo yo : Operand} {x y : Value} {k : Value → Prop} (h : binq P op t xo yo x y k) :
    ∃ v, (∀ w, (do eqGuard op t xo yo x y; binOp op t x y : Sem Value).run P w = .ok v w) ∧ k v := by
  unfold binq at h
  split at h
  · rename_i a x b y
    have hg : ∀ op w, (eqGuard op t xo yo (.int a x) (.int b y)).run P w = .ok () w := fun op w => by
      unfold eqGuard
      cases op <;> simp
    split at h
    · obtain ⟨h0, h⟩ := h
      exact ⟨_, fun w => by rw [Sem.run_bind, hg]; simp [binOp, shift_shl_any _ _ _ _ h0], h⟩
    · obtain ⟨h0, h⟩ := h
      exact ⟨_, fun w => by rw [Sem.run_bind, hg]; simp [binOp, shift_shr_any _ _ _ _ h0], h⟩
    · rename_i op hn1 hn2
      split at h
      · rename_i e; subst e
        unfold intk at h
        split at h
        case h_4 => obtain ⟨h0, h⟩ := h; exact ⟨_, fun w => by rw [Sem.run_bind, hg]; simp [binOp, Op.intDiv, h0], h⟩
        case h_5 => obtain ⟨h0, h⟩ := h; exact ⟨_, fun w => by rw [Sem.run_bind, hg]; simp [binOp, Op.intDiv, h0], h⟩
        case h_16 => exact h.elim
        all_goals exact ⟨_, fun w => by rw [Sem.run_bind, hg]; simp [binOp, Op.intArith, Op.intCmp, intBits_and, intBits_or, intBits_xor, intBits_andNot], h⟩
      · exact h.elim
  · rename_i x y
    have hg : ∀ op w, (eqGuard op t xo yo (.string x) (.string y)).run P w = .ok () w := fun op w => by
      unfold eqGuard
      cases op <;> simp
    split at h
    case h_5 => exact h
    case h_1 => obtain ⟨h0, h⟩ := h; exact ⟨_, fun w => by rw [Sem.run_bind, hg]; simp [binOp, Op.stringOp]; exact h0, h⟩
    all_goals exact ⟨_, fun w => by rw [Sem.run_bind, hg]; simp [binOp, Op.stringOp], h⟩
  · exact h
def bnd (fr : Fr) (x : Option Operand) (d : Nat) (k : Int → Prop) : Prop :=
  match x with
  | none => k d
  | some x => evk fr x fun v => match v with
    | .int _ n => k n
    | _ => False
def lenq (P : Program) (c : Call) (fr : Fr) (h : Heap) (k : Value → Prop) : Prop :=
  match c.callee with
  | .builtin .len => match c.args[0]?, c.argTypes[0]? with
    | some x, some T => evk fr x fun v => match P.underlying T, v with
      | some (.slice _), .slice _ len _ => k (.int .i64 len)
      | some .string, .string s => k (.int .i64 s.size)
      | some (.map _ _), v => ∃ u, (∀ ty w, ExtH h w.heap → (Builtin.len_ #[T] ty #[v]).run P w = .ok u w) ∧ k u
      | _, _ => False
    | _, _ => False
  | _ => False
/-- how an operation that only reads comes out, over a frame and a heap -/
def opq (P : Program) (o : Oper) (fr : Fr) (h : Heap) (k : Value → Prop) : Prop :=
  match o.op with
  | .move x => evk fr x k
  | .assign x => evk fr x k
  | .pick c a b => evk fr c fun c => match c with
    | .bool true => evk fr a k
    | .bool false => evk fr b k
    | _ => False
  | .nilCheck x => evk fr x fun v => match v with
    | .pointer (some a) => k (.pointer (some a))
    | .func (.func f) x y => k (.func (.func f) x y)
    | _ => False
  | .binOp op t x y _ => evk fr x fun a => evk fr y fun b => binq P op t x y a b k
  | .unOp op _ x => evk fr x fun v => match op, v with
    | .neg, .int kd n => k (.int kd (kd.wrap (0 - n)))
    | .xor, .int kd n => k (.int kd (bits .xor kd (if kd.signed then -1 else kd.max) n))
    | .not, .bool b => k (.bool !b)
    | _, _ => False
  | .convert s t x => evk fr x fun v => match P.underlying s, P.underlying t, v with
    | some _, some (.int kd), .int _ n => k (.int kd (kd.wrap n))
    | some _, some .string, .string b => k (.string b)
    | _, _, _ => False
  | .fieldAddr s x i => evk fr x fun v => match P.underlying s, v with
    | some (.struct fs), .pointer (some a) => match fs[i]? with
      | some f => match P.info? f.type with
        | some inf => if inf.size = 0 then False else addk a f.offset fun a' => k (.pointer (some a'))
        | none => False
      | none => False
    | _, _ => False
  | .field t x i => evk fr x fun v => match P.underlying t, v with
    | some (.struct fs), .agg cs => match fs[i]? with
      | some f => partk P f.type cs f.offset k
      | none => False
    | _, _ => False
  | .indexAddr t x i => evk fr x fun v => evk fr i fun iv => match iv with
    | .int _ n => match P.underlying t, v with
      | some (.array len e), .pointer (some a) => match P.info? e with
        | some inf => (0 ≤ n ∧ n < len) ∧ addi a n.toNat inf.size fun a' => k (.pointer (some a'))
        | none => False
      | some (.slice e), .slice (some a) len _ => match P.info? e with
        | some inf => (0 ≤ n ∧ n < len) ∧ addi a n.toNat inf.size fun a' => k (.pointer (some a'))
        | none => False
      | _, _ => False
    | _ => False
  | .index t x i => evk fr x fun v => evk fr i fun iv => match iv with
    | .int _ n => match P.underlying t, v with
      | some (.array len e), .agg cs => match P.info? e with
        | some inf => (0 ≤ n ∧ n < len) ∧ partk P e cs (n.toNat * inf.size) k
        | none => False
      | some .string, .string s => ∃ b, (0 ≤ n ∧ s[n.toNat]? = some b) ∧ k (.int .u8 b.toNat)
      | _, _ => False
    | _ => False
  | .extract x i => evk fr x fun v => match v with
    | .tuple vs => match vs[i]? with
      | some v => k v
      | none => False
    | _ => False
  | .load t x => evk fr x fun v => match v with
    | .pointer (some ⟨b, off, none⟩) => loadk P t b off h k
    | _ => False
  | .slice t x lo hi none => evk fr x fun v => match P.underlying t, v with
    | some .string, .string s => bnd fr lo 0 fun l => bnd fr hi s.size fun h => (0 ≤ l ∧ l ≤ h ∧ h ≤ s.size) ∧ k (.string (s.extract l.toNat h.toNat))
    | some (.slice e), .slice a len cap => match P.info? e with
      | some inf => bnd fr lo 0 fun l => bnd fr hi len fun h => (0 ≤ l ∧ l ≤ h ∧ h ≤ cap) ∧ ∃ A, (if cap = l.toNat then a else a.map (·.add (l.toNat * inf.size))) = A ∧ k (.slice A (h.toNat - l.toNat) (cap - l.toNat))
      | none => False
    | some (.array n e), .pointer (some a) => match P.info? e with
      | some inf => bnd fr lo 0 fun l => bnd fr hi n fun h => (0 ≤ l ∧ l ≤ h ∧ h ≤ n) ∧ ∃ A, (if n = l.toNat then a else a.add (l.toNat * inf.size)) = A ∧ k (.slice (some A) (h.toNat - l.toNat) (n - l.toNat))
      | none => False
    | _, _ => False
  | .slice t x lo hi (some mx) => evk fr x fun v => match P.underlying t, v with
    | some (.slice e), .slice a len cap => match P.info? e with
      | some inf => bnd fr lo 0 fun l => bnd fr hi len fun h => bnd fr (some mx) 0 fun m => (hi.isSome = true ∧ 0 ≤ l ∧ l ≤ h ∧ h ≤ m ∧ m ≤ cap) ∧ ∃ A, (if m.toNat = l.toNat then a else a.map (·.add (l.toNat * inf.size))) = A ∧ k (.slice A (h.toNat - l.toNat) (m.toNat - l.toNat))
      | none => False
    | _, _ => False
  | .sliceToArrayPointer T x => evk fr x fun v => match P.underlying T, v with
    | some (.array n _), .slice a len _ => n ≤ len ∧ k (.pointer a)
    | _, _ => False
  | .call c => lenq P c fr h k
  | .build t parts => ∃ vs, evl fr parts.toList = some vs ∧ ∃ c, (∀ w, (Instr.build t vs.toArray).run P w = .ok (.agg c) w) ∧ k (.agg c)
  | .lookup t x ix ok => evk fr x fun v => evk fr ix fun i => ∃ u, (∀ w, ExtH h w.heap → (Instr.lookup t v i ok).run P w = .ok u w) ∧ k u
  | .makeInterface t x => evk fr x fun v => ∃ u, (∀ w, (Instr.makeInterface t v).run P w = .ok u w) ∧ k u
  | .typeAssert x t a ok => evk fr x fun v => ∃ u, (∀ w, (Instr.typeAssert v t a ok).run P w = .ok u w) ∧ k u
  | .makeFunc f first cap => ∃ vs, evs fr first.toList = some vs ∧ ∃ us, evs fr cap.toList = some us ∧ k (.func f vs.toArray us.toArray)
  | _ => False

theorem run_sliceBounds {P : Program} (sl : Bool) (len cap : Nat) (lo hi : Option Value) (l h : Int) (w : World) (hlo : lo = none ∧ l = 0 ∨ ∃ kd, lo = some (.int kd l)) (hhi : hi = none ∧ h = len ∨ ∃ kd, hi = some (.int kd h))
    (h0 : 0 ≤ l) (h1 : l ≤ h) (h2 : h ≤ cap) : (Instr.sliceBounds sl len cap lo hi none).run P w = .ok (l.toNat, h.toNat, cap) w := by
  have e : ((h.toNat : Nat) : Int) = h := by omega
  rcases hhi with ⟨rfl, rfl⟩ | ⟨kd, rfl⟩ <;> rcases hlo with ⟨rfl, rfl⟩ | ⟨kd', rfl⟩
  · simp [Instr.sliceBounds]
  · have hb := run_sliceBound (P := P) w kd' l len (if false then .slice3C else .sliceB) h0 h1
    simp only [Bool.false_eq_true, if_false] at hb
    simp [Instr.sliceBounds, hb]
  · have hb := run_sliceBound (P := P) w kd h cap (if sl then .sliceAcap else .sliceAlen) (by omega) h2
    simp [Instr.sliceBounds, hb]
  · have hb := run_sliceBound (P := P) w kd h cap (if sl then .sliceAcap else .sliceAlen) (by omega) h2
    have hb' := run_sliceBound (P := P) w kd' l h.toNat .sliceB h0 (by omega)
    simp [Instr.sliceBounds, hb, hb']
theorem run_sliceBounds3 {P : Program} (sl : Bool) (len cap : Nat) (lo : Option Value) (kh km : IntKind) (l h m : Int) (w : World) (hlo : lo = none ∧ l = 0 ∨ ∃ kd, lo = some (.int kd l))
    (h0 : 0 ≤ l) (h1 : l ≤ h) (h2 : h ≤ m) (h3 : m ≤ cap) : (Instr.sliceBounds sl len cap lo (some (.int kh h)) (some (.int km m))).run P w = .ok (l.toNat, h.toNat, m.toNat) w := by
  have hm := run_sliceBound (P := P) w km m cap (if sl then .slice3Acap else .slice3Alen) (by omega) h3
  have hh := run_sliceBound (P := P) w kh h m.toNat .slice3B (by omega) (by omega)
  rcases hlo with ⟨rfl, rfl⟩ | ⟨kd, rfl⟩
  · simp [Instr.sliceBounds, hm, hh]
  · have hl := run_sliceBound (P := P) w kd l h.toNat .slice3C h0 (by omega)
    simp [Instr.sliceBounds, hm, hh, hl]
end Go.Proofs.YtdielfpgekenkaaGreatDoor.Vm
namespace Go.Proofs.YtdielfpgekenkaaGreatDoor.Vm
open Go
variable {ds : List Deferred}
set_option linter.unusedSimpArgs false
theorem bnd_elim {fr : Fr} {x : Option Operand} {d : Nat} {k : Int → Prop} (h : bnd fr x d k) {n : Nat} {a : Act} (hF : Hold ds n fr a) :
    ∃ i, k i ∧ (x.map a.eval = none ∧ i = d ∨ ∃ kd, x.map a.eval = some (.int kd i)) := by
  unfold bnd at h
  split at h
  · exact ⟨_, h, .inl ⟨rfl, rfl⟩⟩
  · obtain ⟨v, hv, h⟩ := evk_elim h
    split at h
    · exact ⟨_, h, .inr ⟨_, congrArg some (hF.ev hv)⟩⟩
    · exact h.elim
theorem bnd_elim0 {fr : Fr} {x : Option Operand} {k : Int → Prop} (h : bnd fr x 0 k) {n : Nat} {a : Act} (hF : Hold ds n fr a) :
    ∃ i, k i ∧ (x.map a.eval = none ∧ i = 0 ∨ ∃ kd, x.map a.eval = some (.int kd i)) := bnd_elim h hF
theorem mapM_ev {fr : Fr} {n : Nat} {a : Act} (hF : Hold ds n fr a) : ∀ (l : List (Nat × Operand)) (vs : List (Nat × Value)),
    evl fr l = some vs → l.map (fun p => (p.1, a.eval p.2)) = vs
  | [], vs, h => by simp [evl] at h; simp [h]
  | (i, x) :: l, vs, h => by
    simp only [evl] at h
    split at h
    · rename_i v us hv hl
      cases h
      simp [hF.ev hv, mapM_ev hF l us hl]
    · cases h
theorem mapM_evs {fr : Fr} {n : Nat} {a : Act} (hF : Hold ds n fr a) : ∀ (l : List Operand) (vs : List Value), evs fr l = some vs → l.map a.eval = vs
  | [], vs, h => by simp [evs] at h; simp [h]
  | x :: l, vs, h => by
    simp only [evs] at h
    split at h
    · rename_i v us hv hl
      cases h
      simp [hF.ev hv, mapM_evs hF l us hl]
    · cases h
theorem opq_sound {P : Program} {o : Oper} {fr : Fr} {h : Heap} {k : Value → Prop} {n : Nat} {a : Act} (hF : Hold ds n fr a) (H : opq P o fr h k) :
    ∃ v, k v ∧ ∀ w, ExtH h w.heap → (execOp a.eval o).run P w = .ok (.value v) w := by
  unfold opq at H
  split at H
  · rename_i x ho
    obtain ⟨v, hv, H⟩ := evk_elim H
    exact ⟨v, H, fun w _ => by simp [execOp, ho, hF.ev hv]⟩
  · rename_i x ho
    obtain ⟨v, hv, H⟩ := evk_elim H
    exact ⟨v, H, fun w _ => by simp [execOp, ho, hF.ev hv]⟩
  · rename_i c x y ho
    obtain ⟨v, hv, H⟩ := evk_elim H
    split at H
    · obtain ⟨u, hu, H⟩ := evk_elim H
      exact ⟨u, H, fun w _ => by simp [execOp, ho, hF.ev hv, hF.ev hu, asBool]⟩
    · obtain ⟨u, hu, H⟩ := evk_elim H
      exact ⟨u, H, fun w _ => by simp [execOp, ho, hF.ev hv, hF.ev hu, asBool]⟩
    · exact H.elim
  · rename_i x ho
    obtain ⟨v, hv, H⟩ := evk_elim H
    split at H
    · exact ⟨_, H, fun w _ => by simp [execOp, ho, hF.ev hv]⟩
    · exact ⟨_, H, fun w _ => by simp [execOp, ho, hF.ev hv]⟩
    · exact H.elim
  · rename_i op t x y yt ho
    obtain ⟨u, hu, H⟩ := evk_elim H
    obtain ⟨v, hv, H⟩ := evk_elim H
    obtain ⟨r, hr, H⟩ := binq_elim H
    exact ⟨r, H, fun w _ => by simp only [execOp, ho, hF.ev hu, hF.ev hv, Sem.run_bind, hr]; rfl⟩
  · rename_i op t x ho
    obtain ⟨v, hv, H⟩ := evk_elim H
    split at H
    · exact ⟨_, H, fun w _ => by simp [execOp, ho, hF.ev hv, Op.unary, Op.intArith]⟩
    · exact ⟨_, H, fun w _ => by simp [execOp, ho, hF.ev hv, Op.unary, intBits_xor]⟩
    · exact ⟨_, H, fun w _ => by simp [execOp, ho, hF.ev hv, Op.unary]⟩
    · exact H.elim
  · rename_i s t x ho
    obtain ⟨v, hv, H⟩ := evk_elim H
    split at H
    · rename_i hs ht
      exact ⟨_, H, fun w _ => by simp [execOp, ho, hF.ev hv, convert, run_underlying hs, run_underlying ht, Conv.intToInt]⟩
    · rename_i hs ht
      exact ⟨_, H, fun w _ => by simp [execOp, ho, hF.ev hv, convert, run_underlying hs, run_underlying ht]⟩
    · exact H.elim
  · rename_i s x i ho
    obtain ⟨v, hv, H⟩ := evk_elim H
    split at H
    · rename_i fs ad hs
      split at H
      · rename_i f hf
        split at H
        · rename_i inf hi
          split at H
          · exact H.elim
          · rename_i hsz
            have H := addk_elim H
            exact ⟨_, H, fun w _ => by simp [execOp, ho, hF.ev hv, Instr.fieldAt, run_underlying hs, hf, Instr.sureAddr, fieldPlace, sizeOf, typeInfo, hi, hsz]⟩
        · exact H.elim
      · exact H.elim
    · exact H.elim
  · rename_i t x i ho
    obtain ⟨v, hv, H⟩ := evk_elim H
    split at H
    · rename_i fs cs hs
      split at H
      · rename_i f hf
        obtain ⟨u, hu, H⟩ := partk_elim H
        exact ⟨u, H, fun w _ => by simp [execOp, ho, hF.ev hv, Instr.field, run_underlying hs, hf, asAgg, hu]⟩
      · exact H.elim
    · exact H.elim
  · rename_i t x i ho
    obtain ⟨v, hv, H⟩ := evk_elim H
    obtain ⟨iv, hiv, H⟩ := evk_elim H
    split at H
    · split at H
      · rename_i ht _
        split at H
        · rename_i hi
          obtain ⟨⟨h0, h1⟩, H⟩ := H
          have H := addi_elim H
          exact ⟨_, H, fun w _ => by simp [execOp, ho, hF.ev hv, hF.ev hiv, Instr.indexAt, run_underlying ht, asIntOf, Instr.sureAddr, h0, h1, sizeOf, typeInfo, hi]⟩
        · exact H.elim
      · rename_i ht _
        split at H
        · rename_i hi
          obtain ⟨⟨h0, h1⟩, H⟩ := H
          have H := addi_elim H
          exact ⟨_, H, fun w _ => by simp [execOp, ho, hF.ev hv, hF.ev hiv, Instr.indexAt, run_underlying ht, asIntOf, h0, h1, sizeOf, typeInfo, hi]⟩
        · exact H.elim
      · exact H.elim
    · exact H.elim
  · rename_i t x i ho
    obtain ⟨v, hv, H⟩ := evk_elim H
    obtain ⟨iv, hiv, H⟩ := evk_elim H
    split at H
    · split at H
      · rename_i ht _
        split at H
        · rename_i hi
          obtain ⟨⟨h0, h1⟩, H⟩ := H
          obtain ⟨u, hu, H⟩ := partk_elim H
          exact ⟨u, H, fun w _ => by simp [execOp, ho, hF.ev hv, hF.ev hiv, Instr.index, run_underlying ht, asIntOf, h0, h1, sizeOf, typeInfo, hi, hu]⟩
        · exact H.elim
      · rename_i ht _
        obtain ⟨b, ⟨h0, h1⟩, H⟩ := H
        exact ⟨_, H, fun w _ => by simp [execOp, ho, hF.ev hv, hF.ev hiv, Instr.index, run_underlying ht, asIntOf, h0, h1]⟩
      · exact H.elim
    · exact H.elim
  · rename_i x i ho
    obtain ⟨v, hv, H⟩ := evk_elim H
    split at H
    · split at H
      · rename_i u hu
        exact ⟨u, H, fun w _ => by simp [execOp, ho, hF.ev hv, Instr.extract, hu]⟩
      · exact H.elim
    · exact H.elim
  · rename_i t x ho
    obtain ⟨v, hv, H⟩ := evk_elim H
    split at H
    · obtain ⟨u, H, hu⟩ := loadk_elim H
      exact ⟨u, H, fun w hw => by simp [execOp, ho, hF.ev hv, Instr.loadAt, Instr.sureAddr, hu w hw]⟩
    · exact H.elim
  · rename_i t x lo hi ho
    obtain ⟨v, hv, H⟩ := evk_elim H
    split at H
    · rename_i s ht
      obtain ⟨l, H, hl⟩ := bnd_elim0 H hF
      obtain ⟨j, H, hj⟩ := bnd_elim H hF
      obtain ⟨⟨h0, h1, h2⟩, H⟩ := H
      exact ⟨_, H, fun w _ => by
        have := run_sliceBounds (P := P) false s.size s.size _ _ l j w hl hj h0 h1 h2
        simp [execOp, ho, hF.ev hv, Instr.sliceAt, Instr.slice, run_underlying ht, this]⟩
    · rename_i e ad len cap ht
      split at H
      · rename_i inf hi'
        obtain ⟨l, H, hl⟩ := bnd_elim0 H hF
        obtain ⟨j, H, hj⟩ := bnd_elim H hF
        obtain ⟨⟨h0, h1, h2⟩, A, hA, H⟩ := H
        exact ⟨_, H, fun w _ => by
          have := run_sliceBounds (P := P) true len cap _ _ l j w hl hj h0 h1 h2
          simp [execOp, ho, hF.ev hv, Instr.sliceAt, Instr.slice, run_underlying ht, this, sizeOf, typeInfo, hi', hA]⟩
      · exact H.elim
    · rename_i m e ad ht
      split at H
      · rename_i inf hi'
        obtain ⟨l, H, hl⟩ := bnd_elim0 H hF
        obtain ⟨j, H, hj⟩ := bnd_elim H hF
        obtain ⟨⟨h0, h1, h2⟩, A, hA, H⟩ := H
        exact ⟨_, H, fun w _ => by
          have := run_sliceBounds (P := P) false m m _ _ l j w hl hj h0 h1 h2
          simp [execOp, ho, hF.ev hv, Instr.sliceAt, Instr.sureAddr, run_underlying ht, this, sizeOf, typeInfo, hi', hA]⟩
      · exact H.elim
    · exact H.elim
  · rename_i t x lo hi mx ho
    obtain ⟨v, hv, H⟩ := evk_elim H
    split at H
    · rename_i e ad len cap ht
      split at H
      · rename_i inf hi'
        obtain ⟨l, H, hl⟩ := bnd_elim0 H hF
        obtain ⟨j, H, hj⟩ := bnd_elim H hF
        obtain ⟨m, H, hm⟩ := bnd_elim0 H hF
        obtain ⟨⟨hs, h0, h1, h2, h3⟩, A, hA, H⟩ := H
        exact ⟨_, H, fun w _ => by
          rcases hj with ⟨hj, _⟩ | ⟨kh, hj⟩
          · cases hi <;> simp at hs hj
          rcases hm with ⟨hm, _⟩ | ⟨km, hm⟩
          · simp at hm
          have hm' : a.eval mx = .int km m := by simpa using hm
          have := run_sliceBounds3 (P := P) true len cap _ kh km l j m w hl h0 h1 h2 h3
          simp [execOp, ho, hF.ev hv, Instr.sliceAt, Instr.slice, run_underlying ht, hj, hm', this, sizeOf, typeInfo, hi', hA]⟩
      · exact H.elim
    · exact H.elim
  · rename_i T x ho
    obtain ⟨v, hv, H⟩ := evk_elim H
    split at H
    · rename_i ht
      obtain ⟨h0, H⟩ := H
      exact ⟨_, H, fun w _ => by simp [execOp, ho, hF.ev hv, Instr.arrayAt, run_underlying ht, Nat.not_lt.2 h0]⟩
    · exact H.elim
  · rename_i c ho
    unfold lenq at H
    split at H
    · rename_i hc
      split at H
      · rename_i x T hx hT
        obtain ⟨v, hv, H⟩ := evk_elim H
        split at H
        · rename_i ht
          exact ⟨_, H, fun w _ => by simp [execOp, ho, hc, hx, hT, hF.ev hv, resolve, invoke, builtin, Builtin.len_, run_underlying ht, goInt]⟩
        · rename_i ht
          exact ⟨_, H, fun w _ => by simp [execOp, ho, hc, hx, hT, hF.ev hv, resolve, invoke, builtin, Builtin.len_, run_underlying ht, goInt]⟩
        · rename_i ht
          obtain ⟨u, hu, H⟩ := H
          refine ⟨u, H, fun w hw => ?_⟩
          have e : (Builtin.len_ c.argTypes o.type (c.args.map a.eval)).run P w = .ok u w := by
            rw [← hu o.type w hw]
            simp [Builtin.len_, hx, hT, hF.ev hv]
          simp [execOp, ho, hc, resolve, invoke, builtin, e]
        · exact H.elim
      · exact H.elim
    · exact H.elim
  · rename_i t parts ho
    obtain ⟨vs, hvs, c, hc, H⟩ := H
    have e : parts.map (fun p => (p.1, a.eval p.2)) = vs.toArray := by
      apply Array.ext'
      simpa using mapM_ev hF parts.toList vs hvs
    refine ⟨_, H, fun w _ => ?_⟩
    simp only [execOp, ho, Sem.run_bind]
    rw [show (parts.map fun x => match x with | (i, x) => (i, a.eval x)) = vs.toArray from e, hc]
    rfl
  · rename_i t x ix ok ho
    obtain ⟨v, hv, H⟩ := evk_elim H
    obtain ⟨i, hi, H⟩ := evk_elim H
    obtain ⟨u, hu, H⟩ := H
    exact ⟨u, H, fun w hw => by simp [execOp, ho, hF.ev hv, hF.ev hi, hu w hw]⟩
  · rename_i t x ho
    obtain ⟨v, hv, u, hu, H⟩ := evk_elim H
    exact ⟨u, H, fun w hw => by simp [execOp, ho, hF.ev hv, hu w]⟩
  · rename_i x t as ok ho
    obtain ⟨v, hv, u, hu, H⟩ := evk_elim H
    exact ⟨u, H, fun w hw => by simp [execOp, ho, hF.ev hv, hu w]⟩
  · rename_i f first cap ho
    obtain ⟨vs, hvs, us, hus, H⟩ := H
    have e1 : first.map a.eval = vs.toArray := by apply Array.ext'; simpa using mapM_evs hF first.toList vs hvs
    have e2 : cap.map a.eval = us.toArray := by apply Array.ext'; simpa using mapM_evs hF cap.toList us hus
    exact ⟨_, H, fun w hw => by simp [execOp, ho, e1, e2, Instr.makeFunc]⟩
  · exact H.elim
end Go.Proofs.YtdielfpgekenkaaGreatDoor.Vm
