/-
  What a function comes to by plain names, reckoned with a mask of bits in the place of a list: the kernel has room for great programs.
-/
import Derived.Test.YtdielfpgekenkaaGreatDoorCards
import Derived.JoinedCond
namespace Go.Proofs.YtdielfpgekenkaaGreatDoor.Clos
open Go
def force {α : Type} (n : Nat) (k : Nat → α) : α := match n with
  | 0 => k 0
  | m + 1 => k (m + 1)
theorem force_eq {α : Type} (n : Nat) (k : Nat → α) : force n k = k n := by cases n <;> rfl
def leads (P : Program) (f : FuncId) : List FuncId := (P.funcs[f]?).elim [] P.leadsTo
def fast (P : Program) : Nat → List FuncId → Nat → List FuncId → List FuncId
  | 0, _, _, seen => seen.reverse
  | _ + 1, [], _, seen => seen.reverse
  | n + 1, f :: todo, m, seen => force f fun f => match m.testBit f with
    | true => fast P n todo m seen
    | false => force (m ||| 2 ^ f) fun m => fast P n (leads P f ++ todo) m (f :: seen)
theorem bit_set (m f g : Nat) : (m ||| 2 ^ f).testBit g = (m.testBit g || decide (f = g)) := by
  rw [Nat.testBit_or, Nat.testBit_two_pow]
theorem fast_eq (P : Program) : ∀ (n : Nat) (todo : List FuncId) (m : Nat) (seen : List FuncId), (∀ g, m.testBit g = seen.contains g) → fast P n todo m seen = P.closureVia n todo seen
  | 0, _, _, _, _ => by unfold fast Program.closureVia; rfl
  | n + 1, [], _, _, _ => by unfold fast Program.closureVia; rfl
  | n + 1, f :: todo, m, seen, h => by
    unfold fast Program.closureVia
    rw [force_eq, h f]
    cases hs : seen.contains f with
    | true => simp only [if_true]; exact fast_eq P n todo m seen h
    | false =>
      simp only [Bool.false_eq_true, if_false]
      rw [force_eq]
      refine fast_eq P n _ _ _ fun g => ?_
      rw [bit_set, h g, List.contains_cons]
      rw [Bool.or_comm]
      congr 1
      by_cases e : f = g
      · subst e; simp
      · rw [decide_eq_false e]; symm; simpa using fun h => e h.symm
def clos (P : Program) (f : FuncId) : List FuncId := force (1 + (P.funcs.toList.map fun g => (P.leadsTo g).length + 1).sum) fun n => fast P n [f] 0 []
theorem clos_eq (P : Program) (f : FuncId) : P.closure f = clos P f := by
  unfold clos Program.closure
  rw [force_eq, fast_eq P _ _ _ _ (fun g => by simp)]
end Go.Proofs.YtdielfpgekenkaaGreatDoor.Clos
