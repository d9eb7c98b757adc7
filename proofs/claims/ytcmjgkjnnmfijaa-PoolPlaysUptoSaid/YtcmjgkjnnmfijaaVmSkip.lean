/-
  An operation whose guard is of an operation that was skipped itself.
-/
import Derived.Test.YtcmjgkjnnmfijaaVmHead
namespace Go.Proofs.Ytcmjgkjnnmfijaa.Vm
open Go
section
variable {P : Program} {all : List Oper} {o : Oper} {fr : Fr} {h : Heap}
theorem ops_skipu {r : List Oper} {K : Fr → Heap → Prop} {j d : Nat} {b : Bool} {vs : Array Value} (hg : o.guard = some (j, b)) (hd : (all[j]?).bind (·.dst) = some d) (hl : lk fr d = some (.tuple vs)) (H : evOps P all r (put fr o.dst undef) h K) : evOps P all (o :: r) fr h K := by
  unfold evOps gk
  simp only [hg, hd, hl]
  exact H
theorem head_skipu {imp : Nat → Bool} {h0 : Heap} {L : Fr → Heap → Prop} {i : Nat} {p : List Nat} {j d : Nat} {b : Bool} {vs : Array Value} (ho : all[i]? = some o) (hg : o.guard = some (j, b)) (hd : (all[j]?).bind (·.dst) = some d)
    (hl : lk fr d = some (.tuple vs)) (H : evH P all imp h0 L p (put fr o.dst undef) h) : evH P all imp h0 L (i :: p) fr h := by
  unfold evH gk
  simp only [ho, hg, hd, hl]
  exact H
end
end Go.Proofs.Ytcmjgkjnnmfijaa.Vm
