/-
  A closed fact of the row of IncrNobody.
-/
import Derived.Test.YtdielfpgekenkaaGreatDoorJ25
namespace Go.Proofs.YtdielfpgekenkaaGreatDoor.incrNobody
open Go Clos
set_option maxRecDepth 100000
theorem unfollowed_eq : Tryz.prog.unfollowed 3 = true := by
  unfold Program.unfollowed
  rw [clos_eq]
  kernel_rfl
theorem kUnfollowed : (Rows.incrNobodyUptoRow.unfollowed == Tryz.prog.unfollowed 3) = true := by
  rw [unfollowed_eq]
  rfl
end Go.Proofs.YtdielfpgekenkaaGreatDoor.incrNobody
