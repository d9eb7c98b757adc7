/-
  A closed fact of the row of IncrNobody.
-/
import Derived.Test.YtdielfpgekenkaaGreatDoorJ25
namespace Go.Proofs.YtdielfpgekenkaaGreatDoor.incrNobody
open Go Clos
set_option maxRecDepth 100000
theorem kInPlace : (Rows.incrNobodyUptoRow.inPlace == Tryz.prog.inPlace 3) = true := by
  unfold Program.inPlace
  rw [clos_eq]
  kernel_rfl
end Go.Proofs.YtdielfpgekenkaaGreatDoor.incrNobody
