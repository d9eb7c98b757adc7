/-
  A closed fact of the row of treadlelaw25.ToolNil.
-/
import Derived.Test.YthigegabdbkhiaaGreatDoorCards
import Derived.JoinedCond
namespace Go.Proofs.YthigegabdbkhiaaGreatDoor.toolNil
open Go
set_option maxRecDepth 100000
theorem kRecurses : (Rows.toolNilUptoRow.recurses == Tryz.prog.recurses 3) = true := by kernel_rfl
end Go.Proofs.YthigegabdbkhiaaGreatDoor.toolNil
