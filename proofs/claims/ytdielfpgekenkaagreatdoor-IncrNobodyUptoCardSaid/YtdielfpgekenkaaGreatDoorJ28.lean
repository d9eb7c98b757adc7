/-
  A closed fact of the row of IncrNobody.
-/
import Derived.Test.YtdielfpgekenkaaGreatDoorJ25
import Derived.Test.YtdielfpgekenkaaGreatDoorJ27
namespace Go.Proofs.YtdielfpgekenkaaGreatDoor.incrNobody
open Go Clos
set_option maxRecDepth 100000
theorem kRecurses : (Rows.incrNobodyUptoRow.recurses == Tryz.prog.recurses 3) = true := by
  unfold Program.recurses
  rw [unfollowed_eq]
  rfl
end Go.Proofs.YtdielfpgekenkaaGreatDoor.incrNobody
