/-
  A closed fact of the row of ColdReads.
-/
import Derived.Test.YtkdmpdbbcgdfkaaGreatDoorCards
import Derived.JoinedCond
namespace Go.Proofs.YtkdmpdbbcgdfkaaGreatDoor.coldReads
open Go
set_option maxRecDepth 100000
theorem kNamed : (Rows.coldReadsUptoRow.named == Tryz.prog.varsNamed 4) = true := by kernel_rfl
end Go.Proofs.YtkdmpdbbcgdfkaaGreatDoor.coldReads
