/-
  A closed fact of the row of IncrNobody: the variables that are named.
-/
import Derived.Test.YtdielfpgekenkaaGreatDoorJ25
namespace Go.Proofs.YtdielfpgekenkaaGreatDoor.incrNobody
open Go Clos
set_option maxRecDepth 100000
theorem kIds : ((clos Tryz.prog 3).flatMap fun g => ((Tryz.prog.funcs[g]?).bind (·.body)).elim [] Code.globalsNamed).eraseDups = [2, 3, 0, 4, 5, 6, 7, 8, 1] := by kernel_rfl
theorem kReads : ((clos Tryz.prog 3).filterMap fun g => (Tryz.prog.funcs[g]?).bind fun fn => if fn.body.isNone then entryReads.lookup fn.name else none) = ["internal/bytealg.MaxLen"] := by kernel_rfl
theorem kNamed : (Rows.incrNobodyUptoRow.named == Tryz.prog.varsNamed 3) = true := by
  unfold Program.varsNamed
  rw [clos_eq, kIds, kReads]
  kernel_rfl
end Go.Proofs.YtdielfpgekenkaaGreatDoor.incrNobody
