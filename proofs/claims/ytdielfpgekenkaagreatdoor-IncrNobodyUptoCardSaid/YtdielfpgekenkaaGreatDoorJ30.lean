/-
  A closed fact of the row of treadlelaw24.IncrNobody.
-/
import Derived.Test.YtdielfpgekenkaaGreatDoorCards
import Derived.JoinedCond
namespace Go.Proofs.YtdielfpgekenkaaGreatDoor.incrNobody
open Go
set_option maxRecDepth 100000
theorem none_goes : (Tryz.prog.funcs.toList.any Func.goes) = false := by kernel_rfl
theorem goes_none {P : Program} {f : FuncId} (h : P.funcs.toList.any Func.goes = false) : P.goes f = false := by
  rw [List.any_eq_false] at h
  have h2 : P.funcs.any Func.goes = false := by
    rw [← Array.any_toList, List.any_eq_false]; exact h
  unfold Program.goes
  rw [h2, Bool.and_false, Bool.or_false, List.any_eq_false]
  intro g _
  cases hf : P.funcs[g]? with
  | none => simp
  | some fn =>
    have hm : fn ∈ P.funcs.toList := Array.mem_toList_iff.2 (Array.mem_of_getElem? hf)
    simpa using h fn hm
theorem kGoes : false = Rows.incrNobodyUptoRow.goesBy Tryz.prog := by
  have hs : Rows.incrNobodyUptoRow.start = .entering := rfl
  have hf : Tryz.prog.funcNamed Rows.incrNobodyUptoRow.func = some 3 := by kernel_rfl
  unfold OpenClaim.goesBy Program.goesAt Program.goesFrom
  rw [hs, hf, Option.any_some, goes_none none_goes]
  rfl
end Go.Proofs.YtdielfpgekenkaaGreatDoor.incrNobody
