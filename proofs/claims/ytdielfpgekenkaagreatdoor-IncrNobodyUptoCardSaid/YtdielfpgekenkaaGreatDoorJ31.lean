/-
  The closed fact laidOutB of a great program, in pieces.
-/
import Derived.Test.YtdielfpgekenkaaGreatDoorCards
import Derived.JoinedCond
namespace Go.Proofs.YtdielfpgekenkaaGreatDoor.incrNobody
open Go
set_option maxRecDepth 100000
theorem types_size : Tryz.prog.types.size = 857 := by kernel_rfl
theorem rows0 : ((List.range' 0 100).all (rowFine Tryz.prog)) = true := by kernel_rfl
theorem rows100 : ((List.range' 100 100).all (rowFine Tryz.prog)) = true := by kernel_rfl
theorem rows200 : ((List.range' 200 100).all (rowFine Tryz.prog)) = true := by kernel_rfl
theorem rows300 : ((List.range' 300 100).all (rowFine Tryz.prog)) = true := by kernel_rfl
theorem rows400 : ((List.range' 400 100).all (rowFine Tryz.prog)) = true := by kernel_rfl
theorem rows500 : ((List.range' 500 100).all (rowFine Tryz.prog)) = true := by kernel_rfl
theorem rows600 : ((List.range' 600 100).all (rowFine Tryz.prog)) = true := by kernel_rfl
theorem rows700 : ((List.range' 700 100).all (rowFine Tryz.prog)) = true := by kernel_rfl
theorem rows800 : ((List.range' 800 57).all (rowFine Tryz.prog)) = true := by kernel_rfl
theorem all_app {P : Program} {a m n : Nat} (h1 : ((List.range' a m).all (rowFine P)) = true) (h2 : ((List.range' (a + m) n).all (rowFine P)) = true) : ((List.range' a (m + n)).all (rowFine P)) = true := by
  rw [← List.range'_append_1, List.all_append, h1, h2]; rfl
theorem globs : (Tryz.prog.globals.all (fun g => decide (g.type < Tryz.prog.types.size))) = true := by kernel_rfl
theorem funs : (Tryz.prog.funcs.all (fun f => f.params.all fun t => decide (t < Tryz.prog.types.size))) = true := by
  rw [types_size]
  kernel_rfl
theorem laidOut : laidOutB Tryz.prog = true := by
  unfold laidOutB
  rw [globs, funs, Bool.and_true, Bool.and_true, types_size, List.range_eq_range']
  exact (all_app (a := 0) (m := 800) (n := 57) (all_app (a := 0) (m := 700) (n := 100) (all_app (a := 0) (m := 600) (n := 100) (all_app (a := 0) (m := 500) (n := 100) (all_app (a := 0) (m := 400) (n := 100) (all_app (a := 0) (m := 300) (n := 100) (all_app (a := 0) (m := 200) (n := 100) (all_app (a := 0) (m := 100) (n := 100) rows0 rows100) rows200) rows300) rows400) rows500) rows600) rows700) rows800)
end Go.Proofs.YtdielfpgekenkaaGreatDoor.incrNobody
