/-
  The program's first memory, its block of types not looked at.
  A world for the witness of IncrNobody: the sentinels by hand, the tables laid upon it.
  A closed fact of the witness of IncrNobody.
  A closed fact of the witness of IncrNobody.
  A closed fact of the witness of IncrNobody.
  A closed fact of the witness of IncrNobody.
  A closed fact of the witness of IncrNobody.
  A closed fact of the witness of IncrNobody.
  The witness of IncrNobody: a world that meets the row's list.
-/
import Derived.Test.YtdielfpgekenkaaGreatDoorCards
import Derived.Deep.DeepHandedRow
import Derived.Lay
import Derived.Lib.LaidIn
namespace Go.Proofs.YtdielfpgekenkaaGreatDoor.incrNobody
open Go
set_option maxRecDepth 100000
set_option linter.unusedVariables false
set_option linter.unusedSimpArgs false
def codeReadies (f : Func) : List Nat := (f.body.map readies).getD []
theorem no_ready : (Tryz.prog.funcs.toList.all fun f => (codeReadies f).isEmpty) = true := by kernel_rfl
theorem waits_none {P : Program} (h : (P.funcs.toList.all fun f => (codeReadies f).isEmpty) = true) : waiting P = Array.replicate P.globals.size false := by
  unfold waiting
  have : (P.funcs.toList.flatMap fun f => (f.body.map readies).getD []) = [] := by
    rw [List.flatMap_eq_nil_iff]
    intro f hf
    have := (List.all_eq_true.1 h) f hf
    simpa [codeReadies] using this
  rw [this]
  rfl
/-- the block of types -/
noncomputable def T0 : Obj := .cells ((Array.range Tryz.prog.types.size).map fun t => .int .u64 (Int.ofNat t)) 0
def zeroOf (P : Program) (g : Global) : Array Value := (linked P g).getD ((((P.types[g.type]?).bind (·.zero)).map (·.cells)).getD #[])
noncomputable def G0 : List Obj := Tryz.prog.globals.toList.map fun g => .cells (zeroOf Tryz.prog g) g.type
def rest0 (T : Obj) : List Obj := [T, .map #[] 0, .finalizers #[] none, .cells #[.bool false] 0, .finalizers #[] none]
theorem no_cpu : (Tryz.prog.globals.toList.all fun g => !(g.name == "internal/cpu.X86")) = true := by kernel_rfl
theorem heap0 (tape : Nat → Question → Nat) (os : Os) : (begin Tryz.prog tape os).world.heap = (G0 ++ rest0 T0).toArray := by
  unfold begin
  simp only
  rw [waits_none no_ready]
  apply Array.ext'
  simp only [Array.toList_push, Array.toList_mapIdx, List.append_assoc, List.cons_append, List.nil_append, rest0, T0, G0, List.toList_toArray]
  congr 1
/-- the world of the witness, whatever the block of types is -/
noncomputable def wT (os : Os) (T : Obj) : World := { heap := (G0 ++ rest0 T).toArray, tape := fun _ _ => 0, drawn := 0, os := os, output := #[] }
theorem hold_eq (os : Os) : World.holding Tryz.prog os ⟨#[], #[], []⟩ = wT os T0 := by
  have hc : Tryz.prog.globals.any (·.name == "internal/cpu.X86") = false := by
    rw [← Array.any_toList, List.any_eq_false]
    intro g hg
    have := (List.all_eq_true.1 no_cpu) g hg
    simpa using this
  have hp : (G0 ++ rest0 T0).map (fun | .pending c t => .cells c t | o => o) = G0 ++ rest0 T0 := by
    have hg : G0.map (fun | .pending c t => .cells c t | o => o) = G0 := by
      unfold G0
      rw [List.map_map]
      rfl
    rw [List.map_append, hg]
    rfl
  unfold World.holding World.settled wT
  have hh := heap0 (fun _ _ => 0) os
  simp only [hh, List.toList_toArray, hp, Array.append_empty]
  unfold begin
  simp only [hc]
  rfl
end Go.Proofs.YtdielfpgekenkaaGreatDoor.incrNobody
namespace Go.Proofs.YtdielfpgekenkaaGreatDoor.incrNobody
open Go
set_option maxRecDepth 100000
noncomputable def G1 : List Obj := ((G0.set 4 (.cells #[.iface 841 (.pointer (some ⟨14, 0, none⟩))] 644)).set 5 (.cells #[.iface 841 (.pointer (some ⟨15, 0, none⟩))] 644))
def sents : List Obj := [.cells #[.string ⟨([105, 110, 118, 97, 108, 105, 100, 32, 115, 121, 110, 116, 97, 120] : List UInt8).toArray⟩] 843, .cells #[.string ⟨([118, 97, 108, 117, 101, 32, 111, 117, 116, 32, 111, 102, 32, 114, 97, 110, 103, 101] : List UInt8).toArray⟩] 843]
noncomputable def wS (os : Os) (T : Obj) : World := { heap := (G1 ++ rest0 T ++ sents).toArray, tape := fun _ _ => 0, drawn := 0, os := os, output := #[] }
def great : List String := ["unicode/utf8.first", "unicode/utf8.acceptRanges", "internal/strconv.uint64pow10", "math/bits.deBruijn32tab", "math/bits.deBruijn64tab", "treadle/treadleref02.constants"]
noncomputable def tables : List (String × DataW Unit) := Rows.incrNobodyUptoRow.laid.filter fun x => great.contains x.1
noncomputable def others : List (String × DataW Unit) := Rows.incrNobodyUptoRow.laid.filter fun x => !great.contains x.1
noncomputable def wL (os : Os) (T : Obj) : World := (wS os T).layVars Tryz.prog tables
end Go.Proofs.YtdielfpgekenkaaGreatDoor.incrNobody
namespace Go.Proofs.YtdielfpgekenkaaGreatDoor.incrNobody
open Go
set_option maxRecDepth 100000
theorem wFits (os : Os) (T : Obj) : (wS os T).layFits Tryz.prog tables [4, 5, 14, 15] = true := by kernel_rfl
end Go.Proofs.YtdielfpgekenkaaGreatDoor.incrNobody
namespace Go.Proofs.YtdielfpgekenkaaGreatDoor.incrNobody
open Go
set_option maxRecDepth 100000
theorem wIfaces (os : Os) (T : Obj) : (wS os T).layIfaces Tryz.prog tables ((wL os T).forCall (fun _ _ => 0) ⟨#[], #[Value.agg #[Value.int .i64 0, Value.int .i64 0, Value.int .i64 0, Value.slice none 0 0, Value.slice none 0 0], Value.int .u64 0], []⟩).memory = true := by kernel_rfl
end Go.Proofs.YtdielfpgekenkaaGreatDoor.incrNobody
namespace Go.Proofs.YtdielfpgekenkaaGreatDoor.incrNobody
open Go
set_option maxRecDepth 100000
theorem wVars (os : Os) (T : Obj) : ((List.range Tryz.prog.globals.size).all fun g =>
    match ((G0 ++ rest0 T).toArray[g]?).bind Obj.row? with
    | none => true
    | some (zero, t) =>
      match ((wL os T).forCall (fun _ _ => 0) ⟨#[], #[Value.agg #[Value.int .i64 0, Value.int .i64 0, Value.int .i64 0, Value.slice none 0 0, Value.slice none 0 0], Value.int .u64 0], []⟩).heap[g]? with
      | some (.cells cs t' frozen) => decide (t' = t) && decide (frozen = (0, 0)) && cs.size == zero.size && (!Tryz.prog.buildable t || Row.okB Tryz.prog t cs)
      | _ => false) = true := by kernel_rfl
end Go.Proofs.YtdielfpgekenkaaGreatDoor.incrNobody
namespace Go.Proofs.YtdielfpgekenkaaGreatDoor.incrNobody
open Go
set_option maxRecDepth 100000
theorem wRest (os : Os) (T : Obj) : (((wL os T).forCall (fun _ _ => 0) ⟨#[], #[Value.agg #[Value.int .i64 0, Value.int .i64 0, Value.int .i64 0, Value.slice none 0 0, Value.slice none 0 0], Value.int .u64 0], []⟩).heap.toList.drop Tryz.prog.globals.size).take ((G0 ++ rest0 T).toArray.size - Tryz.prog.globals.size) = (G0 ++ rest0 T).toArray.toList.drop Tryz.prog.globals.size := by kernel_rfl
end Go.Proofs.YtdielfpgekenkaaGreatDoor.incrNobody
namespace Go.Proofs.YtdielfpgekenkaaGreatDoor.incrNobody
open Go
set_option maxRecDepth 100000
theorem wOk (os : Os) (T : Obj) : Input.okWideB Tryz.checked.prog ((wL os T).forCall (fun _ _ => 0) ⟨#[], #[Value.agg #[Value.int .i64 0, Value.int .i64 0, Value.int .i64 0, Value.slice none 0 0, Value.slice none 0 0], Value.int .u64 0], []⟩) 3 ⟨#[], #[Value.agg #[Value.int .i64 0, Value.int .i64 0, Value.int .i64 0, Value.slice none 0 0, Value.slice none 0 0], Value.int .u64 0], []⟩ = true := by kernel_rfl
end Go.Proofs.YtdielfpgekenkaaGreatDoor.incrNobody
namespace Go.Proofs.YtdielfpgekenkaaGreatDoor.incrNobody
open Go
set_option maxRecDepth 100000
theorem run1 (os : Os) (T : Obj) : (DataW.laidRun Tryz.prog ((wL os T).forCall (fun _ _ => 0) ⟨#[], #[Value.agg #[Value.int .i64 0, Value.int .i64 0, Value.int .i64 0, Value.slice none 0 0, Value.slice none 0 0], Value.int .u64 0], []⟩).memory 8 (others.map (·.1))).map (·.1) = some others := by kernel_rfl
theorem run2 (os : Os) (T : Obj) : (DataW.laidRun Tryz.prog ((wL os T).forCall (fun _ _ => 0) ⟨#[], #[Value.agg #[Value.int .i64 0, Value.int .i64 0, Value.int .i64 0, Value.slice none 0 0, Value.slice none 0 0], Value.int .u64 0], []⟩).memory 8 (others.map (·.1))).map (fun x => nodupB (x.2.map MemPlace.codeOf)) = some true := by kernel_rfl
theorem run3 (os : Os) (T : Obj) : (DataW.laidRun Tryz.prog ((wL os T).forCall (fun _ _ => 0) ⟨#[], #[Value.agg #[Value.int .i64 0, Value.int .i64 0, Value.int .i64 0, Value.slice none 0 0, Value.slice none 0 0], Value.int .u64 0], []⟩).memory 8 (others.map (·.1))).map (fun x => laidRowsB Tryz.prog ((wL os T).forCall (fun _ _ => 0) ⟨#[], #[Value.agg #[Value.int .i64 0, Value.int .i64 0, Value.int .i64 0, Value.slice none 0 0, Value.slice none 0 0], Value.int .u64 0], []⟩).memory x.2) = some true := by kernel_rfl
theorem run4 (os : Os) (T : Obj) : (DataW.laidRun Tryz.prog ((wL os T).forCall (fun _ _ => 0) ⟨#[], #[Value.agg #[Value.int .i64 0, Value.int .i64 0, Value.int .i64 0, Value.slice none 0 0, Value.slice none 0 0], Value.int .u64 0], []⟩).memory 8 (others.map (·.1))).map (fun x => x.2.all fun p => [4, 5, 14, 15].contains p.block) = some true := by kernel_rfl
end Go.Proofs.YtdielfpgekenkaaGreatDoor.incrNobody
namespace Go.Proofs.YtdielfpgekenkaaGreatDoor.incrNobody
open Go
set_option maxRecDepth 100000
noncomputable def laidWorld (os : Os) : World := wL os T0
theorem laid_os (os : Os) : (laidWorld os).os = os := (World.layVars_os _ _ _).trans rfl
theorem laid_met (os : Os) : laidMet Tryz.prog Rows.incrNobodyUptoRow.laid ((laidWorld os).forCall (fun _ _ => 0) ⟨#[], #[Value.agg #[Value.int .i64 0, Value.int .i64 0, Value.int .i64 0, Value.slice none 0 0, Value.slice none 0 0], Value.int .u64 0], []⟩).memory :=
  laidMet_layVars (w0 := wS os T0) great [4, 5, 14, 15] (by show _ = (wL os T0).heap; simp [World.memory, World.forCall, Input.heap, laidWorld]) (wFits os T0) (wIfaces os T0) (LaidIn.of_run [4, 5, 14, 15] 8 (run1 os T0) (run2 os T0) (run3 os T0) (run4 os T0))
theorem laid_vars (os : Os) : ((laidWorld os).forCall (fun _ _ => 0) ⟨#[], #[Value.agg #[Value.int .i64 0, Value.int .i64 0, Value.int .i64 0, Value.slice none 0 0, Value.slice none 0 0], Value.int .u64 0], []⟩).variablesB Tryz.prog = true := by
  unfold World.variablesB
  simp only [heap0]
  exact wVars os T0
theorem laid_rest (os : Os) : (((laidWorld os).forCall (fun _ _ => 0) ⟨#[], #[Value.agg #[Value.int .i64 0, Value.int .i64 0, Value.int .i64 0, Value.slice none 0 0, Value.slice none 0 0], Value.int .u64 0], []⟩).heap.toList.drop Tryz.prog.globals.size).take ((begin Tryz.prog (fun _ _ => 0) default).world.heap.size - Tryz.prog.globals.size) =
    (begin Tryz.prog (fun _ _ => 0) default).world.heap.toList.drop Tryz.prog.globals.size := by
  rw [heap0]
  exact wRest os T0
end Go.Proofs.YtdielfpgekenkaaGreatDoor.incrNobody
