/-
  The contracts of package sha's State, of Write where it refuses, and of the document's Same.
-/
import Derived.Test.YtgecapllodgdeaaGreatDoorShaLoad2
namespace Go.Proofs.YtgecapllodgdeaaGreatDoor
open Go Vm
set_option maxRecDepth 100000
theorem words_eq (xo yo : Operand) (s t : Sha.S8) (w : World) :
    (do eqGuard .eql 174 xo yo (.agg (s.list.map u32v).toArray) (.agg (t.list.map u32v).toArray); binOp .eql 174 (.agg (s.list.map u32v).toArray) (.agg (t.list.map u32v).toArray) : Sem Value).run Tryz.prog w = .ok (.bool (decide (s = t))) w := by
  have e : ∀ s : Sha.S8, s.list.map u32v = (s.list.map (fun x => (x.toNat : Int))).map (Value.int .u32) := fun s => by rw [List.map_map]; rfl
  rw [e, e, run_eq_ints (P := Tryz.prog) (t := 174) (e := 173) (n := 8) rfl rfl (by kernel_rfl) (i := Tryz.prog.types[173]) rfl (by kernel_rfl) (by kernel_rfl) xo yo _ _ rfl rfl w]
  congr 3
  rw [eq_iff_iff]
  constructor
  · intro h
    cases s; cases t
    simp only [Sha.S8.list, List.map_cons, List.map_nil, List.cons.injEq, Int.natCast_inj, UInt32.toNat_inj, and_true] at h
    simp only [Sha.S8.mk.injEq]
    exact h
  · rintro rfl; rfl
end Go.Proofs.YtgecapllodgdeaaGreatDoor
