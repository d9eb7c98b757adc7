/-
  No cell of these rows narrows 'for every input' (looked for: loops, veiled, ifaces, maps, wideKeys, modest, calm, conditions, laid).
  DERIVED. THE GIVEN ROWS OF THIS SEAT. 7 by the template 'for every input the law returns true; each argument reads behind the call as it read before'; 0 by the template 'total and deterministic' (their statements: YtcmjgkjnnmfijaaTotals.lean).
  GIVEN WITH THE SEED: the statements are not yours to turn. If you find one false, say at which input.
  Laid BY PROGRAM, IN A SANDBOX (cutbox-rows.mjs): the forced cells as the released guide's own fill.sh prints them over the translation 345c9b2460fc5d65… (all of the seat's roots in one cut). By AI agents, Wed Nov 11 2026. No macro, syntax, notation, axiom, sorry.
-/
import Derived.Test.YtcmjgkjnnmfijaaChecked
import GoSem.Claim
import GoSem.ClaimJoined
import GoSem.ClaimMapViews
import Derived.JoinedTies
import Derived.KernelRfl
namespace Go.Proofs.Ytcmjgkjnnmfijaa
/- THE CELL 'sum', in the pinned program and in every row, IS THE sha256 OF THE DUMP (.gsa) THAT YtcmjgkjnnmfijaaProg.lean LOADS. Nothing in Lean hashes anything: it is a label: what it is worth is what the hold of that sum in a sandbox is worth. -/
noncomputable def Try.pinned : Pinned := { name := "ytcmjgkjnnmfijaa", sum := "345c9b2460fc5d65d0c66879734227ca6816a7a7c5dd83f7155427e0fb7beafb", checked := Try.checked }
namespace Rows
def none {H : Type} : Left H := { results := [], args := [] }

/-- 'treadlelaw26.PoolShut': WHATEVER THE INPUT: true; the input reads as it did. -/
def poolShutSpec : ChangeSpec := { name := "poolShut", fn := fun _ => fun
  | [d1, d2, d3, d4] => { results := [.lit (.bool true)], args := [d1, d2, d3, d4] }
  | _ => none }
def poolShutRow : OpenClaim := { program := "ytcmjgkjnnmfijaa", sum := "345c9b2460fc5d65d0c66879734227ca6816a7a7c5dd83f7155427e0fb7beafb", func := "treadle/treadlelaw26.PoolShut", spec := "poolShut", apart := false }
def PoolShutSaid : Prop := poolShutRow.holds Try.pinned (OpenSpec.ofChange poolShutSpec)

/-- ITS FALSE NEIGHBOUR: 'it returns false'. Refute it at one input. -/
def poolShutWrong : ChangeSpec := { name := "poolShut", fn := fun _ => fun
  | [d1, d2, d3, d4] => { results := [.lit (.bool false)], args := [d1, d2, d3, d4] }
  | _ => none }
def PoolShutWrongFalsely : Prop := poolShutRow.holds Try.pinned (OpenSpec.ofChange poolShutWrong)

/-- 'treadlelaw26.PoolBounds': WHATEVER THE INPUT: true; the input reads as it did. -/
def poolBoundsSpec : ChangeSpec := { name := "poolBounds", fn := fun _ => fun
  | [d1, d2] => { results := [.lit (.bool true)], args := [d1, d2] }
  | _ => none }
def poolBoundsRow : OpenClaim := { program := "ytcmjgkjnnmfijaa", sum := "345c9b2460fc5d65d0c66879734227ca6816a7a7c5dd83f7155427e0fb7beafb", func := "treadle/treadlelaw26.PoolBounds", spec := "poolBounds", apart := false }
def PoolBoundsSaid : Prop := poolBoundsRow.holds Try.pinned (OpenSpec.ofChange poolBoundsSpec)

/-- ITS FALSE NEIGHBOUR: 'it returns false'. Refute it at one input. -/
def poolBoundsWrong : ChangeSpec := { name := "poolBounds", fn := fun _ => fun
  | [d1, d2] => { results := [.lit (.bool false)], args := [d1, d2] }
  | _ => none }
def PoolBoundsWrongFalsely : Prop := poolBoundsRow.holds Try.pinned (OpenSpec.ofChange poolBoundsWrong)

/-- 'treadlelaw26.PoolIdle': WHATEVER THE INPUT: true; the input reads as it did. -/
def poolIdleSpec : ChangeSpec := { name := "poolIdle", fn := fun _ => fun
  | [d1, d2, d3] => { results := [.lit (.bool true)], args := [d1, d2, d3] }
  | _ => none }
def poolIdleRow : OpenClaim := { program := "ytcmjgkjnnmfijaa", sum := "345c9b2460fc5d65d0c66879734227ca6816a7a7c5dd83f7155427e0fb7beafb", func := "treadle/treadlelaw26.PoolIdle", spec := "poolIdle", apart := false }
def PoolIdleSaid : Prop := poolIdleRow.holds Try.pinned (OpenSpec.ofChange poolIdleSpec)

/-- ITS FALSE NEIGHBOUR: 'it returns false'. Refute it at one input. -/
def poolIdleWrong : ChangeSpec := { name := "poolIdle", fn := fun _ => fun
  | [d1, d2, d3] => { results := [.lit (.bool false)], args := [d1, d2, d3] }
  | _ => none }
def PoolIdleWrongFalsely : Prop := poolIdleRow.holds Try.pinned (OpenSpec.ofChange poolIdleWrong)

/-- 'treadlelaw26.PoolLoads': WHATEVER THE INPUT: true; the input reads as it did. -/
def poolLoadsSpec : ChangeSpec := { name := "poolLoads", fn := fun _ => fun
  | [d1, d2] => { results := [.lit (.bool true)], args := [d1, d2] }
  | _ => none }
def poolLoadsRow : OpenClaim := { program := "ytcmjgkjnnmfijaa", sum := "345c9b2460fc5d65d0c66879734227ca6816a7a7c5dd83f7155427e0fb7beafb", func := "treadle/treadlelaw26.PoolLoads", spec := "poolLoads", apart := false }
def PoolLoadsSaid : Prop := poolLoadsRow.holds Try.pinned (OpenSpec.ofChange poolLoadsSpec)

/-- ITS FALSE NEIGHBOUR: 'it returns false'. Refute it at one input. -/
def poolLoadsWrong : ChangeSpec := { name := "poolLoads", fn := fun _ => fun
  | [d1, d2] => { results := [.lit (.bool false)], args := [d1, d2] }
  | _ => none }
def PoolLoadsWrongFalsely : Prop := poolLoadsRow.holds Try.pinned (OpenSpec.ofChange poolLoadsWrong)

/-- 'treadlelaw26.PoolOwn': WHATEVER THE INPUT: true; the input reads as it did. -/
def poolOwnSpec : ChangeSpec := { name := "poolOwn", fn := fun _ => fun
  | [d1, d2] => { results := [.lit (.bool true)], args := [d1, d2] }
  | _ => none }
def poolOwnRow : OpenClaim := { program := "ytcmjgkjnnmfijaa", sum := "345c9b2460fc5d65d0c66879734227ca6816a7a7c5dd83f7155427e0fb7beafb", func := "treadle/treadlelaw26.PoolOwn", spec := "poolOwn", apart := false }
def PoolOwnSaid : Prop := poolOwnRow.holds Try.pinned (OpenSpec.ofChange poolOwnSpec)

/-- ITS FALSE NEIGHBOUR: 'it returns false'. Refute it at one input. -/
def poolOwnWrong : ChangeSpec := { name := "poolOwn", fn := fun _ => fun
  | [d1, d2] => { results := [.lit (.bool false)], args := [d1, d2] }
  | _ => none }
def PoolOwnWrongFalsely : Prop := poolOwnRow.holds Try.pinned (OpenSpec.ofChange poolOwnWrong)

/-- 'treadlelaw26.PoolPlays': WHATEVER THE INPUT: true; the input reads as it did. -/
def poolPlaysSpec : ChangeSpec := { name := "poolPlays", fn := fun _ => fun
  | [d1, d2] => { results := [.lit (.bool true)], args := [d1, d2] }
  | _ => none }
def poolPlaysRow : OpenClaim := { program := "ytcmjgkjnnmfijaa", sum := "345c9b2460fc5d65d0c66879734227ca6816a7a7c5dd83f7155427e0fb7beafb", func := "treadle/treadlelaw26.PoolPlays", spec := "poolPlays", apart := false }
def PoolPlaysSaid : Prop := poolPlaysRow.holds Try.pinned (OpenSpec.ofChange poolPlaysSpec)

/-- ITS FALSE NEIGHBOUR: 'it returns false'. Refute it at one input. -/
def poolPlaysWrong : ChangeSpec := { name := "poolPlays", fn := fun _ => fun
  | [d1, d2] => { results := [.lit (.bool false)], args := [d1, d2] }
  | _ => none }
def PoolPlaysWrongFalsely : Prop := poolPlaysRow.holds Try.pinned (OpenSpec.ofChange poolPlaysWrong)

/-- 'treadlelaw26.PoolNobody': WHATEVER THE INPUT: true; the input reads as it did. -/
def poolNobodySpec : ChangeSpec := { name := "poolNobody", fn := fun _ => fun
  | [d] => { results := [.lit (.bool true)], args := [d] }
  | _ => none }
def poolNobodyRow : OpenClaim := { program := "ytcmjgkjnnmfijaa", sum := "345c9b2460fc5d65d0c66879734227ca6816a7a7c5dd83f7155427e0fb7beafb", func := "treadle/treadlelaw26.PoolNobody", spec := "poolNobody", apart := false }
def PoolNobodySaid : Prop := poolNobodyRow.holds Try.pinned (OpenSpec.ofChange poolNobodySpec)

/-- ITS FALSE NEIGHBOUR: 'it returns false'. Refute it at one input. -/
def poolNobodyWrong : ChangeSpec := { name := "poolNobody", fn := fun _ => fun
  | [d] => { results := [.lit (.bool false)], args := [d] }
  | _ => none }
def PoolNobodyWrongFalsely : Prop := poolNobodyRow.holds Try.pinned (OpenSpec.ofChange poolNobodyWrong)

/- THE SECOND FORM. 'bulk': how many values and letters a reading holds, each counted each time it is reached (what is shared counts as often as it is met; a slice's spare places count too). A statement '..UptoSaid' is the law's where the arguments, and the package variables that the reading takes, are together of bulk at most 1048576: NARROWER than '..Said'. Prove '..Said' where nothing that the law and all that it calls make is longer than what came in: it says more and counts as full. Else prove '..UptoSaid'. A law counts once. -/
mutual
def uptoBulk {H : Type} : DataW H → Nat
  | .lit (.string bytes) => bytes.length + 1
  | .lit _ => 1
  | .nil => 1
  | .ptr d => uptoBulk d + 1
  | .slice elems spare => uptoBulkAll elems + uptoBulkAll spare + 1
  | .agg parts => uptoBulkAll parts + 1
  | .iface _ d => uptoBulk d + 1
  | .map entries => uptoBulkEntries entries + 1
  | .held _ => 1
def uptoBulkAll {H : Type} : List (DataW H) → Nat
  | [] => 0
  | d :: r => uptoBulk d + uptoBulkAll r
def uptoBulkEntries {H : Type} : List (Lit × DataW H) → Nat
  | [] => 0
  | x :: r => uptoBulkEntry x + uptoBulkEntries r
def uptoBulkEntry {H : Type} : Lit × DataW H → Nat
  | (.string bytes, d) => bytes.length + uptoBulk d + 1
  | (_, d) => uptoBulk d + 1
 end
def uptoSmall : (H : Type) → List (DataW H) → Bool := fun _ ds => decide (uptoBulkAll ds ≤ 1048576)
def OpenSpec.upto (s : _root_.Go.ChangeSpec) : _root_.Go.OpenSpec := { _root_.Go.OpenSpec.ofChange s with cond := some uptoSmall }

/-- 'treadlelaw26.PoolShut', WHERE WHAT IT READS IS OF BULK AT MOST 1048576: true; the input reads as it did. -/
def poolShutUptoRow : OpenClaim := { program := "ytcmjgkjnnmfijaa", sum := "345c9b2460fc5d65d0c66879734227ca6816a7a7c5dd83f7155427e0fb7beafb", func := "treadle/treadlelaw26.PoolShut", spec := "poolShut", apart := false, narrowed := true }
def PoolShutUptoSaid : Prop := poolShutUptoRow.holds Try.pinned (OpenSpec.upto poolShutSpec)

/-- 'treadlelaw26.PoolBounds', WHERE WHAT IT READS IS OF BULK AT MOST 1048576: true; the input reads as it did. -/
def poolBoundsUptoRow : OpenClaim := { program := "ytcmjgkjnnmfijaa", sum := "345c9b2460fc5d65d0c66879734227ca6816a7a7c5dd83f7155427e0fb7beafb", func := "treadle/treadlelaw26.PoolBounds", spec := "poolBounds", apart := false, narrowed := true }
def PoolBoundsUptoSaid : Prop := poolBoundsUptoRow.holds Try.pinned (OpenSpec.upto poolBoundsSpec)

/-- 'treadlelaw26.PoolIdle', WHERE WHAT IT READS IS OF BULK AT MOST 1048576: true; the input reads as it did. -/
def poolIdleUptoRow : OpenClaim := { program := "ytcmjgkjnnmfijaa", sum := "345c9b2460fc5d65d0c66879734227ca6816a7a7c5dd83f7155427e0fb7beafb", func := "treadle/treadlelaw26.PoolIdle", spec := "poolIdle", apart := false, narrowed := true }
def PoolIdleUptoSaid : Prop := poolIdleUptoRow.holds Try.pinned (OpenSpec.upto poolIdleSpec)

/-- 'treadlelaw26.PoolLoads', WHERE WHAT IT READS IS OF BULK AT MOST 1048576: true; the input reads as it did. -/
def poolLoadsUptoRow : OpenClaim := { program := "ytcmjgkjnnmfijaa", sum := "345c9b2460fc5d65d0c66879734227ca6816a7a7c5dd83f7155427e0fb7beafb", func := "treadle/treadlelaw26.PoolLoads", spec := "poolLoads", apart := false, narrowed := true }
def PoolLoadsUptoSaid : Prop := poolLoadsUptoRow.holds Try.pinned (OpenSpec.upto poolLoadsSpec)

/-- 'treadlelaw26.PoolOwn', WHERE WHAT IT READS IS OF BULK AT MOST 1048576: true; the input reads as it did. -/
def poolOwnUptoRow : OpenClaim := { program := "ytcmjgkjnnmfijaa", sum := "345c9b2460fc5d65d0c66879734227ca6816a7a7c5dd83f7155427e0fb7beafb", func := "treadle/treadlelaw26.PoolOwn", spec := "poolOwn", apart := false, narrowed := true }
def PoolOwnUptoSaid : Prop := poolOwnUptoRow.holds Try.pinned (OpenSpec.upto poolOwnSpec)

/-- 'treadlelaw26.PoolPlays', WHERE WHAT IT READS IS OF BULK AT MOST 1048576: true; the input reads as it did. -/
def poolPlaysUptoRow : OpenClaim := { program := "ytcmjgkjnnmfijaa", sum := "345c9b2460fc5d65d0c66879734227ca6816a7a7c5dd83f7155427e0fb7beafb", func := "treadle/treadlelaw26.PoolPlays", spec := "poolPlays", apart := false, narrowed := true }
def PoolPlaysUptoSaid : Prop := poolPlaysUptoRow.holds Try.pinned (OpenSpec.upto poolPlaysSpec)

/-- 'treadlelaw26.PoolNobody', WHERE WHAT IT READS IS OF BULK AT MOST 1048576: true; the input reads as it did. -/
def poolNobodyUptoRow : OpenClaim := { program := "ytcmjgkjnnmfijaa", sum := "345c9b2460fc5d65d0c66879734227ca6816a7a7c5dd83f7155427e0fb7beafb", func := "treadle/treadlelaw26.PoolNobody", spec := "poolNobody", apart := false, narrowed := true }
def PoolNobodyUptoSaid : Prop := poolNobodyUptoRow.holds Try.pinned (OpenSpec.upto poolNobodySpec)

end Rows
end Go.Proofs.Ytcmjgkjnnmfijaa
