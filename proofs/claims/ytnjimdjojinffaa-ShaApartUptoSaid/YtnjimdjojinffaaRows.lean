/-
  No cell of these rows narrows 'for every input' (looked for: loops, veiled, ifaces, maps, wideKeys, modest, calm, conditions, laid).
  DERIVED. THE GIVEN ROWS OF THIS SEAT. 9 by the template 'for every input the law returns true; each argument reads behind the call as it read before'; 0 by the template 'total and deterministic' (their statements: YtnjimdjojinffaaTotals.lean).
  GIVEN WITH THE SEED: the statements are not yours to turn. If you find one false, say at which input.
  Laid BY PROGRAM, IN A SANDBOX (cutbox-rows.mjs): the forced cells as the released guide's own fill.sh prints them over the translation 0ad1f1c888002fab… (all of the seat's roots in one cut). By AI agents, Wed Nov 11 2026. No macro, syntax, notation, axiom, sorry.
-/
import Derived.Test.YtnjimdjojinffaaChecked
import GoSem.Claim
import GoSem.ClaimJoined
import GoSem.ClaimMapViews
import Derived.JoinedTies
import Derived.KernelRfl
namespace Go.Proofs.Ytnjimdjojinffaa
/- THE CELL 'sum', in the pinned program and in every row, IS THE sha256 OF THE DUMP (.gsa) THAT YtnjimdjojinffaaProg.lean LOADS. Nothing in Lean hashes anything: it is a label: what it is worth is what the hold of that sum in a sandbox is worth. -/
noncomputable def Try.pinned : Pinned := { name := "ytnjimdjojinffaa", sum := "0ad1f1c888002fab5bf3c17a73a1328db40f31c0b788fc3fa3e804103d3fe1d5", checked := Try.checked }
namespace Rows
def none {H : Type} : Left H := { results := [], args := [] }

/-- 'treadlelaw02.ShaPads': WHATEVER THE INPUT: true; the input reads as it did. -/
def shaPadsSpec : ChangeSpec := { name := "shaPads", fn := fun _ => fun
  | [d] => { results := [.lit (.bool true)], args := [d] }
  | _ => none }
def shaPadsRow : OpenClaim := { program := "ytnjimdjojinffaa", sum := "0ad1f1c888002fab5bf3c17a73a1328db40f31c0b788fc3fa3e804103d3fe1d5", func := "treadle/treadlelaw02.ShaPads", spec := "shaPads", apart := false }
def ShaPadsSaid : Prop := shaPadsRow.holds Try.pinned (OpenSpec.ofChange shaPadsSpec)

/-- ITS FALSE NEIGHBOUR: 'it returns false'. Refute it at one input. -/
def shaPadsWrong : ChangeSpec := { name := "shaPads", fn := fun _ => fun
  | [d] => { results := [.lit (.bool false)], args := [d] }
  | _ => none }
def ShaPadsWrongFalsely : Prop := shaPadsRow.holds Try.pinned (OpenSpec.ofChange shaPadsWrong)

/-- 'treadlelaw02.ShaCuts': WHATEVER THE INPUT: true; the input reads as it did. -/
def shaCutsSpec : ChangeSpec := { name := "shaCuts", fn := fun _ => fun
  | [d1, d2] => { results := [.lit (.bool true)], args := [d1, d2] }
  | _ => none }
def shaCutsRow : OpenClaim := { program := "ytnjimdjojinffaa", sum := "0ad1f1c888002fab5bf3c17a73a1328db40f31c0b788fc3fa3e804103d3fe1d5", func := "treadle/treadlelaw02.ShaCuts", spec := "shaCuts", apart := false }
def ShaCutsSaid : Prop := shaCutsRow.holds Try.pinned (OpenSpec.ofChange shaCutsSpec)

/-- ITS FALSE NEIGHBOUR: 'it returns false'. Refute it at one input. -/
def shaCutsWrong : ChangeSpec := { name := "shaCuts", fn := fun _ => fun
  | [d1, d2] => { results := [.lit (.bool false)], args := [d1, d2] }
  | _ => none }
def ShaCutsWrongFalsely : Prop := shaCutsRow.holds Try.pinned (OpenSpec.ofChange shaCutsWrong)

/-- 'treadlelaw02.ShaClones': WHATEVER THE INPUT: true; the input reads as it did. -/
def shaClonesSpec : ChangeSpec := { name := "shaClones", fn := fun _ => fun
  | [d1, d2, d3] => { results := [.lit (.bool true)], args := [d1, d2, d3] }
  | _ => none }
def shaClonesRow : OpenClaim := { program := "ytnjimdjojinffaa", sum := "0ad1f1c888002fab5bf3c17a73a1328db40f31c0b788fc3fa3e804103d3fe1d5", func := "treadle/treadlelaw02.ShaClones", spec := "shaClones", apart := false }
def ShaClonesSaid : Prop := shaClonesRow.holds Try.pinned (OpenSpec.ofChange shaClonesSpec)

/-- ITS FALSE NEIGHBOUR: 'it returns false'. Refute it at one input. -/
def shaClonesWrong : ChangeSpec := { name := "shaClones", fn := fun _ => fun
  | [d1, d2, d3] => { results := [.lit (.bool false)], args := [d1, d2, d3] }
  | _ => none }
def ShaClonesWrongFalsely : Prop := shaClonesRow.holds Try.pinned (OpenSpec.ofChange shaClonesWrong)

/-- 'treadlelaw02.ShaExtends': WHATEVER THE INPUT: true; the input reads as it did. -/
def shaExtendsSpec : ChangeSpec := { name := "shaExtends", fn := fun _ => fun
  | [d1, d2] => { results := [.lit (.bool true)], args := [d1, d2] }
  | _ => none }
def shaExtendsRow : OpenClaim := { program := "ytnjimdjojinffaa", sum := "0ad1f1c888002fab5bf3c17a73a1328db40f31c0b788fc3fa3e804103d3fe1d5", func := "treadle/treadlelaw02.ShaExtends", spec := "shaExtends", apart := false }
def ShaExtendsSaid : Prop := shaExtendsRow.holds Try.pinned (OpenSpec.ofChange shaExtendsSpec)

/-- ITS FALSE NEIGHBOUR: 'it returns false'. Refute it at one input. -/
def shaExtendsWrong : ChangeSpec := { name := "shaExtends", fn := fun _ => fun
  | [d1, d2] => { results := [.lit (.bool false)], args := [d1, d2] }
  | _ => none }
def ShaExtendsWrongFalsely : Prop := shaExtendsRow.holds Try.pinned (OpenSpec.ofChange shaExtendsWrong)

/-- 'treadlelaw02.ShaOrder': WHATEVER THE INPUT: true; the input reads as it did. -/
def shaOrderSpec : ChangeSpec := { name := "shaOrder", fn := fun _ => fun
  | [d1, d2, d3] => { results := [.lit (.bool true)], args := [d1, d2, d3] }
  | _ => none }
def shaOrderRow : OpenClaim := { program := "ytnjimdjojinffaa", sum := "0ad1f1c888002fab5bf3c17a73a1328db40f31c0b788fc3fa3e804103d3fe1d5", func := "treadle/treadlelaw02.ShaOrder", spec := "shaOrder", inPlace := ["internal/bytealg.Compare"], apart := false }
def ShaOrderSaid : Prop := shaOrderRow.holds Try.pinned (OpenSpec.ofChange shaOrderSpec)

/-- ITS FALSE NEIGHBOUR: 'it returns false'. Refute it at one input. -/
def shaOrderWrong : ChangeSpec := { name := "shaOrder", fn := fun _ => fun
  | [d1, d2, d3] => { results := [.lit (.bool false)], args := [d1, d2, d3] }
  | _ => none }
def ShaOrderWrongFalsely : Prop := shaOrderRow.holds Try.pinned (OpenSpec.ofChange shaOrderWrong)

/-- 'treadlelaw02.ShaFull': WHATEVER THE INPUT: true; the input reads as it did. -/
def shaFullSpec : ChangeSpec := { name := "shaFull", fn := fun _ => fun
  | [d1, d2] => { results := [.lit (.bool true)], args := [d1, d2] }
  | _ => none }
def shaFullRow : OpenClaim := { program := "ytnjimdjojinffaa", sum := "0ad1f1c888002fab5bf3c17a73a1328db40f31c0b788fc3fa3e804103d3fe1d5", func := "treadle/treadlelaw02.ShaFull", spec := "shaFull", apart := false }
def ShaFullSaid : Prop := shaFullRow.holds Try.pinned (OpenSpec.ofChange shaFullSpec)

/-- ITS FALSE NEIGHBOUR: 'it returns false'. Refute it at one input. -/
def shaFullWrong : ChangeSpec := { name := "shaFull", fn := fun _ => fun
  | [d1, d2] => { results := [.lit (.bool false)], args := [d1, d2] }
  | _ => none }
def ShaFullWrongFalsely : Prop := shaFullRow.holds Try.pinned (OpenSpec.ofChange shaFullWrong)

/-- 'treadlelaw02.ShaApart': WHATEVER THE INPUT: true; the input reads as it did. -/
def shaApartSpec : ChangeSpec := { name := "shaApart", fn := fun _ => fun
  | [d1, d2] => { results := [.lit (.bool true)], args := [d1, d2] }
  | _ => none }
def shaApartRow : OpenClaim := { program := "ytnjimdjojinffaa", sum := "0ad1f1c888002fab5bf3c17a73a1328db40f31c0b788fc3fa3e804103d3fe1d5", func := "treadle/treadlelaw02.ShaApart", spec := "shaApart", apart := false }
def ShaApartSaid : Prop := shaApartRow.holds Try.pinned (OpenSpec.ofChange shaApartSpec)

/-- ITS FALSE NEIGHBOUR: 'it returns false'. Refute it at one input. -/
def shaApartWrong : ChangeSpec := { name := "shaApart", fn := fun _ => fun
  | [d1, d2] => { results := [.lit (.bool false)], args := [d1, d2] }
  | _ => none }
def ShaApartWrongFalsely : Prop := shaApartRow.holds Try.pinned (OpenSpec.ofChange shaApartWrong)

/-- 'treadlelaw02.ShaBack': WHATEVER THE INPUT: true; the input reads as it did. -/
def shaBackSpec : ChangeSpec := { name := "shaBack", fn := fun _ => fun
  | [d1, d2] => { results := [.lit (.bool true)], args := [d1, d2] }
  | _ => none }
def shaBackRow : OpenClaim := { program := "ytnjimdjojinffaa", sum := "0ad1f1c888002fab5bf3c17a73a1328db40f31c0b788fc3fa3e804103d3fe1d5", func := "treadle/treadlelaw02.ShaBack", spec := "shaBack", apart := false }
def ShaBackSaid : Prop := shaBackRow.holds Try.pinned (OpenSpec.ofChange shaBackSpec)

/-- ITS FALSE NEIGHBOUR: 'it returns false'. Refute it at one input. -/
def shaBackWrong : ChangeSpec := { name := "shaBack", fn := fun _ => fun
  | [d1, d2] => { results := [.lit (.bool false)], args := [d1, d2] }
  | _ => none }
def ShaBackWrongFalsely : Prop := shaBackRow.holds Try.pinned (OpenSpec.ofChange shaBackWrong)

/-- 'treadlelaw02.ShaTexts': WHATEVER THE INPUT: true; the input reads as it did. -/
def shaTextsSpec : ChangeSpec := { name := "shaTexts", fn := fun _ => fun
  | [d1, d2, d3] => { results := [.lit (.bool true)], args := [d1, d2, d3] }
  | _ => none }
def shaTextsRow : OpenClaim := { program := "ytnjimdjojinffaa", sum := "0ad1f1c888002fab5bf3c17a73a1328db40f31c0b788fc3fa3e804103d3fe1d5", func := "treadle/treadlelaw02.ShaTexts", spec := "shaTexts", inPlace := ["internal/bytealg.Compare"], apart := false }
def ShaTextsSaid : Prop := shaTextsRow.holds Try.pinned (OpenSpec.ofChange shaTextsSpec)

/-- ITS FALSE NEIGHBOUR: 'it returns false'. Refute it at one input. -/
def shaTextsWrong : ChangeSpec := { name := "shaTexts", fn := fun _ => fun
  | [d1, d2, d3] => { results := [.lit (.bool false)], args := [d1, d2, d3] }
  | _ => none }
def ShaTextsWrongFalsely : Prop := shaTextsRow.holds Try.pinned (OpenSpec.ofChange shaTextsWrong)

/- THE SECOND FORM. 'bulk': how many values and letters a reading holds, each counted each time it is reached (what is shared counts as often as it is met; a slice's spare places count too). A statement '..UptoSaid' is the law's where the arguments, and the package variables that the reading takes, are together of bulk at most 1048576: NARROWER than '..Said'. Prove '..Said' where nothing that the law and all that it calls make is longer than what came in: it says more and counts as full. Else prove '..UptoSaid'. A law counts once. -/
mutual
def uptoBulk {H : Type} : DataW H → Nat
  | .lit (.string bytes) => bytes.length + 1
  | .lit _ => 1
  | .nil => 1
  | .ptr d => uptoBulk d + 1
  | .slice elems spare => uptoBulkAll elems + uptoBulkAll spare + 1
  | .agg parts => uptoBulkAll parts + 1
  | .iface _ d => uptoBulk d + 1
  | .map entries => uptoBulkEntries entries + 1
  | .held _ => 1
def uptoBulkAll {H : Type} : List (DataW H) → Nat
  | [] => 0
  | d :: r => uptoBulk d + uptoBulkAll r
def uptoBulkEntries {H : Type} : List (Lit × DataW H) → Nat
  | [] => 0
  | x :: r => uptoBulkEntry x + uptoBulkEntries r
def uptoBulkEntry {H : Type} : Lit × DataW H → Nat
  | (.string bytes, d) => bytes.length + uptoBulk d + 1
  | (_, d) => uptoBulk d + 1
 end
def uptoSmall : (H : Type) → List (DataW H) → Bool := fun _ ds => decide (uptoBulkAll ds ≤ 1048576)
def OpenSpec.upto (s : _root_.Go.ChangeSpec) : _root_.Go.OpenSpec := { _root_.Go.OpenSpec.ofChange s with cond := some uptoSmall }

/-- 'treadlelaw02.ShaPads', WHERE WHAT IT READS IS OF BULK AT MOST 1048576: true; the input reads as it did. -/
def shaPadsUptoRow : OpenClaim := { program := "ytnjimdjojinffaa", sum := "0ad1f1c888002fab5bf3c17a73a1328db40f31c0b788fc3fa3e804103d3fe1d5", func := "treadle/treadlelaw02.ShaPads", spec := "shaPads", apart := false, narrowed := true }
def ShaPadsUptoSaid : Prop := shaPadsUptoRow.holds Try.pinned (OpenSpec.upto shaPadsSpec)

/-- 'treadlelaw02.ShaCuts', WHERE WHAT IT READS IS OF BULK AT MOST 1048576: true; the input reads as it did. -/
def shaCutsUptoRow : OpenClaim := { program := "ytnjimdjojinffaa", sum := "0ad1f1c888002fab5bf3c17a73a1328db40f31c0b788fc3fa3e804103d3fe1d5", func := "treadle/treadlelaw02.ShaCuts", spec := "shaCuts", apart := false, narrowed := true }
def ShaCutsUptoSaid : Prop := shaCutsUptoRow.holds Try.pinned (OpenSpec.upto shaCutsSpec)

/-- 'treadlelaw02.ShaClones', WHERE WHAT IT READS IS OF BULK AT MOST 1048576: true; the input reads as it did. -/
def shaClonesUptoRow : OpenClaim := { program := "ytnjimdjojinffaa", sum := "0ad1f1c888002fab5bf3c17a73a1328db40f31c0b788fc3fa3e804103d3fe1d5", func := "treadle/treadlelaw02.ShaClones", spec := "shaClones", apart := false, narrowed := true }
def ShaClonesUptoSaid : Prop := shaClonesUptoRow.holds Try.pinned (OpenSpec.upto shaClonesSpec)

/-- 'treadlelaw02.ShaExtends', WHERE WHAT IT READS IS OF BULK AT MOST 1048576: true; the input reads as it did. -/
def shaExtendsUptoRow : OpenClaim := { program := "ytnjimdjojinffaa", sum := "0ad1f1c888002fab5bf3c17a73a1328db40f31c0b788fc3fa3e804103d3fe1d5", func := "treadle/treadlelaw02.ShaExtends", spec := "shaExtends", apart := false, narrowed := true }
def ShaExtendsUptoSaid : Prop := shaExtendsUptoRow.holds Try.pinned (OpenSpec.upto shaExtendsSpec)

/-- 'treadlelaw02.ShaOrder', WHERE WHAT IT READS IS OF BULK AT MOST 1048576: true; the input reads as it did. -/
def shaOrderUptoRow : OpenClaim := { program := "ytnjimdjojinffaa", sum := "0ad1f1c888002fab5bf3c17a73a1328db40f31c0b788fc3fa3e804103d3fe1d5", func := "treadle/treadlelaw02.ShaOrder", spec := "shaOrder", inPlace := ["internal/bytealg.Compare"], apart := false, narrowed := true }
def ShaOrderUptoSaid : Prop := shaOrderUptoRow.holds Try.pinned (OpenSpec.upto shaOrderSpec)

/-- 'treadlelaw02.ShaFull', WHERE WHAT IT READS IS OF BULK AT MOST 1048576: true; the input reads as it did. -/
def shaFullUptoRow : OpenClaim := { program := "ytnjimdjojinffaa", sum := "0ad1f1c888002fab5bf3c17a73a1328db40f31c0b788fc3fa3e804103d3fe1d5", func := "treadle/treadlelaw02.ShaFull", spec := "shaFull", apart := false, narrowed := true }
def ShaFullUptoSaid : Prop := shaFullUptoRow.holds Try.pinned (OpenSpec.upto shaFullSpec)

/-- 'treadlelaw02.ShaApart', WHERE WHAT IT READS IS OF BULK AT MOST 1048576: true; the input reads as it did. -/
def shaApartUptoRow : OpenClaim := { program := "ytnjimdjojinffaa", sum := "0ad1f1c888002fab5bf3c17a73a1328db40f31c0b788fc3fa3e804103d3fe1d5", func := "treadle/treadlelaw02.ShaApart", spec := "shaApart", apart := false, narrowed := true }
def ShaApartUptoSaid : Prop := shaApartUptoRow.holds Try.pinned (OpenSpec.upto shaApartSpec)

/-- 'treadlelaw02.ShaBack', WHERE WHAT IT READS IS OF BULK AT MOST 1048576: true; the input reads as it did. -/
def shaBackUptoRow : OpenClaim := { program := "ytnjimdjojinffaa", sum := "0ad1f1c888002fab5bf3c17a73a1328db40f31c0b788fc3fa3e804103d3fe1d5", func := "treadle/treadlelaw02.ShaBack", spec := "shaBack", apart := false, narrowed := true }
def ShaBackUptoSaid : Prop := shaBackUptoRow.holds Try.pinned (OpenSpec.upto shaBackSpec)

/-- 'treadlelaw02.ShaTexts', WHERE WHAT IT READS IS OF BULK AT MOST 1048576: true; the input reads as it did. -/
def shaTextsUptoRow : OpenClaim := { program := "ytnjimdjojinffaa", sum := "0ad1f1c888002fab5bf3c17a73a1328db40f31c0b788fc3fa3e804103d3fe1d5", func := "treadle/treadlelaw02.ShaTexts", spec := "shaTexts", inPlace := ["internal/bytealg.Compare"], apart := false, narrowed := true }
def ShaTextsUptoSaid : Prop := shaTextsUptoRow.holds Try.pinned (OpenSpec.upto shaTextsSpec)

end Rows
end Go.Proofs.Ytnjimdjojinffaa
