/-
  DERIVED. GIVEN WITH THE SEED: THE CARDS: each row of YthigegabdbkhiaaGreatDoorRows.lean that lists a variable, with what it lists TIED to the program's text (the seventh form; the later family's looks); each row that meets fmt, with fmt's text TOLD by the authors' own Lean function (tested against real Go, not proved from fmt's source: count such statements apart). THE CARD IS WHAT COUNTS. Prove the row's statement (the work); the ties are given (YthigegabdbkhiaaGreatDoorTie.lean); close each card by the builder's one call (the guide's Derived/Test/ToyasCard.lean, 'card_holds'). Laid BY PROGRAM, IN A SANDBOX (cutbox-door.mjs). By AI agents, Wed Nov 11 2026. No macro, syntax, notation, axiom, sorry.
-/
import Derived.Test.YthigegabdbkhiaaGreatDoorRows
import GoSem.ClaimSeven
namespace Go.Proofs.YthigegabdbkhiaaGreatDoor
namespace Rows

/-- THE TIED CARD OF 'treadlelaw25.ToolNil'. -/
def toolNilCard : Claim7 := { stood := { row := toolNilRow, standIns := [], harness := (true, "e7f685c91648c3da2b911b7ab98610b728220ff005c44e60e831ed5c1e560e9d"), looks := true }, kinds := [], alts := [], laidByText := true, laidKinds := [.data, .data, .data, .data, .pinned, .data, .sentinel, .sentinel], laidTests := true, laidLooks := .later }
def ToolNilCardSaid : Prop := Claim7.holds Tryz.pinned (.plain (OpenSpec.ofChange toolNilSpec)) toolNilCard

/-- THE SECOND FORM's CARD OF 'treadlelaw25.ToolNil'. -/
def toolNilUptoCard : Claim7 := { stood := { row := toolNilUptoRow, standIns := [], harness := (true, "e7f685c91648c3da2b911b7ab98610b728220ff005c44e60e831ed5c1e560e9d"), looks := true }, kinds := [], alts := [], laidByText := true, laidKinds := [.data, .data, .data, .data, .pinned, .data, .sentinel, .sentinel], laidTests := true, laidLooks := .later }
def ToolNilUptoCardSaid : Prop := Claim7.holds Tryz.pinned (.plain (OpenSpec.upto toolNilSpec)) toolNilUptoCard
end Rows
end Go.Proofs.YthigegabdbkhiaaGreatDoor
