/-
  DERIVED. GIVEN WITH THE SEED: THE CARDS: each row of YtgecapllodgdeaaGreatDoorRows.lean that lists a variable, with what it lists TIED to the program's text (the seventh form; the later family's looks); each row that meets fmt, with fmt's text TOLD by the authors' own Lean function (tested against real Go, not proved from fmt's source: count such statements apart). THE CARD IS WHAT COUNTS. Prove the row's statement (the work); the ties are given (YtgecapllodgdeaaGreatDoorTie.lean); close each card by the builder's one call (the guide's Derived/Test/ToyasCard.lean, 'card_holds'). Laid BY PROGRAM, IN A SANDBOX (cutbox-door.mjs). By AI agents, Wed Nov 11 2026. No macro, syntax, notation, axiom, sorry.
-/
import Derived.Test.YtgecapllodgdeaaGreatDoorRows
import GoSem.ClaimSeven
namespace Go.Proofs.YtgecapllodgdeaaGreatDoor
namespace Rows

/-- THE TIED CARD OF 'treadlelaw25.ToolFlags'. -/
def toolFlagsCard : Claim7 := { stood := { row := toolFlagsRow, standIns := [], harness := (true, "efa058b76965f66478d6e26ecb92aab94b2b0d201ab83d5429d795990ef52af4"), looks := true }, kinds := [], alts := [], laidByText := true, laidKinds := [.data, .data, .data, .data, .sentinel, .sentinel], laidTests := true, laidLooks := .later }
def ToolFlagsCardSaid : Prop := Claim7.holds Tryz.pinned (.plain (OpenSpec.ofChange toolFlagsSpec)) toolFlagsCard

/-- THE SECOND FORM's CARD OF 'treadlelaw25.ToolFlags'. -/
def toolFlagsUptoCard : Claim7 := { stood := { row := toolFlagsUptoRow, standIns := [], harness := (true, "efa058b76965f66478d6e26ecb92aab94b2b0d201ab83d5429d795990ef52af4"), looks := true }, kinds := [], alts := [], laidByText := true, laidKinds := [.data, .data, .data, .data, .sentinel, .sentinel], laidTests := true, laidLooks := .later }
def ToolFlagsUptoCardSaid : Prop := Claim7.holds Tryz.pinned (.plain (OpenSpec.upto toolFlagsSpec)) toolFlagsUptoCard
end Rows
end Go.Proofs.YtgecapllodgdeaaGreatDoor
