/-
  DERIVED. GIVEN WITH THE SEED: THE CARDS: each row of YtdielfpgekenkaaGreatDoorRows.lean that lists a variable, with what it lists TIED to the program's text (the seventh form; the later family's looks); each row that meets fmt, with fmt's text TOLD by the authors' own Lean function (tested against real Go, not proved from fmt's source: count such statements apart). THE CARD IS WHAT COUNTS. Prove the row's statement (the work); the ties are given (YtdielfpgekenkaaGreatDoorTie.lean); close each card by the builder's one call (the guide's Derived/Test/ToyasCard.lean, 'card_holds'). Laid BY PROGRAM, IN A SANDBOX (cutbox-door.mjs). By AI agents, Wed Nov 11 2026. No macro, syntax, notation, axiom, sorry.
-/
import Derived.Test.YtdielfpgekenkaaGreatDoorRows
import GoSem.ClaimSeven
namespace Go.Proofs.YtdielfpgekenkaaGreatDoor
namespace Rows

/-- THE TIED CARD OF 'treadlelaw24.IncrNobody'. -/
def incrNobodyCard : Claim7 := { stood := { row := incrNobodyRow, standIns := [], harness := (true, "a6c916da312d5aa05fe55b65e8f88f2d769300f067ffc643c735e2a48fb8eee5"), looks := true }, kinds := [], alts := [], laidByText := true, laidKinds := [.pinned, .data, .sentinel, .sentinel, .data, .data, .data, .data], laidTests := true, laidLooks := .later }
def IncrNobodyCardSaid : Prop := Claim7.holds Tryz.pinned (.plain (OpenSpec.ofChange incrNobodySpec)) incrNobodyCard

/-- THE SECOND FORM's CARD OF 'treadlelaw24.IncrNobody'. -/
def incrNobodyUptoCard : Claim7 := { stood := { row := incrNobodyUptoRow, standIns := [], harness := (true, "a6c916da312d5aa05fe55b65e8f88f2d769300f067ffc643c735e2a48fb8eee5"), looks := true }, kinds := [], alts := [], laidByText := true, laidKinds := [.pinned, .data, .sentinel, .sentinel, .data, .data, .data, .data], laidTests := true, laidLooks := .later }
def IncrNobodyUptoCardSaid : Prop := Claim7.holds Tryz.pinned (.plain (OpenSpec.upto incrNobodySpec)) incrNobodyUptoCard
end Rows
end Go.Proofs.YtdielfpgekenkaaGreatDoor
