/-
  DERIVED. GIVEN WITH THE SEED: THE CARDS: each row of YtkdmpdbbcgdfkaaGreatDoorRows.lean that lists a variable, with what it lists TIED to the program's text (the seventh form; the later family's looks); each row that meets fmt, with fmt's text TOLD by the authors' own Lean function (tested against real Go, not proved from fmt's source: count such statements apart). THE CARD IS WHAT COUNTS. Prove the row's statement (the work); the ties are given (YtkdmpdbbcgdfkaaGreatDoorTie.lean); close each card by the builder's one call (the guide's Derived/Test/ToyasCard.lean, 'card_holds'). Laid BY PROGRAM, IN A SANDBOX (cutbox-door.mjs). By AI agents, Wed Nov 11 2026. No macro, syntax, notation, axiom, sorry.
-/
import Derived.Test.YtkdmpdbbcgdfkaaGreatDoorRows
import GoSem.ClaimSeven
namespace Go.Proofs.YtkdmpdbbcgdfkaaGreatDoor
namespace Rows

/-- THE TIED CARD OF 'treadlelaw23.ColdWrites'. -/
def coldWritesCard : Claim7 := { stood := { row := coldWritesRow, standIns := [], harness := (true, "16fe5bb237603cf9b1398f7110219a8327e1ef473bd37759329fc936138584d2"), looks := true }, kinds := [], alts := [], laidByText := true, laidKinds := [.data, .data, .data, .data, .sentinel, .sentinel, .pinned], laidTests := true, laidLooks := .later }
def ColdWritesCardSaid : Prop := Claim7.holds Tryz.pinned (.plain (OpenSpec.ofChange coldWritesSpec)) coldWritesCard

/-- THE TIED CARD OF 'treadlelaw23.ColdReads'. -/
def coldReadsCard : Claim7 := { stood := { row := coldReadsRow, standIns := [], harness := (true, "16fe5bb237603cf9b1398f7110219a8327e1ef473bd37759329fc936138584d2"), looks := true }, kinds := [], alts := [], laidByText := true, laidKinds := [.data, .data, .data, .data, .sentinel, .sentinel, .pinned], laidTests := true, laidLooks := .later }
def ColdReadsCardSaid : Prop := Claim7.holds Tryz.pinned (.plain (OpenSpec.ofChange coldReadsSpec)) coldReadsCard

/-- THE SECOND FORM's CARD OF 'treadlelaw23.ColdWrites'. -/
def coldWritesUptoCard : Claim7 := { stood := { row := coldWritesUptoRow, standIns := [], harness := (true, "16fe5bb237603cf9b1398f7110219a8327e1ef473bd37759329fc936138584d2"), looks := true }, kinds := [], alts := [], laidByText := true, laidKinds := [.data, .data, .data, .data, .sentinel, .sentinel, .pinned], laidTests := true, laidLooks := .later }
def ColdWritesUptoCardSaid : Prop := Claim7.holds Tryz.pinned (.plain (OpenSpec.upto coldWritesSpec)) coldWritesUptoCard

/-- THE SECOND FORM's CARD OF 'treadlelaw23.ColdReads'. -/
def coldReadsUptoCard : Claim7 := { stood := { row := coldReadsUptoRow, standIns := [], harness := (true, "16fe5bb237603cf9b1398f7110219a8327e1ef473bd37759329fc936138584d2"), looks := true }, kinds := [], alts := [], laidByText := true, laidKinds := [.data, .data, .data, .data, .sentinel, .sentinel, .pinned], laidTests := true, laidLooks := .later }
def ColdReadsUptoCardSaid : Prop := Claim7.holds Tryz.pinned (.plain (OpenSpec.upto coldReadsSpec)) coldReadsUptoCard
end Rows
end Go.Proofs.YtkdmpdbbcgdfkaaGreatDoor
