/-
  DERIVED. GIVEN WITH THE SEED: THE CARDS: each row of YtbaiiekmiaddnaaGreatDoorRows.lean that lists a variable, with what it lists TIED to the program's text (the seventh form; the later family's looks); each row that meets fmt, with fmt's text TOLD by the authors' own Lean function (tested against real Go, not proved from fmt's source: count such statements apart). THE CARD IS WHAT COUNTS. Prove the row's statement (the work); the ties are given (YtbaiiekmiaddnaaGreatDoorTie.lean); close each card by the builder's one call (the guide's Derived/Test/ToyasCard.lean, 'card_holds'). Laid BY PROGRAM, IN A SANDBOX (cutbox-door.mjs). By AI agents, Wed Nov 11 2026. No macro, syntax, notation, axiom, sorry.
-/
import Derived.Test.YtbaiiekmiaddnaaGreatDoorRows
import GoSem.ClaimSeven
namespace Go.Proofs.YtbaiiekmiaddnaaGreatDoor
namespace Rows

/-- THE TIED CARD OF 'sluicegatelaw32.CursorNobody'. -/
def cursorNobodyCard : Claim7 := { stood := { row := cursorNobodyRow, standIns := [], harness := (true, "d36006527983d60e7170a74a99c2a8fa19dd05d4af2b16798ba422a4e2e56a21"), looks := false }, kinds := [], alts := [], laidByText := true, laidKinds := [.data], laidTests := true, laidLooks := .later }
def CursorNobodyCardSaid : Prop := Claim7.holds Tryz.pinned (.plain (OpenSpec.ofChange cursorNobodySpec)) cursorNobodyCard

/-- THE SECOND FORM's CARD OF 'sluicegatelaw32.CursorNobody'. -/
def cursorNobodyUptoCard : Claim7 := { stood := { row := cursorNobodyUptoRow, standIns := [], harness := (true, "d36006527983d60e7170a74a99c2a8fa19dd05d4af2b16798ba422a4e2e56a21"), looks := false }, kinds := [], alts := [], laidByText := true, laidKinds := [.data], laidTests := true, laidLooks := .later }
def CursorNobodyUptoCardSaid : Prop := Claim7.holds Tryz.pinned (.plain (OpenSpec.upto cursorNobodySpec)) cursorNobodyUptoCard
end Rows
end Go.Proofs.YtbaiiekmiaddnaaGreatDoor
