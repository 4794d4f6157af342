/-
  DERIVED. GIVEN WITH THE SEED: THE CARDS: each row of YthhflooehdhkhaaGreatDoorRows.lean that lists a variable, with what it lists TIED to the program's text (the seventh form; the later family's looks); each row that meets fmt, with fmt's text TOLD by the authors' own Lean function (tested against real Go, not proved from fmt's source: count such statements apart). THE CARD IS WHAT COUNTS. Prove the row's statement (the work); the ties are given (YthhflooehdhkhaaGreatDoorTie.lean); close each card by the builder's one call (the guide's Derived/Test/ToyasCard.lean, 'card_holds'). Laid BY PROGRAM, IN A SANDBOX (cutbox-door.mjs). By AI agents, Wed Nov 11 2026. No macro, syntax, notation, axiom, sorry.
-/
import Derived.Test.YthhflooehdhkhaaGreatDoorRows
import GoSem.ClaimSeven
namespace Go.Proofs.YthhflooehdhkhaaGreatDoor
namespace Rows

/-- THE TIED CARD OF 'sluicegatelaw41.QueueNobody'. -/
def queueNobodyCard : Claim7 := { stood := { row := queueNobodyRow, standIns := [], harness := (true, "9b26156c2d466b5e5667e5d20999045a05d2ccc823c4cd8cca21b0d2ea68619e"), looks := false }, kinds := [], alts := [], laidByText := true, laidKinds := [.data, .data, .pinned], laidTests := true, laidLooks := .later }
def QueueNobodyCardSaid : Prop := Claim7.holds Tryz.pinned (.plain (OpenSpec.ofChange queueNobodySpec)) queueNobodyCard

/-- THE SECOND FORM's CARD OF 'sluicegatelaw41.QueueNobody'. -/
def queueNobodyUptoCard : Claim7 := { stood := { row := queueNobodyUptoRow, standIns := [], harness := (true, "9b26156c2d466b5e5667e5d20999045a05d2ccc823c4cd8cca21b0d2ea68619e"), looks := false }, kinds := [], alts := [], laidByText := true, laidKinds := [.data, .data, .pinned], laidTests := true, laidLooks := .later }
def QueueNobodyUptoCardSaid : Prop := Claim7.holds Tryz.pinned (.plain (OpenSpec.upto queueNobodySpec)) queueNobodyUptoCard
end Rows
end Go.Proofs.YthhflooehdhkhaaGreatDoor
