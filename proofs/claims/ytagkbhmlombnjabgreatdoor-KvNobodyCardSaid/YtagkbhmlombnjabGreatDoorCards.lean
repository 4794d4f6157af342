/-
  DERIVED. GIVEN WITH THE SEED: THE CARDS: each row of YtagkbhmlombnjabGreatDoorRows.lean that lists a variable, with what it lists TIED to the program's text (the seventh form; the later family's looks); each row that meets fmt, with fmt's text TOLD by the authors' own Lean function (tested against real Go, not proved from fmt's source: count such statements apart). THE CARD IS WHAT COUNTS. Prove the row's statement (the work); the ties are given (YtagkbhmlombnjabGreatDoorTie.lean); close each card by the builder's one call (the guide's Derived/Test/ToyasCard.lean, 'card_holds'). Laid BY PROGRAM, IN A SANDBOX (cutbox-door.mjs). By AI agents, Wed Nov 11 2026. No macro, syntax, notation, axiom, sorry.
-/
import Derived.Test.YtagkbhmlombnjabGreatDoorRows
import GoSem.ClaimSeven
namespace Go.Proofs.YtagkbhmlombnjabGreatDoor
namespace Rows

/-- THE TIED CARD OF 'sluicegatelaw27.KvNobody'. -/
def kvNobodyCard : Claim7 := { stood := { row := kvNobodyRow, standIns := [], harness := (true, "3008150afbe4bbec683a7e33df678f1771f7331c879afebf81c1ed4181111dbc"), looks := false }, kinds := [], alts := [], laidByText := true, laidKinds := [.data], laidTests := true, laidLooks := .later }
def KvNobodyCardSaid : Prop := Claim7.holds Tryz.pinned (.plain (OpenSpec.ofChange kvNobodySpec)) kvNobodyCard

/-- THE SECOND FORM's CARD OF 'sluicegatelaw27.KvNobody'. -/
def kvNobodyUptoCard : Claim7 := { stood := { row := kvNobodyUptoRow, standIns := [], harness := (true, "3008150afbe4bbec683a7e33df678f1771f7331c879afebf81c1ed4181111dbc"), looks := false }, kinds := [], alts := [], laidByText := true, laidKinds := [.data], laidTests := true, laidLooks := .later }
def KvNobodyUptoCardSaid : Prop := Claim7.holds Tryz.pinned (.plain (OpenSpec.upto kvNobodySpec)) kvNobodyUptoCard
end Rows
end Go.Proofs.YtagkbhmlombnjabGreatDoor
