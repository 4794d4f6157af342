/-
  DERIVED. GIVEN WITH THE SEED: THE CARDS: each row of YtkmfndahppabiaaGreatDoorRows.lean that lists a variable, with what it lists TIED to the program's text (the seventh form; the later family's looks); each row that meets fmt, with fmt's text TOLD by the authors' own Lean function (tested against real Go, not proved from fmt's source: count such statements apart). THE CARD IS WHAT COUNTS. Prove the row's statement (the work); the ties are given (YtkmfndahppabiaaGreatDoorTie.lean); close each card by the builder's one call (the guide's Derived/Test/ToyasCard.lean, 'card_holds'). Laid BY PROGRAM, IN A SANDBOX (cutbox-door.mjs). By AI agents, Wed Nov 11 2026. No macro, syntax, notation, axiom, sorry.
-/
import Derived.Test.YtkmfndahppabiaaGreatDoorRows
import GoSem.ClaimSeven
namespace Go.Proofs.YtkmfndahppabiaaGreatDoor
namespace Rows

/-- THE TIED CARD OF 'sluicegatelaw34.SqueezeNone'. -/
def squeezeNoneCard : Claim7 := { stood := { row := squeezeNoneRow, standIns := [], harness := (true, "8e6bd5f87ba44e7b6124974ba9f0c43ce44d0844704dc728e1dc89715ceedcd4"), looks := true }, kinds := [], alts := [], laidByText := true, laidKinds := [.data], laidTests := true, laidLooks := .later }
def SqueezeNoneCardSaid : Prop := Claim7.holds Tryz.pinned (.plain (OpenSpec.ofChange squeezeNoneSpec)) squeezeNoneCard

/-- THE SECOND FORM's CARD OF 'sluicegatelaw34.SqueezeNone'. -/
def squeezeNoneUptoCard : Claim7 := { stood := { row := squeezeNoneUptoRow, standIns := [], harness := (true, "8e6bd5f87ba44e7b6124974ba9f0c43ce44d0844704dc728e1dc89715ceedcd4"), looks := true }, kinds := [], alts := [], laidByText := true, laidKinds := [.data], laidTests := true, laidLooks := .later }
def SqueezeNoneUptoCardSaid : Prop := Claim7.holds Tryz.pinned (.plain (OpenSpec.upto squeezeNoneSpec)) squeezeNoneUptoCard
end Rows
end Go.Proofs.YtkmfndahppabiaaGreatDoor
