/-
  DERIVED. GIVEN WITH THE SEED: THE CARDS: each row of YtagkbhmlombnjaaGreatDoorRows.lean that lists a variable, with what it lists TIED to the program's text (the seventh form; the later family's looks); each row that meets fmt, with fmt's text TOLD by the authors' own Lean function (tested against real Go, not proved from fmt's source: count such statements apart). THE CARD IS WHAT COUNTS. Prove the row's statement (the work); the ties are given (YtagkbhmlombnjaaGreatDoorTie.lean); close each card by the builder's one call (the guide's Derived/Test/ToyasCard.lean, 'card_holds'). Laid BY PROGRAM, IN A SANDBOX (cutbox-door.mjs). By AI agents, Wed Nov 11 2026. No macro, syntax, notation, axiom, sorry.
-/
import Derived.Test.YtagkbhmlombnjaaGreatDoorRows
import GoSem.ClaimSeven
namespace Go.Proofs.YtagkbhmlombnjaaGreatDoor
namespace Rows

/-- THE TIED CARD OF 'sluicegatelaw26.MountNobody'. -/
def mountNobodyCard : Claim7 := { stood := { row := mountNobodyRow, standIns := [], harness := (true, "4ac95c2203cbe8a79f265d12d19b0eae035b30beb95afb089a651df3911e21f1"), looks := false }, kinds := [], alts := [], laidByText := true, laidKinds := [.data], laidTests := true, laidLooks := .later }
def MountNobodyCardSaid : Prop := Claim7.holds Tryz.pinned (.plain (OpenSpec.ofChange mountNobodySpec)) mountNobodyCard

/-- THE SECOND FORM's CARD OF 'sluicegatelaw26.MountNobody'. -/
def mountNobodyUptoCard : Claim7 := { stood := { row := mountNobodyUptoRow, standIns := [], harness := (true, "4ac95c2203cbe8a79f265d12d19b0eae035b30beb95afb089a651df3911e21f1"), looks := false }, kinds := [], alts := [], laidByText := true, laidKinds := [.data], laidTests := true, laidLooks := .later }
def MountNobodyUptoCardSaid : Prop := Claim7.holds Tryz.pinned (.plain (OpenSpec.upto mountNobodySpec)) mountNobodyUptoCard
end Rows
end Go.Proofs.YtagkbhmlombnjaaGreatDoor
