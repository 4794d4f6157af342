/-
  DERIVED. GIVEN WITH THE SEED: THE CARDS: each row of YtccmopkjkmpaaaaGreatDoorRows.lean that lists a variable, with what it lists TIED to the program's text (the seventh form; the later family's looks); each row that meets fmt, with fmt's text TOLD by the authors' own Lean function (tested against real Go, not proved from fmt's source: count such statements apart). THE CARD IS WHAT COUNTS. Prove the row's statement (the work); the ties are given (YtccmopkjkmpaaaaGreatDoorTie.lean); close each card by the builder's one call (the guide's Derived/Test/ToyasCard.lean, 'card_holds'). Laid BY PROGRAM, IN A SANDBOX (cutbox-door.mjs). By AI agents, Wed Nov 11 2026. No macro, syntax, notation, axiom, sorry.
-/
import Derived.Test.YtccmopkjkmpaaaaGreatDoorRows
import GoSem.ClaimSeven
namespace Go.Proofs.YtccmopkjkmpaaaaGreatDoor
namespace Rows

/-- THE TIED CARD OF 'sluicegatelaw40.IndexNobody'. -/
def indexNobodyCard : Claim7 := { stood := { row := indexNobodyRow, standIns := [], harness := (true, "f068d7d6ea0bff62681f3d6f0378534538f5edbdb96fabbbbb6c555518f9c15e"), looks := false }, kinds := [], alts := [], laidByText := true, laidKinds := [.data, .data, .pinned], laidTests := true, laidLooks := .later }
def IndexNobodyCardSaid : Prop := Claim7.holds Tryz.pinned (.plain (OpenSpec.ofChange indexNobodySpec)) indexNobodyCard

/-- THE SECOND FORM's CARD OF 'sluicegatelaw40.IndexNobody'. -/
def indexNobodyUptoCard : Claim7 := { stood := { row := indexNobodyUptoRow, standIns := [], harness := (true, "f068d7d6ea0bff62681f3d6f0378534538f5edbdb96fabbbbb6c555518f9c15e"), looks := false }, kinds := [], alts := [], laidByText := true, laidKinds := [.data, .data, .pinned], laidTests := true, laidLooks := .later }
def IndexNobodyUptoCardSaid : Prop := Claim7.holds Tryz.pinned (.plain (OpenSpec.upto indexNobodySpec)) indexNobodyUptoCard
end Rows
end Go.Proofs.YtccmopkjkmpaaaaGreatDoor
