/-
  DERIVED. GIVEN WITH THE SEED: THE CARDS: each row of YtecndioipoodiaaGreatDoorRows.lean that lists a variable, with what it lists TIED to the program's text (the seventh form; the later family's looks); each row that meets fmt, with fmt's text TOLD by the authors' own Lean function (tested against real Go, not proved from fmt's source: count such statements apart). THE CARD IS WHAT COUNTS. Prove the row's statement (the work); the ties are given (YtecndioipoodiaaGreatDoorTie.lean); close each card by the builder's one call (the guide's Derived/Test/ToyasCard.lean, 'card_holds'). Laid BY PROGRAM, IN A SANDBOX (cutbox-door.mjs). By AI agents, Wed Nov 11 2026. No macro, syntax, notation, axiom, sorry.
-/
import Derived.Test.YtecndioipoodiaaGreatDoorRows
import GoSem.ClaimSeven
namespace Go.Proofs.YtecndioipoodiaaGreatDoor
namespace Rows

/-- THE TIED CARD OF 'sluicegatelaw39.BatchNobody'. -/
def batchNobodyCard : Claim7 := { stood := { row := batchNobodyRow, standIns := [], harness := (true, "c569106525448d2450c6d2f3ff8b6c15038a61f31a09e25c60330d99f1d5a45a"), looks := false }, kinds := [], alts := [], laidByText := true, laidKinds := [.data], laidTests := true, laidLooks := .later }
def BatchNobodyCardSaid : Prop := Claim7.holds Tryz.pinned (.plain (OpenSpec.ofChange batchNobodySpec)) batchNobodyCard

/-- THE SECOND FORM's CARD OF 'sluicegatelaw39.BatchNobody'. -/
def batchNobodyUptoCard : Claim7 := { stood := { row := batchNobodyUptoRow, standIns := [], harness := (true, "c569106525448d2450c6d2f3ff8b6c15038a61f31a09e25c60330d99f1d5a45a"), looks := false }, kinds := [], alts := [], laidByText := true, laidKinds := [.data], laidTests := true, laidLooks := .later }
def BatchNobodyUptoCardSaid : Prop := Claim7.holds Tryz.pinned (.plain (OpenSpec.upto batchNobodySpec)) batchNobodyUptoCard
end Rows
end Go.Proofs.YtecndioipoodiaaGreatDoor
