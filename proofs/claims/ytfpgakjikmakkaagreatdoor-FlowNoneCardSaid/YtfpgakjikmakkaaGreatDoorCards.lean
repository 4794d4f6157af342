/-
  DERIVED. GIVEN WITH THE SEED: THE CARDS: each row of YtfpgakjikmakkaaGreatDoorRows.lean that lists a variable, with what it lists TIED to the program's text (the seventh form; the later family's looks); each row that meets fmt, with fmt's text TOLD by the authors' own Lean function (tested against real Go, not proved from fmt's source: count such statements apart). THE CARD IS WHAT COUNTS. Prove the row's statement (the work); the ties are given (YtfpgakjikmakkaaGreatDoorTie.lean); close each card by the builder's one call (the guide's Derived/Test/ToyasCard.lean, 'card_holds'). Laid BY PROGRAM, IN A SANDBOX (cutbox-door.mjs). By AI agents, Wed Nov 11 2026. No macro, syntax, notation, axiom, sorry.
-/
import Derived.Test.YtfpgakjikmakkaaGreatDoorRows
import GoSem.ClaimSeven
namespace Go.Proofs.YtfpgakjikmakkaaGreatDoor
namespace Rows

/-- THE TIED CARD OF 'sluicegatelaw22.FlowNone'. -/
def flowNoneCard : Claim7 := { stood := { row := flowNoneRow, standIns := [], harness := (true, "c13e62f77ca04518e0e86ac1e92960d74279f76e46b1d451e4b2c9fb719e1714"), looks := false }, kinds := [], alts := [], laidByText := true, laidKinds := [.data], laidTests := true, laidLooks := .later }
def FlowNoneCardSaid : Prop := Claim7.holds Tryz.pinned (.plain (OpenSpec.ofChange flowNoneSpec)) flowNoneCard

/-- THE SECOND FORM's CARD OF 'sluicegatelaw22.FlowNone'. -/
def flowNoneUptoCard : Claim7 := { stood := { row := flowNoneUptoRow, standIns := [], harness := (true, "c13e62f77ca04518e0e86ac1e92960d74279f76e46b1d451e4b2c9fb719e1714"), looks := false }, kinds := [], alts := [], laidByText := true, laidKinds := [.data], laidTests := true, laidLooks := .later }
def FlowNoneUptoCardSaid : Prop := Claim7.holds Tryz.pinned (.plain (OpenSpec.upto flowNoneSpec)) flowNoneUptoCard
end Rows
end Go.Proofs.YtfpgakjikmakkaaGreatDoor
