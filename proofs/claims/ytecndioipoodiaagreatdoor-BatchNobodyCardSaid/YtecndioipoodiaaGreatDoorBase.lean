/-
  The hooks that the runs begin with.
-/
import Derived.Test.YtecndioipoodiaaGreatDoorSortHook
namespace Go.Proofs.YtecndioipoodiaaGreatDoor
open Go Go.Ab Go.Proofs
set_option linter.unusedVariables false

def hkB : Hook := fun f => match f with
  | 195 => some sortedH
  | _ => none

theorem hkB_ok : HookOk Tryz.prog hkB := by
  intro f args M v M' hq ρ w vs s hg hv
  by_cases e : f = 195
  · subst e
    exact sortedH_ok (of_decide_eq_true (by kernel_rfl)) hq s hg hv
  · have e2 : hkB f = none := by
      unfold hkB
      split
      · exact absurd rfl e
      · rfl
    have hq : (hkB f).bind (fun h => h args M) = some (v, M') := hq
    rw [e2] at hq
    cases hq
end Go.Proofs.YtecndioipoodiaaGreatDoor
