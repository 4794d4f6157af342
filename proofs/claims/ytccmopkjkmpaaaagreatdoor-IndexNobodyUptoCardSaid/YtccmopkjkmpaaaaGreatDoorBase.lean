/-
  The hooks that the runs begin with.
-/
import Derived.Test.YtccmopkjkmpaaaaGreatDoorSortHook
import Derived.Test.YtccmopkjkmpaaaaGreatDoorEqHook
namespace Go.Proofs.YtccmopkjkmpaaaaGreatDoor
open Go Go.Ab Go.Proofs
set_option linter.unusedVariables false

noncomputable def hkB : Hook := fun f => match f with
  | 161 => some sortedH
  | 190 => some eqH
  | _ => none

theorem hkB_ok : HookOk Tryz.prog hkB := by
  intro f args M v M' hq ρ w vs s hg hv
  by_cases e : f = 161
  · subst e
    exact sortedH_ok (of_decide_eq_true (by kernel_rfl)) hq s hg hv
  · by_cases e1 : f = 190
    · subst e1
      exact eqH_ok hq s hg hv
    · have e2 : hkB f = none := by
        unfold hkB
        split
        · exact absurd rfl e
        · exact absurd rfl e1
        · rfl
      have hq : (hkB f).bind (fun h => h args M) = some (v, M') := hq
      rw [e2] at hq
      cases hq
end Go.Proofs.YtccmopkjkmpaaaaGreatDoor
