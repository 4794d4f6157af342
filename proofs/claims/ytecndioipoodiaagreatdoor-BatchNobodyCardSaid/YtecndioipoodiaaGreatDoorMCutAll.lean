/-
  The hooks are sound. Printed by wip/tool/mkcuts5.py.
-/
import Derived.Test.YtecndioipoodiaaGreatDoorMCut1
import Derived.Test.YtecndioipoodiaaGreatDoorMCut2
import Derived.Test.YtecndioipoodiaaGreatDoorMCut3
namespace Go.Proofs.YtecndioipoodiaaGreatDoor
open Go Go.Ab Go.Proofs
set_option linter.unusedVariables false
set_option maxRecDepth 100000

theorem mhk1_ok : HookOk Tryz.prog mhk1 := by
  intro f args M v M' hq ρ w vs s hg hv
  by_cases e : f = 22
  · subst e
    have hq : cutAt [mcut1] mhk1F args M = some (v, M') := hq
    unfold cutAt at hq
    split at hq
    · rename_i hf
      cases hq
      exact cut_sound (acall_sound mixedS hkW_ok 400) mcut1_ok hf s hg hv
    · have hq : mhk1F args M = some (v, M') := hq
      unfold mhk1F at hq
      split at hq
      · rename_i h e'
        refine hkW_ok 22 args M v M' ?_ ρ w vs s hg hv
        show (hkW 22).bind (fun h => h args M) = some (v, M')
        rw [e']
        exact hq
      · exact acall_sound mixedS hkW_ok 400 22 args M v M' hq ρ w vs s hg hv
  · have e2 : mhk1 f = hkW f := by
      unfold mhk1
      split
      · exact absurd rfl e
      · rfl
    have hq : (mhk1 f).bind (fun h => h args M) = some (v, M') := hq
    rw [e2] at hq
    exact hkW_ok f args M v M' hq ρ w vs s hg hv

theorem mhk2_ok : HookOk Tryz.prog mhk2 := by
  intro f args M v M' hq ρ w vs s hg hv
  by_cases e : f = 10
  · subst e
    have hq : cutAt [mcut2] mhk2F args M = some (v, M') := hq
    unfold cutAt at hq
    split at hq
    · rename_i hf
      cases hq
      exact cut_sound (acall_sound mixedS mhk1_ok 400) mcut2_ok hf s hg hv
    · have hq : mhk2F args M = some (v, M') := hq
      unfold mhk2F at hq
      split at hq
      · rename_i h e'
        refine mhk1_ok 10 args M v M' ?_ ρ w vs s hg hv
        show (mhk1 10).bind (fun h => h args M) = some (v, M')
        rw [e']
        exact hq
      · exact acall_sound mixedS mhk1_ok 400 10 args M v M' hq ρ w vs s hg hv
  · have e2 : mhk2 f = mhk1 f := by
      unfold mhk2
      split
      · exact absurd rfl e
      · rfl
    have hq : (mhk2 f).bind (fun h => h args M) = some (v, M') := hq
    rw [e2] at hq
    exact mhk1_ok f args M v M' hq ρ w vs s hg hv

theorem mhk3_ok : HookOk Tryz.prog mhk3 := by
  intro f args M v M' hq ρ w vs s hg hv
  by_cases e : f = 13
  · subst e
    have hq : cutAt [mcut3] mhk3F args M = some (v, M') := hq
    unfold cutAt at hq
    split at hq
    · rename_i hf
      cases hq
      exact cut_sound (acall_sound mixedS mhk2_ok 400) mcut3_ok hf s hg hv
    · have hq : mhk3F args M = some (v, M') := hq
      unfold mhk3F at hq
      split at hq
      · rename_i h e'
        refine mhk2_ok 13 args M v M' ?_ ρ w vs s hg hv
        show (mhk2 13).bind (fun h => h args M) = some (v, M')
        rw [e']
        exact hq
      · exact acall_sound mixedS mhk2_ok 400 13 args M v M' hq ρ w vs s hg hv
  · have e2 : mhk3 f = mhk2 f := by
      unfold mhk3
      split
      · exact absurd rfl e
      · rfl
    have hq : (mhk3 f).bind (fun h => h args M) = some (v, M') := hq
    rw [e2] at hq
    exact mhk2_ok f args M v M' hq ρ w vs s hg hv

end Go.Proofs.YtecndioipoodiaaGreatDoor
