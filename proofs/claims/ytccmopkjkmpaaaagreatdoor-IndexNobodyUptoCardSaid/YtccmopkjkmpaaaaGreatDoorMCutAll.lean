/-
  The hooks are sound. Printed by wip/tool/mkcuts5.py.
-/
import Derived.Test.YtccmopkjkmpaaaaGreatDoorMCut1
import Derived.Test.YtccmopkjkmpaaaaGreatDoorMCut2
namespace Go.Proofs.YtccmopkjkmpaaaaGreatDoor
open Go Go.Ab Go.Proofs
set_option linter.unusedVariables false
set_option maxRecDepth 100000

theorem mhk1_ok : HookOk Tryz.prog mhk1 := by
  intro f args M v M' hq ρ w vs s hg hv
  by_cases e : f = 84
  · subst e
    have hq : cutAt [mcut1] mhk1F args M = some (v, M') := hq
    unfold cutAt at hq
    split at hq
    · rename_i hf
      cases hq
      exact cut_sound (acall_sound mixedS (offH_ok hkW_ok 84) 1000) mcut1_ok hf s hg hv
    · have hq : mhk1F args M = some (v, M') := hq
      unfold mhk1F at hq
      split at hq
      · rename_i h e'
        refine hkW_ok 84 args M v M' ?_ ρ w vs s hg hv
        show (hkW 84).bind (fun h => h args M) = some (v, M')
        rw [e']
        exact hq
      · exact acall_sound mixedS hkW_ok 1000 84 args M v M' hq ρ w vs s hg hv
  · have e2 : mhk1 f = hkW f := by
      unfold mhk1
      split
      · exact absurd rfl e
      · rfl
    have hq : (mhk1 f).bind (fun h => h args M) = some (v, M') := hq
    rw [e2] at hq
    exact hkW_ok f args M v M' hq ρ w vs s hg hv

theorem mhk2_ok : HookOk Tryz.prog mhk2 := by
  intro f args M v M' hq ρ w vs s hg hv
  by_cases e : f = 50
  · subst e
    have hq : cutAt [mcut2] mhk2F args M = some (v, M') := hq
    unfold cutAt at hq
    split at hq
    · rename_i hf
      cases hq
      exact cut_sound (acall_sound mixedS (offH_ok mhk1_ok 50) 1000) mcut2_ok hf s hg hv
    · have hq : mhk2F args M = some (v, M') := hq
      unfold mhk2F at hq
      split at hq
      · rename_i h e'
        refine mhk1_ok 50 args M v M' ?_ ρ w vs s hg hv
        show (mhk1 50).bind (fun h => h args M) = some (v, M')
        rw [e']
        exact hq
      · exact acall_sound mixedS mhk1_ok 1000 50 args M v M' hq ρ w vs s hg hv
  · have e2 : mhk2 f = mhk1 f := by
      unfold mhk2
      split
      · exact absurd rfl e
      · rfl
    have hq : (mhk2 f).bind (fun h => h args M) = some (v, M') := hq
    rw [e2] at hq
    exact mhk1_ok f args M v M' hq ρ w vs s hg hv

theorem mhk3_ok : HookOk Tryz.prog mhk3 := by
  intro f args M v M' hq ρ w vs s hg hv
  by_cases e : f = 30
  · subst e
    have hq : cutAt [mcut3] mhk3F args M = some (v, M') := hq
    unfold cutAt at hq
    split at hq
    · rename_i hf
      cases hq
      exact cut_sound (acall_sound mixedS (offH_ok mhk2_ok 30) 1000) mcut3_ok hf s hg hv
    · have hq : mhk3F args M = some (v, M') := hq
      unfold mhk3F at hq
      split at hq
      · rename_i h e'
        refine mhk2_ok 30 args M v M' ?_ ρ w vs s hg hv
        show (mhk2 30).bind (fun h => h args M) = some (v, M')
        rw [e']
        exact hq
      · exact acall_sound mixedS mhk2_ok 1000 30 args M v M' hq ρ w vs s hg hv
  · have e2 : mhk3 f = mhk2 f := by
      unfold mhk3
      split
      · exact absurd rfl e
      · rfl
    have hq : (mhk3 f).bind (fun h => h args M) = some (v, M') := hq
    rw [e2] at hq
    exact mhk2_ok f args M v M' hq ρ w vs s hg hv

theorem mhk4_ok : HookOk Tryz.prog mhk4 := by
  intro f args M v M' hq ρ w vs s hg hv
  by_cases e : f = 13
  · subst e
    have hq : cutAt [mcut4] mhk4F args M = some (v, M') := hq
    unfold cutAt at hq
    split at hq
    · rename_i hf
      cases hq
      exact cut_sound (acall_sound mixedS (offH_ok mhk3_ok 13) 1000) mcut4_ok hf s hg hv
    · have hq : mhk4F args M = some (v, M') := hq
      unfold mhk4F at hq
      split at hq
      · rename_i h e'
        refine mhk3_ok 13 args M v M' ?_ ρ w vs s hg hv
        show (mhk3 13).bind (fun h => h args M) = some (v, M')
        rw [e']
        exact hq
      · exact acall_sound mixedS mhk3_ok 1000 13 args M v M' hq ρ w vs s hg hv
  · have e2 : mhk4 f = mhk3 f := by
      unfold mhk4
      split
      · exact absurd rfl e
      · rfl
    have hq : (mhk4 f).bind (fun h => h args M) = some (v, M') := hq
    rw [e2] at hq
    exact mhk3_ok f args M v M' hq ρ w vs s hg hv

theorem mhk5_ok : HookOk Tryz.prog mhk5 := by
  intro f args M v M' hq ρ w vs s hg hv
  by_cases e : f = 15
  · subst e
    have hq : cutAt [mcut5] mhk5F args M = some (v, M') := hq
    unfold cutAt at hq
    split at hq
    · rename_i hf
      cases hq
      exact cut_sound (acall_sound mixedS (offH_ok mhk4_ok 15) 1000) mcut5_ok hf s hg hv
    · have hq : mhk5F args M = some (v, M') := hq
      unfold mhk5F at hq
      split at hq
      · rename_i h e'
        refine mhk4_ok 15 args M v M' ?_ ρ w vs s hg hv
        show (mhk4 15).bind (fun h => h args M) = some (v, M')
        rw [e']
        exact hq
      · exact acall_sound mixedS mhk4_ok 1000 15 args M v M' hq ρ w vs s hg hv
  · have e2 : mhk5 f = mhk4 f := by
      unfold mhk5
      split
      · exact absurd rfl e
      · rfl
    have hq : (mhk5 f).bind (fun h => h args M) = some (v, M') := hq
    rw [e2] at hq
    exact mhk4_ok f args M v M' hq ρ w vs s hg hv

end Go.Proofs.YtccmopkjkmpaaaaGreatDoor
