/-
  The hooks are sound. Printed by wip/tool/mkcuts5.py.
-/
import Derived.Test.YtkmfndahppabiaaGreatDoorMCut1
import Derived.Test.YtkmfndahppabiaaGreatDoorMCut2
import Derived.Test.YtkmfndahppabiaaGreatDoorMCut3
import Derived.Test.YtkmfndahppabiaaGreatDoorMCut4
namespace Go.Proofs.YtkmfndahppabiaaGreatDoor
open Go Go.Ab Go.Proofs
set_option linter.unusedVariables false
set_option maxRecDepth 100000

theorem mhk1_ok : HookOk Tryz.prog mhk1 := by
  intro f args M v M' hq ρ w vs s hg hv
  by_cases e : f = 91
  · subst e
    have hq : cutAt [mcut1] mhk1F args M = some (v, M') := hq
    unfold cutAt at hq
    split at hq
    · rename_i hf
      cases hq
      exact cut_sound (acall_sound mixedS hkW_ok 1000) mcut1_ok hf s hg hv
    · have hq : mhk1F args M = some (v, M') := hq
      unfold mhk1F at hq
      split at hq
      · rename_i h e'
        refine hkW_ok 91 args M v M' ?_ ρ w vs s hg hv
        show (hkW 91).bind (fun h => h args M) = some (v, M')
        rw [e']
        exact hq
      · exact acall_sound mixedS hkW_ok 1000 91 args M v M' hq ρ w vs s hg hv
  · have e2 : mhk1 f = hkW f := by
      unfold mhk1
      split
      · exact absurd rfl e
      · rfl
    have hq : (mhk1 f).bind (fun h => h args M) = some (v, M') := hq
    rw [e2] at hq
    exact hkW_ok f args M v M' hq ρ w vs s hg hv

theorem mhk2_ok : HookOk Tryz.prog mhk2 := by
  intro f args M v M' hq ρ w vs s hg hv
  by_cases e : f = 26
  · subst e
    have hq : cutAt [mcut2] mhk2F args M = some (v, M') := hq
    unfold cutAt at hq
    split at hq
    · rename_i hf
      cases hq
      exact cut_sound (acall_sound mixedS mhk1_ok 1000) mcut2_ok hf s hg hv
    · have hq : mhk2F args M = some (v, M') := hq
      unfold mhk2F at hq
      split at hq
      · rename_i h e'
        refine mhk1_ok 26 args M v M' ?_ ρ w vs s hg hv
        show (mhk1 26).bind (fun h => h args M) = some (v, M')
        rw [e']
        exact hq
      · exact acall_sound mixedS mhk1_ok 1000 26 args M v M' hq ρ w vs s hg hv
  · have e2 : mhk2 f = mhk1 f := by
      unfold mhk2
      split
      · exact absurd rfl e
      · rfl
    have hq : (mhk2 f).bind (fun h => h args M) = some (v, M') := hq
    rw [e2] at hq
    exact mhk1_ok f args M v M' hq ρ w vs s hg hv

theorem mhk3_ok : HookOk Tryz.prog mhk3 := by
  intro f args M v M' hq ρ w vs s hg hv
  by_cases e : f = 19
  · subst e
    have hq : cutAt [mcut3] mhk3F args M = some (v, M') := hq
    unfold cutAt at hq
    split at hq
    · rename_i hf
      cases hq
      exact cut_sound (acall_sound mixedS mhk2_ok 1000) mcut3_ok hf s hg hv
    · have hq : mhk3F args M = some (v, M') := hq
      unfold mhk3F at hq
      split at hq
      · rename_i h e'
        refine mhk2_ok 19 args M v M' ?_ ρ w vs s hg hv
        show (mhk2 19).bind (fun h => h args M) = some (v, M')
        rw [e']
        exact hq
      · exact acall_sound mixedS mhk2_ok 1000 19 args M v M' hq ρ w vs s hg hv
  · have e2 : mhk3 f = mhk2 f := by
      unfold mhk3
      split
      · exact absurd rfl e
      · rfl
    have hq : (mhk3 f).bind (fun h => h args M) = some (v, M') := hq
    rw [e2] at hq
    exact mhk2_ok f args M v M' hq ρ w vs s hg hv

theorem mhk4_ok : HookOk Tryz.prog mhk4 := by
  intro f args M v M' hq ρ w vs s hg hv
  by_cases e : f = 7
  · subst e
    have hq : cutAt [mcut4] mhk4F args M = some (v, M') := hq
    unfold cutAt at hq
    split at hq
    · rename_i hf
      cases hq
      exact cut_sound (acall_sound mixedS mhk3_ok 1000) mcut4_ok hf s hg hv
    · have hq : mhk4F args M = some (v, M') := hq
      unfold mhk4F at hq
      split at hq
      · rename_i h e'
        refine mhk3_ok 7 args M v M' ?_ ρ w vs s hg hv
        show (mhk3 7).bind (fun h => h args M) = some (v, M')
        rw [e']
        exact hq
      · exact acall_sound mixedS mhk3_ok 1000 7 args M v M' hq ρ w vs s hg hv
  · have e2 : mhk4 f = mhk3 f := by
      unfold mhk4
      split
      · exact absurd rfl e
      · rfl
    have hq : (mhk4 f).bind (fun h => h args M) = some (v, M') := hq
    rw [e2] at hq
    exact mhk3_ok f args M v M' hq ρ w vs s hg hv

theorem mhk5_ok : HookOk Tryz.prog mhk5 := by
  intro f args M v M' hq ρ w vs s hg hv
  by_cases e : f = 215
  · subst e
    have hq : cutAt [mcut5] mhk5F args M = some (v, M') := hq
    unfold cutAt at hq
    split at hq
    · rename_i hf
      cases hq
      exact cut_sound (acall_sound mixedS mhk4_ok 1000) mcut5_ok hf s hg hv
    · have hq : mhk5F args M = some (v, M') := hq
      unfold mhk5F at hq
      split at hq
      · rename_i h e'
        refine mhk4_ok 215 args M v M' ?_ ρ w vs s hg hv
        show (mhk4 215).bind (fun h => h args M) = some (v, M')
        rw [e']
        exact hq
      · exact acall_sound mixedS mhk4_ok 1000 215 args M v M' hq ρ w vs s hg hv
  · have e2 : mhk5 f = mhk4 f := by
      unfold mhk5
      split
      · exact absurd rfl e
      · rfl
    have hq : (mhk5 f).bind (fun h => h args M) = some (v, M') := hq
    rw [e2] at hq
    exact mhk4_ok f args M v M' hq ρ w vs s hg hv

theorem mhk6_ok : HookOk Tryz.prog mhk6 := by
  intro f args M v M' hq ρ w vs s hg hv
  by_cases e : f = 97
  · subst e
    have hq : cutAt [mcut6] mhk6F args M = some (v, M') := hq
    unfold cutAt at hq
    split at hq
    · rename_i hf
      cases hq
      exact cut_sound (acall_sound mixedS mhk5_ok 1000) mcut6_ok hf s hg hv
    · have hq : mhk6F args M = some (v, M') := hq
      unfold mhk6F at hq
      split at hq
      · rename_i h e'
        refine mhk5_ok 97 args M v M' ?_ ρ w vs s hg hv
        show (mhk5 97).bind (fun h => h args M) = some (v, M')
        rw [e']
        exact hq
      · exact acall_sound mixedS mhk5_ok 1000 97 args M v M' hq ρ w vs s hg hv
  · have e2 : mhk6 f = mhk5 f := by
      unfold mhk6
      split
      · exact absurd rfl e
      · rfl
    have hq : (mhk6 f).bind (fun h => h args M) = some (v, M') := hq
    rw [e2] at hq
    exact mhk5_ok f args M v M' hq ρ w vs s hg hv

theorem mhk7_ok : HookOk Tryz.prog mhk7 := by
  intro f args M v M' hq ρ w vs s hg hv
  by_cases e : f = 8
  · subst e
    have hq : cutAt [mcut7] mhk7F args M = some (v, M') := hq
    unfold cutAt at hq
    split at hq
    · rename_i hf
      cases hq
      exact cut_sound (acall_sound mixedS mhk6_ok 1000) mcut7_ok hf s hg hv
    · have hq : mhk7F args M = some (v, M') := hq
      unfold mhk7F at hq
      split at hq
      · rename_i h e'
        refine mhk6_ok 8 args M v M' ?_ ρ w vs s hg hv
        show (mhk6 8).bind (fun h => h args M) = some (v, M')
        rw [e']
        exact hq
      · exact acall_sound mixedS mhk6_ok 1000 8 args M v M' hq ρ w vs s hg hv
  · have e2 : mhk7 f = mhk6 f := by
      unfold mhk7
      split
      · exact absurd rfl e
      · rfl
    have hq : (mhk7 f).bind (fun h => h args M) = some (v, M') := hq
    rw [e2] at hq
    exact mhk6_ok f args M v M' hq ρ w vs s hg hv

theorem mhk8_ok : HookOk Tryz.prog mhk8 := by
  intro f args M v M' hq ρ w vs s hg hv
  by_cases e : f = 26
  · subst e
    have hq : cutAt [mcut8] mhk8F args M = some (v, M') := hq
    unfold cutAt at hq
    split at hq
    · rename_i hf
      cases hq
      exact cut_sound (acall_sound mixedS mhk7_ok 1000) mcut8_ok hf s hg hv
    · have hq : mhk8F args M = some (v, M') := hq
      unfold mhk8F at hq
      split at hq
      · rename_i h e'
        refine mhk7_ok 26 args M v M' ?_ ρ w vs s hg hv
        show (mhk7 26).bind (fun h => h args M) = some (v, M')
        rw [e']
        exact hq
      · exact acall_sound mixedS mhk7_ok 1000 26 args M v M' hq ρ w vs s hg hv
  · have e2 : mhk8 f = mhk7 f := by
      unfold mhk8
      split
      · exact absurd rfl e
      · rfl
    have hq : (mhk8 f).bind (fun h => h args M) = some (v, M') := hq
    rw [e2] at hq
    exact mhk7_ok f args M v M' hq ρ w vs s hg hv

theorem mhk9_ok : HookOk Tryz.prog mhk9 := by
  intro f args M v M' hq ρ w vs s hg hv
  by_cases e : f = 9
  · subst e
    have hq : cutAt [mcut9] mhk9F args M = some (v, M') := hq
    unfold cutAt at hq
    split at hq
    · rename_i hf
      cases hq
      exact cut_sound (acall_sound mixedS mhk8_ok 1000) mcut9_ok hf s hg hv
    · have hq : mhk9F args M = some (v, M') := hq
      unfold mhk9F at hq
      split at hq
      · rename_i h e'
        refine mhk8_ok 9 args M v M' ?_ ρ w vs s hg hv
        show (mhk8 9).bind (fun h => h args M) = some (v, M')
        rw [e']
        exact hq
      · exact acall_sound mixedS mhk8_ok 1000 9 args M v M' hq ρ w vs s hg hv
  · have e2 : mhk9 f = mhk8 f := by
      unfold mhk9
      split
      · exact absurd rfl e
      · rfl
    have hq : (mhk9 f).bind (fun h => h args M) = some (v, M') := hq
    rw [e2] at hq
    exact mhk8_ok f args M v M' hq ρ w vs s hg hv

end Go.Proofs.YtkmfndahppabiaaGreatDoor
