/-
  The hooks are sound. Printed by wip/tool/mkcuts5.py.
-/
import Derived.Test.YtjgionikigpdmaaGreatDoorCut1
import Derived.Test.YtjgionikigpdmaaGreatDoorCut2
import Derived.Test.YtjgionikigpdmaaGreatDoorCut3
import Derived.Test.YtjgionikigpdmaaGreatDoorCut4
import Derived.Test.YtjgionikigpdmaaGreatDoorCut5
import Derived.Test.YtjgionikigpdmaaGreatDoorCut6
namespace Go.Proofs.YtjgionikigpdmaaGreatDoor
open Go Go.Ab Go.Proofs
set_option linter.unusedVariables false
set_option maxRecDepth 100000

theorem hk1_ok : HookOk Tryz.prog hk1 := by
  intro f args M v M' hq ρ w vs s hg hv
  by_cases e : f = 40
  · subst e
    have hq : cutAt [cut1] hk1F args M = some (v, M') := hq
    unfold cutAt at hq
    split at hq
    · rename_i hf
      cases hq
      exact cut_sound (acall_sound mixedS hkB_ok 1000) cut1_ok hf s hg hv
    · have hq : hk1F args M = some (v, M') := hq
      unfold hk1F at hq
      split at hq
      · rename_i h e'
        refine hkB_ok 40 args M v M' ?_ ρ w vs s hg hv
        show (hkB 40).bind (fun h => h args M) = some (v, M')
        rw [e']
        exact hq
      · exact acall_sound mixedS hkB_ok 1000 40 args M v M' hq ρ w vs s hg hv
  · have e2 : hk1 f = hkB f := by
      unfold hk1
      split
      · exact absurd rfl e
      · rfl
    have hq : (hk1 f).bind (fun h => h args M) = some (v, M') := hq
    rw [e2] at hq
    exact hkB_ok f args M v M' hq ρ w vs s hg hv

theorem hk2_ok : HookOk Tryz.prog hk2 := by
  intro f args M v M' hq ρ w vs s hg hv
  by_cases e : f = 41
  · subst e
    have hq : cutAt [cut2] hk2F args M = some (v, M') := hq
    unfold cutAt at hq
    split at hq
    · rename_i hf
      cases hq
      exact cut_sound (acall_sound mixedS hk1_ok 1000) cut2_ok hf s hg hv
    · have hq : hk2F args M = some (v, M') := hq
      unfold hk2F at hq
      split at hq
      · rename_i h e'
        refine hk1_ok 41 args M v M' ?_ ρ w vs s hg hv
        show (hk1 41).bind (fun h => h args M) = some (v, M')
        rw [e']
        exact hq
      · exact acall_sound mixedS hk1_ok 1000 41 args M v M' hq ρ w vs s hg hv
  · have e2 : hk2 f = hk1 f := by
      unfold hk2
      split
      · exact absurd rfl e
      · rfl
    have hq : (hk2 f).bind (fun h => h args M) = some (v, M') := hq
    rw [e2] at hq
    exact hk1_ok f args M v M' hq ρ w vs s hg hv

theorem hk3_ok : HookOk Tryz.prog hk3 := by
  intro f args M v M' hq ρ w vs s hg hv
  by_cases e : f = 21
  · subst e
    have hq : cutAt [cut3] hk3F args M = some (v, M') := hq
    unfold cutAt at hq
    split at hq
    · rename_i hf
      cases hq
      exact cut_sound (acall_sound mixedS hk2_ok 1000) cut3_ok hf s hg hv
    · have hq : hk3F args M = some (v, M') := hq
      unfold hk3F at hq
      split at hq
      · rename_i h e'
        refine hk2_ok 21 args M v M' ?_ ρ w vs s hg hv
        show (hk2 21).bind (fun h => h args M) = some (v, M')
        rw [e']
        exact hq
      · exact acall_sound mixedS hk2_ok 1000 21 args M v M' hq ρ w vs s hg hv
  · have e2 : hk3 f = hk2 f := by
      unfold hk3
      split
      · exact absurd rfl e
      · rfl
    have hq : (hk3 f).bind (fun h => h args M) = some (v, M') := hq
    rw [e2] at hq
    exact hk2_ok f args M v M' hq ρ w vs s hg hv

theorem hk4_ok : HookOk Tryz.prog hk4 := by
  intro f args M v M' hq ρ w vs s hg hv
  by_cases e : f = 23
  · subst e
    have hq : cutAt [cut4] hk4F args M = some (v, M') := hq
    unfold cutAt at hq
    split at hq
    · rename_i hf
      cases hq
      exact cut_sound (acall_sound mixedS hk3_ok 1000) cut4_ok hf s hg hv
    · have hq : hk4F args M = some (v, M') := hq
      unfold hk4F at hq
      split at hq
      · rename_i h e'
        refine hk3_ok 23 args M v M' ?_ ρ w vs s hg hv
        show (hk3 23).bind (fun h => h args M) = some (v, M')
        rw [e']
        exact hq
      · exact acall_sound mixedS hk3_ok 1000 23 args M v M' hq ρ w vs s hg hv
  · have e2 : hk4 f = hk3 f := by
      unfold hk4
      split
      · exact absurd rfl e
      · rfl
    have hq : (hk4 f).bind (fun h => h args M) = some (v, M') := hq
    rw [e2] at hq
    exact hk3_ok f args M v M' hq ρ w vs s hg hv

theorem hk5_ok : HookOk Tryz.prog hk5 := by
  intro f args M v M' hq ρ w vs s hg hv
  by_cases e : f = 222
  · subst e
    have hq : cutAt [cut5] hk5F args M = some (v, M') := hq
    unfold cutAt at hq
    split at hq
    · rename_i hf
      cases hq
      exact cut_sound (acall_sound mixedS hk4_ok 1000) cut5_ok hf s hg hv
    · have hq : hk5F args M = some (v, M') := hq
      unfold hk5F at hq
      split at hq
      · rename_i h e'
        refine hk4_ok 222 args M v M' ?_ ρ w vs s hg hv
        show (hk4 222).bind (fun h => h args M) = some (v, M')
        rw [e']
        exact hq
      · exact acall_sound mixedS hk4_ok 1000 222 args M v M' hq ρ w vs s hg hv
  · have e2 : hk5 f = hk4 f := by
      unfold hk5
      split
      · exact absurd rfl e
      · rfl
    have hq : (hk5 f).bind (fun h => h args M) = some (v, M') := hq
    rw [e2] at hq
    exact hk4_ok f args M v M' hq ρ w vs s hg hv

theorem hk6_ok : HookOk Tryz.prog hk6 := by
  intro f args M v M' hq ρ w vs s hg hv
  by_cases e : f = 178
  · subst e
    have hq : cutAt [cut6] hk6F args M = some (v, M') := hq
    unfold cutAt at hq
    split at hq
    · rename_i hf
      cases hq
      exact cut_sound (acall_sound mixedS hk5_ok 1000) cut6_ok hf s hg hv
    · have hq : hk6F args M = some (v, M') := hq
      unfold hk6F at hq
      split at hq
      · rename_i h e'
        refine hk5_ok 178 args M v M' ?_ ρ w vs s hg hv
        show (hk5 178).bind (fun h => h args M) = some (v, M')
        rw [e']
        exact hq
      · exact acall_sound mixedS hk5_ok 1000 178 args M v M' hq ρ w vs s hg hv
  · have e2 : hk6 f = hk5 f := by
      unfold hk6
      split
      · exact absurd rfl e
      · rfl
    have hq : (hk6 f).bind (fun h => h args M) = some (v, M') := hq
    rw [e2] at hq
    exact hk5_ok f args M v M' hq ρ w vs s hg hv

theorem hk7_ok : HookOk Tryz.prog hk7 := by
  intro f args M v M' hq ρ w vs s hg hv
  by_cases e : f = 46
  · subst e
    have hq : cutAt [cut7] hk7F args M = some (v, M') := hq
    unfold cutAt at hq
    split at hq
    · rename_i hf
      cases hq
      exact cut_sound (acall_sound mixedS hk6_ok 1000) cut7_ok hf s hg hv
    · have hq : hk7F args M = some (v, M') := hq
      unfold hk7F at hq
      split at hq
      · rename_i h e'
        refine hk6_ok 46 args M v M' ?_ ρ w vs s hg hv
        show (hk6 46).bind (fun h => h args M) = some (v, M')
        rw [e']
        exact hq
      · exact acall_sound mixedS hk6_ok 1000 46 args M v M' hq ρ w vs s hg hv
  · have e2 : hk7 f = hk6 f := by
      unfold hk7
      split
      · exact absurd rfl e
      · rfl
    have hq : (hk7 f).bind (fun h => h args M) = some (v, M') := hq
    rw [e2] at hq
    exact hk6_ok f args M v M' hq ρ w vs s hg hv

theorem hk8_ok : HookOk Tryz.prog hk8 := by
  intro f args M v M' hq ρ w vs s hg hv
  by_cases e : f = 18
  · subst e
    have hq : cutAt [cut8] hk8F args M = some (v, M') := hq
    unfold cutAt at hq
    split at hq
    · rename_i hf
      cases hq
      exact cut_sound (acall_sound mixedS hk7_ok 1000) cut8_ok hf s hg hv
    · have hq : hk8F args M = some (v, M') := hq
      unfold hk8F at hq
      split at hq
      · rename_i h e'
        refine hk7_ok 18 args M v M' ?_ ρ w vs s hg hv
        show (hk7 18).bind (fun h => h args M) = some (v, M')
        rw [e']
        exact hq
      · exact acall_sound mixedS hk7_ok 1000 18 args M v M' hq ρ w vs s hg hv
  · have e2 : hk8 f = hk7 f := by
      unfold hk8
      split
      · exact absurd rfl e
      · rfl
    have hq : (hk8 f).bind (fun h => h args M) = some (v, M') := hq
    rw [e2] at hq
    exact hk7_ok f args M v M' hq ρ w vs s hg hv

theorem hk9_ok : HookOk Tryz.prog hk9 := by
  intro f args M v M' hq ρ w vs s hg hv
  by_cases e : f = 23
  · subst e
    have hq : cutAt [cut9] hk9F args M = some (v, M') := hq
    unfold cutAt at hq
    split at hq
    · rename_i hf
      cases hq
      exact cut_sound (acall_sound mixedS hk8_ok 1000) cut9_ok hf s hg hv
    · have hq : hk9F args M = some (v, M') := hq
      unfold hk9F at hq
      split at hq
      · rename_i h e'
        refine hk8_ok 23 args M v M' ?_ ρ w vs s hg hv
        show (hk8 23).bind (fun h => h args M) = some (v, M')
        rw [e']
        exact hq
      · exact acall_sound mixedS hk8_ok 1000 23 args M v M' hq ρ w vs s hg hv
  · have e2 : hk9 f = hk8 f := by
      unfold hk9
      split
      · exact absurd rfl e
      · rfl
    have hq : (hk9 f).bind (fun h => h args M) = some (v, M') := hq
    rw [e2] at hq
    exact hk8_ok f args M v M' hq ρ w vs s hg hv

theorem hk10_ok : HookOk Tryz.prog hk10 := by
  intro f args M v M' hq ρ w vs s hg hv
  by_cases e : f = 222
  · subst e
    have hq : cutAt [cut10] hk10F args M = some (v, M') := hq
    unfold cutAt at hq
    split at hq
    · rename_i hf
      cases hq
      exact cut_sound (acall_sound mixedS hk9_ok 1000) cut10_ok hf s hg hv
    · have hq : hk10F args M = some (v, M') := hq
      unfold hk10F at hq
      split at hq
      · rename_i h e'
        refine hk9_ok 222 args M v M' ?_ ρ w vs s hg hv
        show (hk9 222).bind (fun h => h args M) = some (v, M')
        rw [e']
        exact hq
      · exact acall_sound mixedS hk9_ok 1000 222 args M v M' hq ρ w vs s hg hv
  · have e2 : hk10 f = hk9 f := by
      unfold hk10
      split
      · exact absurd rfl e
      · rfl
    have hq : (hk10 f).bind (fun h => h args M) = some (v, M') := hq
    rw [e2] at hq
    exact hk9_ok f args M v M' hq ρ w vs s hg hv

theorem hk11_ok : HookOk Tryz.prog hk11 := by
  intro f args M v M' hq ρ w vs s hg hv
  by_cases e : f = 48
  · subst e
    have hq : cutAt [cut11] hk11F args M = some (v, M') := hq
    unfold cutAt at hq
    split at hq
    · rename_i hf
      cases hq
      exact cut_sound (acall_sound mixedS hk10_ok 1000) cut11_ok hf s hg hv
    · have hq : hk11F args M = some (v, M') := hq
      unfold hk11F at hq
      split at hq
      · rename_i h e'
        refine hk10_ok 48 args M v M' ?_ ρ w vs s hg hv
        show (hk10 48).bind (fun h => h args M) = some (v, M')
        rw [e']
        exact hq
      · exact acall_sound mixedS hk10_ok 1000 48 args M v M' hq ρ w vs s hg hv
  · have e2 : hk11 f = hk10 f := by
      unfold hk11
      split
      · exact absurd rfl e
      · rfl
    have hq : (hk11 f).bind (fun h => h args M) = some (v, M') := hq
    rw [e2] at hq
    exact hk10_ok f args M v M' hq ρ w vs s hg hv

theorem hk12_ok : HookOk Tryz.prog hk12 := by
  intro f args M v M' hq ρ w vs s hg hv
  by_cases e : f = 18
  · subst e
    have hq : cutAt [cut12] hk12F args M = some (v, M') := hq
    unfold cutAt at hq
    split at hq
    · rename_i hf
      cases hq
      exact cut_sound (acall_sound mixedS hk11_ok 1000) cut12_ok hf s hg hv
    · have hq : hk12F args M = some (v, M') := hq
      unfold hk12F at hq
      split at hq
      · rename_i h e'
        refine hk11_ok 18 args M v M' ?_ ρ w vs s hg hv
        show (hk11 18).bind (fun h => h args M) = some (v, M')
        rw [e']
        exact hq
      · exact acall_sound mixedS hk11_ok 1000 18 args M v M' hq ρ w vs s hg hv
  · have e2 : hk12 f = hk11 f := by
      unfold hk12
      split
      · exact absurd rfl e
      · rfl
    have hq : (hk12 f).bind (fun h => h args M) = some (v, M') := hq
    rw [e2] at hq
    exact hk11_ok f args M v M' hq ρ w vs s hg hv

theorem hk13_ok : HookOk Tryz.prog hk13 := by
  intro f args M v M' hq ρ w vs s hg hv
  by_cases e : f = 23
  · subst e
    have hq : cutAt [cut13] hk13F args M = some (v, M') := hq
    unfold cutAt at hq
    split at hq
    · rename_i hf
      cases hq
      exact cut_sound (acall_sound mixedS hk12_ok 1000) cut13_ok hf s hg hv
    · have hq : hk13F args M = some (v, M') := hq
      unfold hk13F at hq
      split at hq
      · rename_i h e'
        refine hk12_ok 23 args M v M' ?_ ρ w vs s hg hv
        show (hk12 23).bind (fun h => h args M) = some (v, M')
        rw [e']
        exact hq
      · exact acall_sound mixedS hk12_ok 1000 23 args M v M' hq ρ w vs s hg hv
  · have e2 : hk13 f = hk12 f := by
      unfold hk13
      split
      · exact absurd rfl e
      · rfl
    have hq : (hk13 f).bind (fun h => h args M) = some (v, M') := hq
    rw [e2] at hq
    exact hk12_ok f args M v M' hq ρ w vs s hg hv

theorem hk14_ok : HookOk Tryz.prog hk14 := by
  intro f args M v M' hq ρ w vs s hg hv
  by_cases e : f = 222
  · subst e
    have hq : cutAt [cut14] hk14F args M = some (v, M') := hq
    unfold cutAt at hq
    split at hq
    · rename_i hf
      cases hq
      exact cut_sound (acall_sound mixedS hk13_ok 1000) cut14_ok hf s hg hv
    · have hq : hk14F args M = some (v, M') := hq
      unfold hk14F at hq
      split at hq
      · rename_i h e'
        refine hk13_ok 222 args M v M' ?_ ρ w vs s hg hv
        show (hk13 222).bind (fun h => h args M) = some (v, M')
        rw [e']
        exact hq
      · exact acall_sound mixedS hk13_ok 1000 222 args M v M' hq ρ w vs s hg hv
  · have e2 : hk14 f = hk13 f := by
      unfold hk14
      split
      · exact absurd rfl e
      · rfl
    have hq : (hk14 f).bind (fun h => h args M) = some (v, M') := hq
    rw [e2] at hq
    exact hk13_ok f args M v M' hq ρ w vs s hg hv

theorem hk15_ok : HookOk Tryz.prog hk15 := by
  intro f args M v M' hq ρ w vs s hg hv
  by_cases e : f = 86
  · subst e
    have hq : cutAt [cut15] hk15F args M = some (v, M') := hq
    unfold cutAt at hq
    split at hq
    · rename_i hf
      cases hq
      exact cut_sound (acall_sound mixedS hk14_ok 1000) cut15_ok hf s hg hv
    · have hq : hk15F args M = some (v, M') := hq
      unfold hk15F at hq
      split at hq
      · rename_i h e'
        refine hk14_ok 86 args M v M' ?_ ρ w vs s hg hv
        show (hk14 86).bind (fun h => h args M) = some (v, M')
        rw [e']
        exact hq
      · exact acall_sound mixedS hk14_ok 1000 86 args M v M' hq ρ w vs s hg hv
  · have e2 : hk15 f = hk14 f := by
      unfold hk15
      split
      · exact absurd rfl e
      · rfl
    have hq : (hk15 f).bind (fun h => h args M) = some (v, M') := hq
    rw [e2] at hq
    exact hk14_ok f args M v M' hq ρ w vs s hg hv

theorem hk16_ok : HookOk Tryz.prog hk16 := by
  intro f args M v M' hq ρ w vs s hg hv
  by_cases e : f = 18
  · subst e
    have hq : cutAt [cut16] hk16F args M = some (v, M') := hq
    unfold cutAt at hq
    split at hq
    · rename_i hf
      cases hq
      exact cut_sound (acall_sound mixedS hk15_ok 1000) cut16_ok hf s hg hv
    · have hq : hk16F args M = some (v, M') := hq
      unfold hk16F at hq
      split at hq
      · rename_i h e'
        refine hk15_ok 18 args M v M' ?_ ρ w vs s hg hv
        show (hk15 18).bind (fun h => h args M) = some (v, M')
        rw [e']
        exact hq
      · exact acall_sound mixedS hk15_ok 1000 18 args M v M' hq ρ w vs s hg hv
  · have e2 : hk16 f = hk15 f := by
      unfold hk16
      split
      · exact absurd rfl e
      · rfl
    have hq : (hk16 f).bind (fun h => h args M) = some (v, M') := hq
    rw [e2] at hq
    exact hk15_ok f args M v M' hq ρ w vs s hg hv

theorem hk17_ok : HookOk Tryz.prog hk17 := by
  intro f args M v M' hq ρ w vs s hg hv
  by_cases e : f = 23
  · subst e
    have hq : cutAt [cut17] hk17F args M = some (v, M') := hq
    unfold cutAt at hq
    split at hq
    · rename_i hf
      cases hq
      exact cut_sound (acall_sound mixedS hk16_ok 1000) cut17_ok hf s hg hv
    · have hq : hk17F args M = some (v, M') := hq
      unfold hk17F at hq
      split at hq
      · rename_i h e'
        refine hk16_ok 23 args M v M' ?_ ρ w vs s hg hv
        show (hk16 23).bind (fun h => h args M) = some (v, M')
        rw [e']
        exact hq
      · exact acall_sound mixedS hk16_ok 1000 23 args M v M' hq ρ w vs s hg hv
  · have e2 : hk17 f = hk16 f := by
      unfold hk17
      split
      · exact absurd rfl e
      · rfl
    have hq : (hk17 f).bind (fun h => h args M) = some (v, M') := hq
    rw [e2] at hq
    exact hk16_ok f args M v M' hq ρ w vs s hg hv

theorem hk18_ok : HookOk Tryz.prog hk18 := by
  intro f args M v M' hq ρ w vs s hg hv
  by_cases e : f = 222
  · subst e
    have hq : cutAt [cut18] hk18F args M = some (v, M') := hq
    unfold cutAt at hq
    split at hq
    · rename_i hf
      cases hq
      exact cut_sound (acall_sound mixedS hk17_ok 1000) cut18_ok hf s hg hv
    · have hq : hk18F args M = some (v, M') := hq
      unfold hk18F at hq
      split at hq
      · rename_i h e'
        refine hk17_ok 222 args M v M' ?_ ρ w vs s hg hv
        show (hk17 222).bind (fun h => h args M) = some (v, M')
        rw [e']
        exact hq
      · exact acall_sound mixedS hk17_ok 1000 222 args M v M' hq ρ w vs s hg hv
  · have e2 : hk18 f = hk17 f := by
      unfold hk18
      split
      · exact absurd rfl e
      · rfl
    have hq : (hk18 f).bind (fun h => h args M) = some (v, M') := hq
    rw [e2] at hq
    exact hk17_ok f args M v M' hq ρ w vs s hg hv

theorem hk19_ok : HookOk Tryz.prog hk19 := by
  intro f args M v M' hq ρ w vs s hg hv
  by_cases e : f = 48
  · subst e
    have hq : cutAt [cut19] hk19F args M = some (v, M') := hq
    unfold cutAt at hq
    split at hq
    · rename_i hf
      cases hq
      exact cut_sound (acall_sound mixedS hk18_ok 1000) cut19_ok hf s hg hv
    · have hq : hk19F args M = some (v, M') := hq
      unfold hk19F at hq
      split at hq
      · rename_i h e'
        refine hk18_ok 48 args M v M' ?_ ρ w vs s hg hv
        show (hk18 48).bind (fun h => h args M) = some (v, M')
        rw [e']
        exact hq
      · exact acall_sound mixedS hk18_ok 1000 48 args M v M' hq ρ w vs s hg hv
  · have e2 : hk19 f = hk18 f := by
      unfold hk19
      split
      · exact absurd rfl e
      · rfl
    have hq : (hk19 f).bind (fun h => h args M) = some (v, M') := hq
    rw [e2] at hq
    exact hk18_ok f args M v M' hq ρ w vs s hg hv

theorem hk20_ok : HookOk Tryz.prog hk20 := by
  intro f args M v M' hq ρ w vs s hg hv
  by_cases e : f = 18
  · subst e
    have hq : cutAt [cut20] hk20F args M = some (v, M') := hq
    unfold cutAt at hq
    split at hq
    · rename_i hf
      cases hq
      exact cut_sound (acall_sound mixedS hk19_ok 1000) cut20_ok hf s hg hv
    · have hq : hk20F args M = some (v, M') := hq
      unfold hk20F at hq
      split at hq
      · rename_i h e'
        refine hk19_ok 18 args M v M' ?_ ρ w vs s hg hv
        show (hk19 18).bind (fun h => h args M) = some (v, M')
        rw [e']
        exact hq
      · exact acall_sound mixedS hk19_ok 1000 18 args M v M' hq ρ w vs s hg hv
  · have e2 : hk20 f = hk19 f := by
      unfold hk20
      split
      · exact absurd rfl e
      · rfl
    have hq : (hk20 f).bind (fun h => h args M) = some (v, M') := hq
    rw [e2] at hq
    exact hk19_ok f args M v M' hq ρ w vs s hg hv

theorem hk21_ok : HookOk Tryz.prog hk21 := by
  intro f args M v M' hq ρ w vs s hg hv
  by_cases e : f = 23
  · subst e
    have hq : cutAt [cut21] hk21F args M = some (v, M') := hq
    unfold cutAt at hq
    split at hq
    · rename_i hf
      cases hq
      exact cut_sound (acall_sound mixedS hk20_ok 1000) cut21_ok hf s hg hv
    · have hq : hk21F args M = some (v, M') := hq
      unfold hk21F at hq
      split at hq
      · rename_i h e'
        refine hk20_ok 23 args M v M' ?_ ρ w vs s hg hv
        show (hk20 23).bind (fun h => h args M) = some (v, M')
        rw [e']
        exact hq
      · exact acall_sound mixedS hk20_ok 1000 23 args M v M' hq ρ w vs s hg hv
  · have e2 : hk21 f = hk20 f := by
      unfold hk21
      split
      · exact absurd rfl e
      · rfl
    have hq : (hk21 f).bind (fun h => h args M) = some (v, M') := hq
    rw [e2] at hq
    exact hk20_ok f args M v M' hq ρ w vs s hg hv

theorem hk22_ok : HookOk Tryz.prog hk22 := by
  intro f args M v M' hq ρ w vs s hg hv
  by_cases e : f = 18
  · subst e
    have hq : cutAt [cut22] hk22F args M = some (v, M') := hq
    unfold cutAt at hq
    split at hq
    · rename_i hf
      cases hq
      exact cut_sound (acall_sound mixedS hk21_ok 1000) cut22_ok hf s hg hv
    · have hq : hk22F args M = some (v, M') := hq
      unfold hk22F at hq
      split at hq
      · rename_i h e'
        refine hk21_ok 18 args M v M' ?_ ρ w vs s hg hv
        show (hk21 18).bind (fun h => h args M) = some (v, M')
        rw [e']
        exact hq
      · exact acall_sound mixedS hk21_ok 1000 18 args M v M' hq ρ w vs s hg hv
  · have e2 : hk22 f = hk21 f := by
      unfold hk22
      split
      · exact absurd rfl e
      · rfl
    have hq : (hk22 f).bind (fun h => h args M) = some (v, M') := hq
    rw [e2] at hq
    exact hk21_ok f args M v M' hq ρ w vs s hg hv

end Go.Proofs.YtjgionikigpdmaaGreatDoor
