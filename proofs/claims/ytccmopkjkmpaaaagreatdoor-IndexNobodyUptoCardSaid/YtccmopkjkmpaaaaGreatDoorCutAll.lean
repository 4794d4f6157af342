/-
  The hooks are sound. Printed by wip/tool/mkcuts5.py.
-/
import Derived.Test.YtccmopkjkmpaaaaGreatDoorCut1
import Derived.Test.YtccmopkjkmpaaaaGreatDoorCut2
import Derived.Test.YtccmopkjkmpaaaaGreatDoorCut3
import Derived.Test.YtccmopkjkmpaaaaGreatDoorCut4
import Derived.Test.YtccmopkjkmpaaaaGreatDoorCut5
import Derived.Test.YtccmopkjkmpaaaaGreatDoorCut6
namespace Go.Proofs.YtccmopkjkmpaaaaGreatDoor
open Go Go.Ab Go.Proofs
set_option linter.unusedVariables false
set_option maxRecDepth 100000

theorem hk1_ok : HookOk Tryz.prog hk1 := by
  intro f args M v M' hq ρ w vs s hg hv
  by_cases e : f = 13
  · subst e
    have hq : cutAt [cut1] hk1F args M = some (v, M') := hq
    unfold cutAt at hq
    split at hq
    · rename_i hf
      cases hq
      exact cut_sound (acall_sound mixedS (offH_ok hkI_ok 13) 1000) cut1_ok hf s hg hv
    · have hq : hk1F args M = some (v, M') := hq
      unfold hk1F at hq
      split at hq
      · rename_i h e'
        refine hkI_ok 13 args M v M' ?_ ρ w vs s hg hv
        show (hkI 13).bind (fun h => h args M) = some (v, M')
        rw [e']
        exact hq
      · exact acall_sound mixedS hkI_ok 1000 13 args M v M' hq ρ w vs s hg hv
  · have e2 : hk1 f = hkI f := by
      unfold hk1
      split
      · exact absurd rfl e
      · rfl
    have hq : (hk1 f).bind (fun h => h args M) = some (v, M') := hq
    rw [e2] at hq
    exact hkI_ok f args M v M' hq ρ w vs s hg hv

theorem hk2_ok : HookOk Tryz.prog hk2 := by
  intro f args M v M' hq ρ w vs s hg hv
  by_cases e : f = 146
  · subst e
    have hq : cutAt [cut2] hk2F args M = some (v, M') := hq
    unfold cutAt at hq
    split at hq
    · rename_i hf
      cases hq
      exact cut_sound (acall_sound mixedS (offH_ok hk1_ok 146) 1000) cut2_ok hf s hg hv
    · have hq : hk2F args M = some (v, M') := hq
      unfold hk2F at hq
      split at hq
      · rename_i h e'
        refine hk1_ok 146 args M v M' ?_ ρ w vs s hg hv
        show (hk1 146).bind (fun h => h args M) = some (v, M')
        rw [e']
        exact hq
      · exact acall_sound mixedS hk1_ok 1000 146 args M v M' hq ρ w vs s hg hv
  · have e2 : hk2 f = hk1 f := by
      unfold hk2
      split
      · exact absurd rfl e
      · rfl
    have hq : (hk2 f).bind (fun h => h args M) = some (v, M') := hq
    rw [e2] at hq
    exact hk1_ok f args M v M' hq ρ w vs s hg hv

theorem hk3_ok : HookOk Tryz.prog hk3 := by
  intro f args M v M' hq ρ w vs s hg hv
  by_cases e : f = 4
  · subst e
    have hq : cutAt [cut3] hk3F args M = some (v, M') := hq
    unfold cutAt at hq
    split at hq
    · rename_i hf
      cases hq
      exact cut_sound (acall_sound mixedS (offH_ok hk2_ok 4) 1000) cut3_ok hf s hg hv
    · have hq : hk3F args M = some (v, M') := hq
      unfold hk3F at hq
      split at hq
      · rename_i h e'
        refine hk2_ok 4 args M v M' ?_ ρ w vs s hg hv
        show (hk2 4).bind (fun h => h args M) = some (v, M')
        rw [e']
        exact hq
      · exact acall_sound mixedS hk2_ok 1000 4 args M v M' hq ρ w vs s hg hv
  · have e2 : hk3 f = hk2 f := by
      unfold hk3
      split
      · exact absurd rfl e
      · rfl
    have hq : (hk3 f).bind (fun h => h args M) = some (v, M') := hq
    rw [e2] at hq
    exact hk2_ok f args M v M' hq ρ w vs s hg hv

theorem hk4_ok : HookOk Tryz.prog hk4 := by
  intro f args M v M' hq ρ w vs s hg hv
  by_cases e : f = 146
  · subst e
    have hq : cutAt [cut4] hk4F args M = some (v, M') := hq
    unfold cutAt at hq
    split at hq
    · rename_i hf
      cases hq
      exact cut_sound (acall_sound mixedS (offH_ok hk3_ok 146) 1000) cut4_ok hf s hg hv
    · have hq : hk4F args M = some (v, M') := hq
      unfold hk4F at hq
      split at hq
      · rename_i h e'
        refine hk3_ok 146 args M v M' ?_ ρ w vs s hg hv
        show (hk3 146).bind (fun h => h args M) = some (v, M')
        rw [e']
        exact hq
      · exact acall_sound mixedS hk3_ok 1000 146 args M v M' hq ρ w vs s hg hv
  · have e2 : hk4 f = hk3 f := by
      unfold hk4
      split
      · exact absurd rfl e
      · rfl
    have hq : (hk4 f).bind (fun h => h args M) = some (v, M') := hq
    rw [e2] at hq
    exact hk3_ok f args M v M' hq ρ w vs s hg hv

theorem hk5_ok : HookOk Tryz.prog hk5 := by
  intro f args M v M' hq ρ w vs s hg hv
  by_cases e : f = 148
  · subst e
    have hq : cutAt [cut5] hk5F args M = some (v, M') := hq
    unfold cutAt at hq
    split at hq
    · rename_i hf
      cases hq
      exact cut_sound (acall_sound mixedS (offH_ok hk4_ok 148) 1000) cut5_ok hf s hg hv
    · have hq : hk5F args M = some (v, M') := hq
      unfold hk5F at hq
      split at hq
      · rename_i h e'
        refine hk4_ok 148 args M v M' ?_ ρ w vs s hg hv
        show (hk4 148).bind (fun h => h args M) = some (v, M')
        rw [e']
        exact hq
      · exact acall_sound mixedS hk4_ok 1000 148 args M v M' hq ρ w vs s hg hv
  · have e2 : hk5 f = hk4 f := by
      unfold hk5
      split
      · exact absurd rfl e
      · rfl
    have hq : (hk5 f).bind (fun h => h args M) = some (v, M') := hq
    rw [e2] at hq
    exact hk4_ok f args M v M' hq ρ w vs s hg hv

theorem hk6_ok : HookOk Tryz.prog hk6 := by
  intro f args M v M' hq ρ w vs s hg hv
  by_cases e : f = 76
  · subst e
    have hq : cutAt [cut6] hk6F args M = some (v, M') := hq
    unfold cutAt at hq
    split at hq
    · rename_i hf
      cases hq
      exact cut_sound (acall_sound mixedS (offH_ok hk5_ok 76) 1000) cut6_ok hf s hg hv
    · have hq : hk6F args M = some (v, M') := hq
      unfold hk6F at hq
      split at hq
      · rename_i h e'
        refine hk5_ok 76 args M v M' ?_ ρ w vs s hg hv
        show (hk5 76).bind (fun h => h args M) = some (v, M')
        rw [e']
        exact hq
      · exact acall_sound mixedS hk5_ok 1000 76 args M v M' hq ρ w vs s hg hv
  · have e2 : hk6 f = hk5 f := by
      unfold hk6
      split
      · exact absurd rfl e
      · rfl
    have hq : (hk6 f).bind (fun h => h args M) = some (v, M') := hq
    rw [e2] at hq
    exact hk5_ok f args M v M' hq ρ w vs s hg hv

theorem hk7_ok : HookOk Tryz.prog hk7 := by
  intro f args M v M' hq ρ w vs s hg hv
  by_cases e : f = 28
  · subst e
    have hq : cutAt [cut7] hk7F args M = some (v, M') := hq
    unfold cutAt at hq
    split at hq
    · rename_i hf
      cases hq
      exact cut_sound (acall_sound mixedS (offH_ok hk6_ok 28) 1000) cut7_ok hf s hg hv
    · have hq : hk7F args M = some (v, M') := hq
      unfold hk7F at hq
      split at hq
      · rename_i h e'
        refine hk6_ok 28 args M v M' ?_ ρ w vs s hg hv
        show (hk6 28).bind (fun h => h args M) = some (v, M')
        rw [e']
        exact hq
      · exact acall_sound mixedS hk6_ok 1000 28 args M v M' hq ρ w vs s hg hv
  · have e2 : hk7 f = hk6 f := by
      unfold hk7
      split
      · exact absurd rfl e
      · rfl
    have hq : (hk7 f).bind (fun h => h args M) = some (v, M') := hq
    rw [e2] at hq
    exact hk6_ok f args M v M' hq ρ w vs s hg hv

theorem hk8_ok : HookOk Tryz.prog hk8 := by
  intro f args M v M' hq ρ w vs s hg hv
  by_cases e : f = 146
  · subst e
    have hq : cutAt [cut8] hk8F args M = some (v, M') := hq
    unfold cutAt at hq
    split at hq
    · rename_i hf
      cases hq
      exact cut_sound (acall_sound mixedS (offH_ok hk7_ok 146) 1000) cut8_ok hf s hg hv
    · have hq : hk8F args M = some (v, M') := hq
      unfold hk8F at hq
      split at hq
      · rename_i h e'
        refine hk7_ok 146 args M v M' ?_ ρ w vs s hg hv
        show (hk7 146).bind (fun h => h args M) = some (v, M')
        rw [e']
        exact hq
      · exact acall_sound mixedS hk7_ok 1000 146 args M v M' hq ρ w vs s hg hv
  · have e2 : hk8 f = hk7 f := by
      unfold hk8
      split
      · exact absurd rfl e
      · rfl
    have hq : (hk8 f).bind (fun h => h args M) = some (v, M') := hq
    rw [e2] at hq
    exact hk7_ok f args M v M' hq ρ w vs s hg hv

theorem hk9_ok : HookOk Tryz.prog hk9 := by
  intro f args M v M' hq ρ w vs s hg hv
  by_cases e : f = 148
  · subst e
    have hq : cutAt [cut9] hk9F args M = some (v, M') := hq
    unfold cutAt at hq
    split at hq
    · rename_i hf
      cases hq
      exact cut_sound (acall_sound mixedS (offH_ok hk8_ok 148) 1000) cut9_ok hf s hg hv
    · have hq : hk9F args M = some (v, M') := hq
      unfold hk9F at hq
      split at hq
      · rename_i h e'
        refine hk8_ok 148 args M v M' ?_ ρ w vs s hg hv
        show (hk8 148).bind (fun h => h args M) = some (v, M')
        rw [e']
        exact hq
      · exact acall_sound mixedS hk8_ok 1000 148 args M v M' hq ρ w vs s hg hv
  · have e2 : hk9 f = hk8 f := by
      unfold hk9
      split
      · exact absurd rfl e
      · rfl
    have hq : (hk9 f).bind (fun h => h args M) = some (v, M') := hq
    rw [e2] at hq
    exact hk8_ok f args M v M' hq ρ w vs s hg hv

theorem hk10_ok : HookOk Tryz.prog hk10 := by
  intro f args M v M' hq ρ w vs s hg hv
  by_cases e : f = 76
  · subst e
    have hq : cutAt [cut10] hk10F args M = some (v, M') := hq
    unfold cutAt at hq
    split at hq
    · rename_i hf
      cases hq
      exact cut_sound (acall_sound mixedS (offH_ok hk9_ok 76) 1000) cut10_ok hf s hg hv
    · have hq : hk10F args M = some (v, M') := hq
      unfold hk10F at hq
      split at hq
      · rename_i h e'
        refine hk9_ok 76 args M v M' ?_ ρ w vs s hg hv
        show (hk9 76).bind (fun h => h args M) = some (v, M')
        rw [e']
        exact hq
      · exact acall_sound mixedS hk9_ok 1000 76 args M v M' hq ρ w vs s hg hv
  · have e2 : hk10 f = hk9 f := by
      unfold hk10
      split
      · exact absurd rfl e
      · rfl
    have hq : (hk10 f).bind (fun h => h args M) = some (v, M') := hq
    rw [e2] at hq
    exact hk9_ok f args M v M' hq ρ w vs s hg hv

theorem hk11_ok : HookOk Tryz.prog hk11 := by
  intro f args M v M' hq ρ w vs s hg hv
  by_cases e : f = 28
  · subst e
    have hq : cutAt [cut11] hk11F args M = some (v, M') := hq
    unfold cutAt at hq
    split at hq
    · rename_i hf
      cases hq
      exact cut_sound (acall_sound mixedS (offH_ok hk10_ok 28) 1000) cut11_ok hf s hg hv
    · have hq : hk11F args M = some (v, M') := hq
      unfold hk11F at hq
      split at hq
      · rename_i h e'
        refine hk10_ok 28 args M v M' ?_ ρ w vs s hg hv
        show (hk10 28).bind (fun h => h args M) = some (v, M')
        rw [e']
        exact hq
      · exact acall_sound mixedS hk10_ok 1000 28 args M v M' hq ρ w vs s hg hv
  · have e2 : hk11 f = hk10 f := by
      unfold hk11
      split
      · exact absurd rfl e
      · rfl
    have hq : (hk11 f).bind (fun h => h args M) = some (v, M') := hq
    rw [e2] at hq
    exact hk10_ok f args M v M' hq ρ w vs s hg hv

theorem hk12_ok : HookOk Tryz.prog hk12 := by
  intro f args M v M' hq ρ w vs s hg hv
  by_cases e : f = 9
  · subst e
    have hq : cutAt [cut12] hk12F args M = some (v, M') := hq
    unfold cutAt at hq
    split at hq
    · rename_i hf
      cases hq
      exact cut_sound (acall_sound mixedS (offH_ok hk11_ok 9) 1000) cut12_ok hf s hg hv
    · have hq : hk12F args M = some (v, M') := hq
      unfold hk12F at hq
      split at hq
      · rename_i h e'
        refine hk11_ok 9 args M v M' ?_ ρ w vs s hg hv
        show (hk11 9).bind (fun h => h args M) = some (v, M')
        rw [e']
        exact hq
      · exact acall_sound mixedS hk11_ok 1000 9 args M v M' hq ρ w vs s hg hv
  · have e2 : hk12 f = hk11 f := by
      unfold hk12
      split
      · exact absurd rfl e
      · rfl
    have hq : (hk12 f).bind (fun h => h args M) = some (v, M') := hq
    rw [e2] at hq
    exact hk11_ok f args M v M' hq ρ w vs s hg hv

theorem hk13_ok : HookOk Tryz.prog hk13 := by
  intro f args M v M' hq ρ w vs s hg hv
  by_cases e : f = 146
  · subst e
    have hq : cutAt [cut13] hk13F args M = some (v, M') := hq
    unfold cutAt at hq
    split at hq
    · rename_i hf
      cases hq
      exact cut_sound (acall_sound mixedS (offH_ok hk12_ok 146) 1000) cut13_ok hf s hg hv
    · have hq : hk13F args M = some (v, M') := hq
      unfold hk13F at hq
      split at hq
      · rename_i h e'
        refine hk12_ok 146 args M v M' ?_ ρ w vs s hg hv
        show (hk12 146).bind (fun h => h args M) = some (v, M')
        rw [e']
        exact hq
      · exact acall_sound mixedS hk12_ok 1000 146 args M v M' hq ρ w vs s hg hv
  · have e2 : hk13 f = hk12 f := by
      unfold hk13
      split
      · exact absurd rfl e
      · rfl
    have hq : (hk13 f).bind (fun h => h args M) = some (v, M') := hq
    rw [e2] at hq
    exact hk12_ok f args M v M' hq ρ w vs s hg hv

theorem hk14_ok : HookOk Tryz.prog hk14 := by
  intro f args M v M' hq ρ w vs s hg hv
  by_cases e : f = 4
  · subst e
    have hq : cutAt [cut14] hk14F args M = some (v, M') := hq
    unfold cutAt at hq
    split at hq
    · rename_i hf
      cases hq
      exact cut_sound (acall_sound mixedS (offH_ok hk13_ok 4) 1000) cut14_ok hf s hg hv
    · have hq : hk14F args M = some (v, M') := hq
      unfold hk14F at hq
      split at hq
      · rename_i h e'
        refine hk13_ok 4 args M v M' ?_ ρ w vs s hg hv
        show (hk13 4).bind (fun h => h args M) = some (v, M')
        rw [e']
        exact hq
      · exact acall_sound mixedS hk13_ok 1000 4 args M v M' hq ρ w vs s hg hv
  · have e2 : hk14 f = hk13 f := by
      unfold hk14
      split
      · exact absurd rfl e
      · rfl
    have hq : (hk14 f).bind (fun h => h args M) = some (v, M') := hq
    rw [e2] at hq
    exact hk13_ok f args M v M' hq ρ w vs s hg hv

theorem hk15_ok : HookOk Tryz.prog hk15 := by
  intro f args M v M' hq ρ w vs s hg hv
  by_cases e : f = 146
  · subst e
    have hq : cutAt [cut15] hk15F args M = some (v, M') := hq
    unfold cutAt at hq
    split at hq
    · rename_i hf
      cases hq
      exact cut_sound (acall_sound mixedS (offH_ok hk14_ok 146) 1000) cut15_ok hf s hg hv
    · have hq : hk15F args M = some (v, M') := hq
      unfold hk15F at hq
      split at hq
      · rename_i h e'
        refine hk14_ok 146 args M v M' ?_ ρ w vs s hg hv
        show (hk14 146).bind (fun h => h args M) = some (v, M')
        rw [e']
        exact hq
      · exact acall_sound mixedS hk14_ok 1000 146 args M v M' hq ρ w vs s hg hv
  · have e2 : hk15 f = hk14 f := by
      unfold hk15
      split
      · exact absurd rfl e
      · rfl
    have hq : (hk15 f).bind (fun h => h args M) = some (v, M') := hq
    rw [e2] at hq
    exact hk14_ok f args M v M' hq ρ w vs s hg hv

theorem hk16_ok : HookOk Tryz.prog hk16 := by
  intro f args M v M' hq ρ w vs s hg hv
  by_cases e : f = 148
  · subst e
    have hq : cutAt [cut16] hk16F args M = some (v, M') := hq
    unfold cutAt at hq
    split at hq
    · rename_i hf
      cases hq
      exact cut_sound (acall_sound mixedS (offH_ok hk15_ok 148) 1000) cut16_ok hf s hg hv
    · have hq : hk16F args M = some (v, M') := hq
      unfold hk16F at hq
      split at hq
      · rename_i h e'
        refine hk15_ok 148 args M v M' ?_ ρ w vs s hg hv
        show (hk15 148).bind (fun h => h args M) = some (v, M')
        rw [e']
        exact hq
      · exact acall_sound mixedS hk15_ok 1000 148 args M v M' hq ρ w vs s hg hv
  · have e2 : hk16 f = hk15 f := by
      unfold hk16
      split
      · exact absurd rfl e
      · rfl
    have hq : (hk16 f).bind (fun h => h args M) = some (v, M') := hq
    rw [e2] at hq
    exact hk15_ok f args M v M' hq ρ w vs s hg hv

theorem hk17_ok : HookOk Tryz.prog hk17 := by
  intro f args M v M' hq ρ w vs s hg hv
  by_cases e : f = 76
  · subst e
    have hq : cutAt [cut17] hk17F args M = some (v, M') := hq
    unfold cutAt at hq
    split at hq
    · rename_i hf
      cases hq
      exact cut_sound (acall_sound mixedS (offH_ok hk16_ok 76) 1000) cut17_ok hf s hg hv
    · have hq : hk17F args M = some (v, M') := hq
      unfold hk17F at hq
      split at hq
      · rename_i h e'
        refine hk16_ok 76 args M v M' ?_ ρ w vs s hg hv
        show (hk16 76).bind (fun h => h args M) = some (v, M')
        rw [e']
        exact hq
      · exact acall_sound mixedS hk16_ok 1000 76 args M v M' hq ρ w vs s hg hv
  · have e2 : hk17 f = hk16 f := by
      unfold hk17
      split
      · exact absurd rfl e
      · rfl
    have hq : (hk17 f).bind (fun h => h args M) = some (v, M') := hq
    rw [e2] at hq
    exact hk16_ok f args M v M' hq ρ w vs s hg hv

theorem hk18_ok : HookOk Tryz.prog hk18 := by
  intro f args M v M' hq ρ w vs s hg hv
  by_cases e : f = 28
  · subst e
    have hq : cutAt [cut18] hk18F args M = some (v, M') := hq
    unfold cutAt at hq
    split at hq
    · rename_i hf
      cases hq
      exact cut_sound (acall_sound mixedS (offH_ok hk17_ok 28) 1000) cut18_ok hf s hg hv
    · have hq : hk18F args M = some (v, M') := hq
      unfold hk18F at hq
      split at hq
      · rename_i h e'
        refine hk17_ok 28 args M v M' ?_ ρ w vs s hg hv
        show (hk17 28).bind (fun h => h args M) = some (v, M')
        rw [e']
        exact hq
      · exact acall_sound mixedS hk17_ok 1000 28 args M v M' hq ρ w vs s hg hv
  · have e2 : hk18 f = hk17 f := by
      unfold hk18
      split
      · exact absurd rfl e
      · rfl
    have hq : (hk18 f).bind (fun h => h args M) = some (v, M') := hq
    rw [e2] at hq
    exact hk17_ok f args M v M' hq ρ w vs s hg hv

theorem hk19_ok : HookOk Tryz.prog hk19 := by
  intro f args M v M' hq ρ w vs s hg hv
  by_cases e : f = 146
  · subst e
    have hq : cutAt [cut19] hk19F args M = some (v, M') := hq
    unfold cutAt at hq
    split at hq
    · rename_i hf
      cases hq
      exact cut_sound (acall_sound mixedS (offH_ok hk18_ok 146) 1000) cut19_ok hf s hg hv
    · have hq : hk19F args M = some (v, M') := hq
      unfold hk19F at hq
      split at hq
      · rename_i h e'
        refine hk18_ok 146 args M v M' ?_ ρ w vs s hg hv
        show (hk18 146).bind (fun h => h args M) = some (v, M')
        rw [e']
        exact hq
      · exact acall_sound mixedS hk18_ok 1000 146 args M v M' hq ρ w vs s hg hv
  · have e2 : hk19 f = hk18 f := by
      unfold hk19
      split
      · exact absurd rfl e
      · rfl
    have hq : (hk19 f).bind (fun h => h args M) = some (v, M') := hq
    rw [e2] at hq
    exact hk18_ok f args M v M' hq ρ w vs s hg hv

theorem hk20_ok : HookOk Tryz.prog hk20 := by
  intro f args M v M' hq ρ w vs s hg hv
  by_cases e : f = 148
  · subst e
    have hq : cutAt [cut20] hk20F args M = some (v, M') := hq
    unfold cutAt at hq
    split at hq
    · rename_i hf
      cases hq
      exact cut_sound (acall_sound mixedS (offH_ok hk19_ok 148) 1000) cut20_ok hf s hg hv
    · have hq : hk20F args M = some (v, M') := hq
      unfold hk20F at hq
      split at hq
      · rename_i h e'
        refine hk19_ok 148 args M v M' ?_ ρ w vs s hg hv
        show (hk19 148).bind (fun h => h args M) = some (v, M')
        rw [e']
        exact hq
      · exact acall_sound mixedS hk19_ok 1000 148 args M v M' hq ρ w vs s hg hv
  · have e2 : hk20 f = hk19 f := by
      unfold hk20
      split
      · exact absurd rfl e
      · rfl
    have hq : (hk20 f).bind (fun h => h args M) = some (v, M') := hq
    rw [e2] at hq
    exact hk19_ok f args M v M' hq ρ w vs s hg hv

theorem hk21_ok : HookOk Tryz.prog hk21 := by
  intro f args M v M' hq ρ w vs s hg hv
  by_cases e : f = 76
  · subst e
    have hq : cutAt [cut21] hk21F args M = some (v, M') := hq
    unfold cutAt at hq
    split at hq
    · rename_i hf
      cases hq
      exact cut_sound (acall_sound mixedS (offH_ok hk20_ok 76) 1000) cut21_ok hf s hg hv
    · have hq : hk21F args M = some (v, M') := hq
      unfold hk21F at hq
      split at hq
      · rename_i h e'
        refine hk20_ok 76 args M v M' ?_ ρ w vs s hg hv
        show (hk20 76).bind (fun h => h args M) = some (v, M')
        rw [e']
        exact hq
      · exact acall_sound mixedS hk20_ok 1000 76 args M v M' hq ρ w vs s hg hv
  · have e2 : hk21 f = hk20 f := by
      unfold hk21
      split
      · exact absurd rfl e
      · rfl
    have hq : (hk21 f).bind (fun h => h args M) = some (v, M') := hq
    rw [e2] at hq
    exact hk20_ok f args M v M' hq ρ w vs s hg hv

theorem hk22_ok : HookOk Tryz.prog hk22 := by
  intro f args M v M' hq ρ w vs s hg hv
  by_cases e : f = 28
  · subst e
    have hq : cutAt [cut22] hk22F args M = some (v, M') := hq
    unfold cutAt at hq
    split at hq
    · rename_i hf
      cases hq
      exact cut_sound (acall_sound mixedS (offH_ok hk21_ok 28) 1000) cut22_ok hf s hg hv
    · have hq : hk22F args M = some (v, M') := hq
      unfold hk22F at hq
      split at hq
      · rename_i h e'
        refine hk21_ok 28 args M v M' ?_ ρ w vs s hg hv
        show (hk21 28).bind (fun h => h args M) = some (v, M')
        rw [e']
        exact hq
      · exact acall_sound mixedS hk21_ok 1000 28 args M v M' hq ρ w vs s hg hv
  · have e2 : hk22 f = hk21 f := by
      unfold hk22
      split
      · exact absurd rfl e
      · rfl
    have hq : (hk22 f).bind (fun h => h args M) = some (v, M') := hq
    rw [e2] at hq
    exact hk21_ok f args M v M' hq ρ w vs s hg hv

theorem hk23_ok : HookOk Tryz.prog hk23 := by
  intro f args M v M' hq ρ w vs s hg hv
  by_cases e : f = 9
  · subst e
    have hq : cutAt [cut23] hk23F args M = some (v, M') := hq
    unfold cutAt at hq
    split at hq
    · rename_i hf
      cases hq
      exact cut_sound (acall_sound mixedS (offH_ok hk22_ok 9) 1000) cut23_ok hf s hg hv
    · have hq : hk23F args M = some (v, M') := hq
      unfold hk23F at hq
      split at hq
      · rename_i h e'
        refine hk22_ok 9 args M v M' ?_ ρ w vs s hg hv
        show (hk22 9).bind (fun h => h args M) = some (v, M')
        rw [e']
        exact hq
      · exact acall_sound mixedS hk22_ok 1000 9 args M v M' hq ρ w vs s hg hv
  · have e2 : hk23 f = hk22 f := by
      unfold hk23
      split
      · exact absurd rfl e
      · rfl
    have hq : (hk23 f).bind (fun h => h args M) = some (v, M') := hq
    rw [e2] at hq
    exact hk22_ok f args M v M' hq ρ w vs s hg hv

theorem hk24_ok : HookOk Tryz.prog hk24 := by
  intro f args M v M' hq ρ w vs s hg hv
  by_cases e : f = 146
  · subst e
    have hq : cutAt [cut24] hk24F args M = some (v, M') := hq
    unfold cutAt at hq
    split at hq
    · rename_i hf
      cases hq
      exact cut_sound (acall_sound mixedS (offH_ok hk23_ok 146) 1000) cut24_ok hf s hg hv
    · have hq : hk24F args M = some (v, M') := hq
      unfold hk24F at hq
      split at hq
      · rename_i h e'
        refine hk23_ok 146 args M v M' ?_ ρ w vs s hg hv
        show (hk23 146).bind (fun h => h args M) = some (v, M')
        rw [e']
        exact hq
      · exact acall_sound mixedS hk23_ok 1000 146 args M v M' hq ρ w vs s hg hv
  · have e2 : hk24 f = hk23 f := by
      unfold hk24
      split
      · exact absurd rfl e
      · rfl
    have hq : (hk24 f).bind (fun h => h args M) = some (v, M') := hq
    rw [e2] at hq
    exact hk23_ok f args M v M' hq ρ w vs s hg hv

theorem hk25_ok : HookOk Tryz.prog hk25 := by
  intro f args M v M' hq ρ w vs s hg hv
  by_cases e : f = 4
  · subst e
    have hq : cutAt [cut25] hk25F args M = some (v, M') := hq
    unfold cutAt at hq
    split at hq
    · rename_i hf
      cases hq
      exact cut_sound (acall_sound mixedS (offH_ok hk24_ok 4) 1000) cut25_ok hf s hg hv
    · have hq : hk25F args M = some (v, M') := hq
      unfold hk25F at hq
      split at hq
      · rename_i h e'
        refine hk24_ok 4 args M v M' ?_ ρ w vs s hg hv
        show (hk24 4).bind (fun h => h args M) = some (v, M')
        rw [e']
        exact hq
      · exact acall_sound mixedS hk24_ok 1000 4 args M v M' hq ρ w vs s hg hv
  · have e2 : hk25 f = hk24 f := by
      unfold hk25
      split
      · exact absurd rfl e
      · rfl
    have hq : (hk25 f).bind (fun h => h args M) = some (v, M') := hq
    rw [e2] at hq
    exact hk24_ok f args M v M' hq ρ w vs s hg hv

theorem hk26_ok : HookOk Tryz.prog hk26 := by
  intro f args M v M' hq ρ w vs s hg hv
  by_cases e : f = 146
  · subst e
    have hq : cutAt [cut26] hk26F args M = some (v, M') := hq
    unfold cutAt at hq
    split at hq
    · rename_i hf
      cases hq
      exact cut_sound (acall_sound mixedS (offH_ok hk25_ok 146) 1000) cut26_ok hf s hg hv
    · have hq : hk26F args M = some (v, M') := hq
      unfold hk26F at hq
      split at hq
      · rename_i h e'
        refine hk25_ok 146 args M v M' ?_ ρ w vs s hg hv
        show (hk25 146).bind (fun h => h args M) = some (v, M')
        rw [e']
        exact hq
      · exact acall_sound mixedS hk25_ok 1000 146 args M v M' hq ρ w vs s hg hv
  · have e2 : hk26 f = hk25 f := by
      unfold hk26
      split
      · exact absurd rfl e
      · rfl
    have hq : (hk26 f).bind (fun h => h args M) = some (v, M') := hq
    rw [e2] at hq
    exact hk25_ok f args M v M' hq ρ w vs s hg hv

theorem hk27_ok : HookOk Tryz.prog hk27 := by
  intro f args M v M' hq ρ w vs s hg hv
  by_cases e : f = 148
  · subst e
    have hq : cutAt [cut27] hk27F args M = some (v, M') := hq
    unfold cutAt at hq
    split at hq
    · rename_i hf
      cases hq
      exact cut_sound (acall_sound mixedS (offH_ok hk26_ok 148) 1000) cut27_ok hf s hg hv
    · have hq : hk27F args M = some (v, M') := hq
      unfold hk27F at hq
      split at hq
      · rename_i h e'
        refine hk26_ok 148 args M v M' ?_ ρ w vs s hg hv
        show (hk26 148).bind (fun h => h args M) = some (v, M')
        rw [e']
        exact hq
      · exact acall_sound mixedS hk26_ok 1000 148 args M v M' hq ρ w vs s hg hv
  · have e2 : hk27 f = hk26 f := by
      unfold hk27
      split
      · exact absurd rfl e
      · rfl
    have hq : (hk27 f).bind (fun h => h args M) = some (v, M') := hq
    rw [e2] at hq
    exact hk26_ok f args M v M' hq ρ w vs s hg hv

theorem hk28_ok : HookOk Tryz.prog hk28 := by
  intro f args M v M' hq ρ w vs s hg hv
  by_cases e : f = 76
  · subst e
    have hq : cutAt [cut28] hk28F args M = some (v, M') := hq
    unfold cutAt at hq
    split at hq
    · rename_i hf
      cases hq
      exact cut_sound (acall_sound mixedS (offH_ok hk27_ok 76) 1000) cut28_ok hf s hg hv
    · have hq : hk28F args M = some (v, M') := hq
      unfold hk28F at hq
      split at hq
      · rename_i h e'
        refine hk27_ok 76 args M v M' ?_ ρ w vs s hg hv
        show (hk27 76).bind (fun h => h args M) = some (v, M')
        rw [e']
        exact hq
      · exact acall_sound mixedS hk27_ok 1000 76 args M v M' hq ρ w vs s hg hv
  · have e2 : hk28 f = hk27 f := by
      unfold hk28
      split
      · exact absurd rfl e
      · rfl
    have hq : (hk28 f).bind (fun h => h args M) = some (v, M') := hq
    rw [e2] at hq
    exact hk27_ok f args M v M' hq ρ w vs s hg hv

theorem hk29_ok : HookOk Tryz.prog hk29 := by
  intro f args M v M' hq ρ w vs s hg hv
  by_cases e : f = 28
  · subst e
    have hq : cutAt [cut29] hk29F args M = some (v, M') := hq
    unfold cutAt at hq
    split at hq
    · rename_i hf
      cases hq
      exact cut_sound (acall_sound mixedS (offH_ok hk28_ok 28) 1000) cut29_ok hf s hg hv
    · have hq : hk29F args M = some (v, M') := hq
      unfold hk29F at hq
      split at hq
      · rename_i h e'
        refine hk28_ok 28 args M v M' ?_ ρ w vs s hg hv
        show (hk28 28).bind (fun h => h args M) = some (v, M')
        rw [e']
        exact hq
      · exact acall_sound mixedS hk28_ok 1000 28 args M v M' hq ρ w vs s hg hv
  · have e2 : hk29 f = hk28 f := by
      unfold hk29
      split
      · exact absurd rfl e
      · rfl
    have hq : (hk29 f).bind (fun h => h args M) = some (v, M') := hq
    rw [e2] at hq
    exact hk28_ok f args M v M' hq ρ w vs s hg hv

theorem hk30_ok : HookOk Tryz.prog hk30 := by
  intro f args M v M' hq ρ w vs s hg hv
  by_cases e : f = 146
  · subst e
    have hq : cutAt [cut30] hk30F args M = some (v, M') := hq
    unfold cutAt at hq
    split at hq
    · rename_i hf
      cases hq
      exact cut_sound (acall_sound mixedS (offH_ok hk29_ok 146) 1000) cut30_ok hf s hg hv
    · have hq : hk30F args M = some (v, M') := hq
      unfold hk30F at hq
      split at hq
      · rename_i h e'
        refine hk29_ok 146 args M v M' ?_ ρ w vs s hg hv
        show (hk29 146).bind (fun h => h args M) = some (v, M')
        rw [e']
        exact hq
      · exact acall_sound mixedS hk29_ok 1000 146 args M v M' hq ρ w vs s hg hv
  · have e2 : hk30 f = hk29 f := by
      unfold hk30
      split
      · exact absurd rfl e
      · rfl
    have hq : (hk30 f).bind (fun h => h args M) = some (v, M') := hq
    rw [e2] at hq
    exact hk29_ok f args M v M' hq ρ w vs s hg hv

theorem hk31_ok : HookOk Tryz.prog hk31 := by
  intro f args M v M' hq ρ w vs s hg hv
  by_cases e : f = 148
  · subst e
    have hq : cutAt [cut31] hk31F args M = some (v, M') := hq
    unfold cutAt at hq
    split at hq
    · rename_i hf
      cases hq
      exact cut_sound (acall_sound mixedS (offH_ok hk30_ok 148) 1000) cut31_ok hf s hg hv
    · have hq : hk31F args M = some (v, M') := hq
      unfold hk31F at hq
      split at hq
      · rename_i h e'
        refine hk30_ok 148 args M v M' ?_ ρ w vs s hg hv
        show (hk30 148).bind (fun h => h args M) = some (v, M')
        rw [e']
        exact hq
      · exact acall_sound mixedS hk30_ok 1000 148 args M v M' hq ρ w vs s hg hv
  · have e2 : hk31 f = hk30 f := by
      unfold hk31
      split
      · exact absurd rfl e
      · rfl
    have hq : (hk31 f).bind (fun h => h args M) = some (v, M') := hq
    rw [e2] at hq
    exact hk30_ok f args M v M' hq ρ w vs s hg hv

theorem hk32_ok : HookOk Tryz.prog hk32 := by
  intro f args M v M' hq ρ w vs s hg hv
  by_cases e : f = 76
  · subst e
    have hq : cutAt [cut32] hk32F args M = some (v, M') := hq
    unfold cutAt at hq
    split at hq
    · rename_i hf
      cases hq
      exact cut_sound (acall_sound mixedS (offH_ok hk31_ok 76) 1000) cut32_ok hf s hg hv
    · have hq : hk32F args M = some (v, M') := hq
      unfold hk32F at hq
      split at hq
      · rename_i h e'
        refine hk31_ok 76 args M v M' ?_ ρ w vs s hg hv
        show (hk31 76).bind (fun h => h args M) = some (v, M')
        rw [e']
        exact hq
      · exact acall_sound mixedS hk31_ok 1000 76 args M v M' hq ρ w vs s hg hv
  · have e2 : hk32 f = hk31 f := by
      unfold hk32
      split
      · exact absurd rfl e
      · rfl
    have hq : (hk32 f).bind (fun h => h args M) = some (v, M') := hq
    rw [e2] at hq
    exact hk31_ok f args M v M' hq ρ w vs s hg hv

theorem hk33_ok : HookOk Tryz.prog hk33 := by
  intro f args M v M' hq ρ w vs s hg hv
  by_cases e : f = 28
  · subst e
    have hq : cutAt [cut33] hk33F args M = some (v, M') := hq
    unfold cutAt at hq
    split at hq
    · rename_i hf
      cases hq
      exact cut_sound (acall_sound mixedS (offH_ok hk32_ok 28) 1000) cut33_ok hf s hg hv
    · have hq : hk33F args M = some (v, M') := hq
      unfold hk33F at hq
      split at hq
      · rename_i h e'
        refine hk32_ok 28 args M v M' ?_ ρ w vs s hg hv
        show (hk32 28).bind (fun h => h args M) = some (v, M')
        rw [e']
        exact hq
      · exact acall_sound mixedS hk32_ok 1000 28 args M v M' hq ρ w vs s hg hv
  · have e2 : hk33 f = hk32 f := by
      unfold hk33
      split
      · exact absurd rfl e
      · rfl
    have hq : (hk33 f).bind (fun h => h args M) = some (v, M') := hq
    rw [e2] at hq
    exact hk32_ok f args M v M' hq ρ w vs s hg hv

theorem hk34_ok : HookOk Tryz.prog hk34 := by
  intro f args M v M' hq ρ w vs s hg hv
  by_cases e : f = 146
  · subst e
    have hq : cutAt [cut34] hk34F args M = some (v, M') := hq
    unfold cutAt at hq
    split at hq
    · rename_i hf
      cases hq
      exact cut_sound (acall_sound mixedS (offH_ok hk33_ok 146) 1000) cut34_ok hf s hg hv
    · have hq : hk34F args M = some (v, M') := hq
      unfold hk34F at hq
      split at hq
      · rename_i h e'
        refine hk33_ok 146 args M v M' ?_ ρ w vs s hg hv
        show (hk33 146).bind (fun h => h args M) = some (v, M')
        rw [e']
        exact hq
      · exact acall_sound mixedS hk33_ok 1000 146 args M v M' hq ρ w vs s hg hv
  · have e2 : hk34 f = hk33 f := by
      unfold hk34
      split
      · exact absurd rfl e
      · rfl
    have hq : (hk34 f).bind (fun h => h args M) = some (v, M') := hq
    rw [e2] at hq
    exact hk33_ok f args M v M' hq ρ w vs s hg hv

theorem hk35_ok : HookOk Tryz.prog hk35 := by
  intro f args M v M' hq ρ w vs s hg hv
  by_cases e : f = 148
  · subst e
    have hq : cutAt [cut35] hk35F args M = some (v, M') := hq
    unfold cutAt at hq
    split at hq
    · rename_i hf
      cases hq
      exact cut_sound (acall_sound mixedS (offH_ok hk34_ok 148) 1000) cut35_ok hf s hg hv
    · have hq : hk35F args M = some (v, M') := hq
      unfold hk35F at hq
      split at hq
      · rename_i h e'
        refine hk34_ok 148 args M v M' ?_ ρ w vs s hg hv
        show (hk34 148).bind (fun h => h args M) = some (v, M')
        rw [e']
        exact hq
      · exact acall_sound mixedS hk34_ok 1000 148 args M v M' hq ρ w vs s hg hv
  · have e2 : hk35 f = hk34 f := by
      unfold hk35
      split
      · exact absurd rfl e
      · rfl
    have hq : (hk35 f).bind (fun h => h args M) = some (v, M') := hq
    rw [e2] at hq
    exact hk34_ok f args M v M' hq ρ w vs s hg hv

theorem hk36_ok : HookOk Tryz.prog hk36 := by
  intro f args M v M' hq ρ w vs s hg hv
  by_cases e : f = 76
  · subst e
    have hq : cutAt [cut36] hk36F args M = some (v, M') := hq
    unfold cutAt at hq
    split at hq
    · rename_i hf
      cases hq
      exact cut_sound (acall_sound mixedS (offH_ok hk35_ok 76) 1000) cut36_ok hf s hg hv
    · have hq : hk36F args M = some (v, M') := hq
      unfold hk36F at hq
      split at hq
      · rename_i h e'
        refine hk35_ok 76 args M v M' ?_ ρ w vs s hg hv
        show (hk35 76).bind (fun h => h args M) = some (v, M')
        rw [e']
        exact hq
      · exact acall_sound mixedS hk35_ok 1000 76 args M v M' hq ρ w vs s hg hv
  · have e2 : hk36 f = hk35 f := by
      unfold hk36
      split
      · exact absurd rfl e
      · rfl
    have hq : (hk36 f).bind (fun h => h args M) = some (v, M') := hq
    rw [e2] at hq
    exact hk35_ok f args M v M' hq ρ w vs s hg hv

theorem hk37_ok : HookOk Tryz.prog hk37 := by
  intro f args M v M' hq ρ w vs s hg hv
  by_cases e : f = 25
  · subst e
    have hq : cutAt [cut37] hk37F args M = some (v, M') := hq
    unfold cutAt at hq
    split at hq
    · rename_i hf
      cases hq
      exact cut_sound (acall_sound mixedS (offH_ok hk36_ok 25) 1000) cut37_ok hf s hg hv
    · have hq : hk37F args M = some (v, M') := hq
      unfold hk37F at hq
      split at hq
      · rename_i h e'
        refine hk36_ok 25 args M v M' ?_ ρ w vs s hg hv
        show (hk36 25).bind (fun h => h args M) = some (v, M')
        rw [e']
        exact hq
      · exact acall_sound mixedS hk36_ok 1000 25 args M v M' hq ρ w vs s hg hv
  · have e2 : hk37 f = hk36 f := by
      unfold hk37
      split
      · exact absurd rfl e
      · rfl
    have hq : (hk37 f).bind (fun h => h args M) = some (v, M') := hq
    rw [e2] at hq
    exact hk36_ok f args M v M' hq ρ w vs s hg hv

theorem hk38_ok : HookOk Tryz.prog hk38 := by
  intro f args M v M' hq ρ w vs s hg hv
  by_cases e : f = 9
  · subst e
    have hq : cutAt [cut38] hk38F args M = some (v, M') := hq
    unfold cutAt at hq
    split at hq
    · rename_i hf
      cases hq
      exact cut_sound (acall_sound mixedS (offH_ok hk37_ok 9) 1000) cut38_ok hf s hg hv
    · have hq : hk38F args M = some (v, M') := hq
      unfold hk38F at hq
      split at hq
      · rename_i h e'
        refine hk37_ok 9 args M v M' ?_ ρ w vs s hg hv
        show (hk37 9).bind (fun h => h args M) = some (v, M')
        rw [e']
        exact hq
      · exact acall_sound mixedS hk37_ok 1000 9 args M v M' hq ρ w vs s hg hv
  · have e2 : hk38 f = hk37 f := by
      unfold hk38
      split
      · exact absurd rfl e
      · rfl
    have hq : (hk38 f).bind (fun h => h args M) = some (v, M') := hq
    rw [e2] at hq
    exact hk37_ok f args M v M' hq ρ w vs s hg hv

theorem hk39_ok : HookOk Tryz.prog hk39 := by
  intro f args M v M' hq ρ w vs s hg hv
  by_cases e : f = 146
  · subst e
    have hq : cutAt [cut39] hk39F args M = some (v, M') := hq
    unfold cutAt at hq
    split at hq
    · rename_i hf
      cases hq
      exact cut_sound (acall_sound mixedS (offH_ok hk38_ok 146) 1000) cut39_ok hf s hg hv
    · have hq : hk39F args M = some (v, M') := hq
      unfold hk39F at hq
      split at hq
      · rename_i h e'
        refine hk38_ok 146 args M v M' ?_ ρ w vs s hg hv
        show (hk38 146).bind (fun h => h args M) = some (v, M')
        rw [e']
        exact hq
      · exact acall_sound mixedS hk38_ok 1000 146 args M v M' hq ρ w vs s hg hv
  · have e2 : hk39 f = hk38 f := by
      unfold hk39
      split
      · exact absurd rfl e
      · rfl
    have hq : (hk39 f).bind (fun h => h args M) = some (v, M') := hq
    rw [e2] at hq
    exact hk38_ok f args M v M' hq ρ w vs s hg hv

theorem hk40_ok : HookOk Tryz.prog hk40 := by
  intro f args M v M' hq ρ w vs s hg hv
  by_cases e : f = 146
  · subst e
    have hq : cutAt [cut40] hk40F args M = some (v, M') := hq
    unfold cutAt at hq
    split at hq
    · rename_i hf
      cases hq
      exact cut_sound (acall_sound mixedS (offH_ok hk39_ok 146) 1000) cut40_ok hf s hg hv
    · have hq : hk40F args M = some (v, M') := hq
      unfold hk40F at hq
      split at hq
      · rename_i h e'
        refine hk39_ok 146 args M v M' ?_ ρ w vs s hg hv
        show (hk39 146).bind (fun h => h args M) = some (v, M')
        rw [e']
        exact hq
      · exact acall_sound mixedS hk39_ok 1000 146 args M v M' hq ρ w vs s hg hv
  · have e2 : hk40 f = hk39 f := by
      unfold hk40
      split
      · exact absurd rfl e
      · rfl
    have hq : (hk40 f).bind (fun h => h args M) = some (v, M') := hq
    rw [e2] at hq
    exact hk39_ok f args M v M' hq ρ w vs s hg hv

theorem hk41_ok : HookOk Tryz.prog hk41 := by
  intro f args M v M' hq ρ w vs s hg hv
  by_cases e : f = 4
  · subst e
    have hq : cutAt [cut41] hk41F args M = some (v, M') := hq
    unfold cutAt at hq
    split at hq
    · rename_i hf
      cases hq
      exact cut_sound (acall_sound mixedS (offH_ok hk40_ok 4) 1000) cut41_ok hf s hg hv
    · have hq : hk41F args M = some (v, M') := hq
      unfold hk41F at hq
      split at hq
      · rename_i h e'
        refine hk40_ok 4 args M v M' ?_ ρ w vs s hg hv
        show (hk40 4).bind (fun h => h args M) = some (v, M')
        rw [e']
        exact hq
      · exact acall_sound mixedS hk40_ok 1000 4 args M v M' hq ρ w vs s hg hv
  · have e2 : hk41 f = hk40 f := by
      unfold hk41
      split
      · exact absurd rfl e
      · rfl
    have hq : (hk41 f).bind (fun h => h args M) = some (v, M') := hq
    rw [e2] at hq
    exact hk40_ok f args M v M' hq ρ w vs s hg hv

theorem hk42_ok : HookOk Tryz.prog hk42 := by
  intro f args M v M' hq ρ w vs s hg hv
  by_cases e : f = 20
  · subst e
    have hq : cutAt [cut42] hk42F args M = some (v, M') := hq
    unfold cutAt at hq
    split at hq
    · rename_i hf
      cases hq
      exact cut_sound (acall_sound mixedS (offH_ok hk41_ok 20) 1000) cut42_ok hf s hg hv
    · have hq : hk42F args M = some (v, M') := hq
      unfold hk42F at hq
      split at hq
      · rename_i h e'
        refine hk41_ok 20 args M v M' ?_ ρ w vs s hg hv
        show (hk41 20).bind (fun h => h args M) = some (v, M')
        rw [e']
        exact hq
      · exact acall_sound mixedS hk41_ok 1000 20 args M v M' hq ρ w vs s hg hv
  · have e2 : hk42 f = hk41 f := by
      unfold hk42
      split
      · exact absurd rfl e
      · rfl
    have hq : (hk42 f).bind (fun h => h args M) = some (v, M') := hq
    rw [e2] at hq
    exact hk41_ok f args M v M' hq ρ w vs s hg hv

theorem hk43_ok : HookOk Tryz.prog hk43 := by
  intro f args M v M' hq ρ w vs s hg hv
  by_cases e : f = 5
  · subst e
    have hq : cutAt [cut43] hk43F args M = some (v, M') := hq
    unfold cutAt at hq
    split at hq
    · rename_i hf
      cases hq
      exact cut_sound (acall_sound mixedS (offH_ok hk42_ok 5) 1000) cut43_ok hf s hg hv
    · have hq : hk43F args M = some (v, M') := hq
      unfold hk43F at hq
      split at hq
      · rename_i h e'
        refine hk42_ok 5 args M v M' ?_ ρ w vs s hg hv
        show (hk42 5).bind (fun h => h args M) = some (v, M')
        rw [e']
        exact hq
      · exact acall_sound mixedS hk42_ok 1000 5 args M v M' hq ρ w vs s hg hv
  · have e2 : hk43 f = hk42 f := by
      unfold hk43
      split
      · exact absurd rfl e
      · rfl
    have hq : (hk43 f).bind (fun h => h args M) = some (v, M') := hq
    rw [e2] at hq
    exact hk42_ok f args M v M' hq ρ w vs s hg hv

theorem hk44_ok : HookOk Tryz.prog hk44 := by
  intro f args M v M' hq ρ w vs s hg hv
  by_cases e : f = 146
  · subst e
    have hq : cutAt [cut44] hk44F args M = some (v, M') := hq
    unfold cutAt at hq
    split at hq
    · rename_i hf
      cases hq
      exact cut_sound (acall_sound mixedS (offH_ok hk43_ok 146) 1000) cut44_ok hf s hg hv
    · have hq : hk44F args M = some (v, M') := hq
      unfold hk44F at hq
      split at hq
      · rename_i h e'
        refine hk43_ok 146 args M v M' ?_ ρ w vs s hg hv
        show (hk43 146).bind (fun h => h args M) = some (v, M')
        rw [e']
        exact hq
      · exact acall_sound mixedS hk43_ok 1000 146 args M v M' hq ρ w vs s hg hv
  · have e2 : hk44 f = hk43 f := by
      unfold hk44
      split
      · exact absurd rfl e
      · rfl
    have hq : (hk44 f).bind (fun h => h args M) = some (v, M') := hq
    rw [e2] at hq
    exact hk43_ok f args M v M' hq ρ w vs s hg hv

theorem hk45_ok : HookOk Tryz.prog hk45 := by
  intro f args M v M' hq ρ w vs s hg hv
  by_cases e : f = 146
  · subst e
    have hq : cutAt [cut45] hk45F args M = some (v, M') := hq
    unfold cutAt at hq
    split at hq
    · rename_i hf
      cases hq
      exact cut_sound (acall_sound mixedS (offH_ok hk44_ok 146) 1000) cut45_ok hf s hg hv
    · have hq : hk45F args M = some (v, M') := hq
      unfold hk45F at hq
      split at hq
      · rename_i h e'
        refine hk44_ok 146 args M v M' ?_ ρ w vs s hg hv
        show (hk44 146).bind (fun h => h args M) = some (v, M')
        rw [e']
        exact hq
      · exact acall_sound mixedS hk44_ok 1000 146 args M v M' hq ρ w vs s hg hv
  · have e2 : hk45 f = hk44 f := by
      unfold hk45
      split
      · exact absurd rfl e
      · rfl
    have hq : (hk45 f).bind (fun h => h args M) = some (v, M') := hq
    rw [e2] at hq
    exact hk44_ok f args M v M' hq ρ w vs s hg hv

theorem hk46_ok : HookOk Tryz.prog hk46 := by
  intro f args M v M' hq ρ w vs s hg hv
  by_cases e : f = 4
  · subst e
    have hq : cutAt [cut46] hk46F args M = some (v, M') := hq
    unfold cutAt at hq
    split at hq
    · rename_i hf
      cases hq
      exact cut_sound (acall_sound mixedS (offH_ok hk45_ok 4) 1000) cut46_ok hf s hg hv
    · have hq : hk46F args M = some (v, M') := hq
      unfold hk46F at hq
      split at hq
      · rename_i h e'
        refine hk45_ok 4 args M v M' ?_ ρ w vs s hg hv
        show (hk45 4).bind (fun h => h args M) = some (v, M')
        rw [e']
        exact hq
      · exact acall_sound mixedS hk45_ok 1000 4 args M v M' hq ρ w vs s hg hv
  · have e2 : hk46 f = hk45 f := by
      unfold hk46
      split
      · exact absurd rfl e
      · rfl
    have hq : (hk46 f).bind (fun h => h args M) = some (v, M') := hq
    rw [e2] at hq
    exact hk45_ok f args M v M' hq ρ w vs s hg hv

theorem hk47_ok : HookOk Tryz.prog hk47 := by
  intro f args M v M' hq ρ w vs s hg hv
  by_cases e : f = 146
  · subst e
    have hq : cutAt [cut47] hk47F args M = some (v, M') := hq
    unfold cutAt at hq
    split at hq
    · rename_i hf
      cases hq
      exact cut_sound (acall_sound mixedS (offH_ok hk46_ok 146) 1000) cut47_ok hf s hg hv
    · have hq : hk47F args M = some (v, M') := hq
      unfold hk47F at hq
      split at hq
      · rename_i h e'
        refine hk46_ok 146 args M v M' ?_ ρ w vs s hg hv
        show (hk46 146).bind (fun h => h args M) = some (v, M')
        rw [e']
        exact hq
      · exact acall_sound mixedS hk46_ok 1000 146 args M v M' hq ρ w vs s hg hv
  · have e2 : hk47 f = hk46 f := by
      unfold hk47
      split
      · exact absurd rfl e
      · rfl
    have hq : (hk47 f).bind (fun h => h args M) = some (v, M') := hq
    rw [e2] at hq
    exact hk46_ok f args M v M' hq ρ w vs s hg hv

theorem hk48_ok : HookOk Tryz.prog hk48 := by
  intro f args M v M' hq ρ w vs s hg hv
  by_cases e : f = 4
  · subst e
    have hq : cutAt [cut48] hk48F args M = some (v, M') := hq
    unfold cutAt at hq
    split at hq
    · rename_i hf
      cases hq
      exact cut_sound (acall_sound mixedS (offH_ok hk47_ok 4) 1000) cut48_ok hf s hg hv
    · have hq : hk48F args M = some (v, M') := hq
      unfold hk48F at hq
      split at hq
      · rename_i h e'
        refine hk47_ok 4 args M v M' ?_ ρ w vs s hg hv
        show (hk47 4).bind (fun h => h args M) = some (v, M')
        rw [e']
        exact hq
      · exact acall_sound mixedS hk47_ok 1000 4 args M v M' hq ρ w vs s hg hv
  · have e2 : hk48 f = hk47 f := by
      unfold hk48
      split
      · exact absurd rfl e
      · rfl
    have hq : (hk48 f).bind (fun h => h args M) = some (v, M') := hq
    rw [e2] at hq
    exact hk47_ok f args M v M' hq ρ w vs s hg hv

theorem hk49_ok : HookOk Tryz.prog hk49 := by
  intro f args M v M' hq ρ w vs s hg hv
  by_cases e : f = 146
  · subst e
    have hq : cutAt [cut49] hk49F args M = some (v, M') := hq
    unfold cutAt at hq
    split at hq
    · rename_i hf
      cases hq
      exact cut_sound (acall_sound mixedS (offH_ok hk48_ok 146) 1000) cut49_ok hf s hg hv
    · have hq : hk49F args M = some (v, M') := hq
      unfold hk49F at hq
      split at hq
      · rename_i h e'
        refine hk48_ok 146 args M v M' ?_ ρ w vs s hg hv
        show (hk48 146).bind (fun h => h args M) = some (v, M')
        rw [e']
        exact hq
      · exact acall_sound mixedS hk48_ok 1000 146 args M v M' hq ρ w vs s hg hv
  · have e2 : hk49 f = hk48 f := by
      unfold hk49
      split
      · exact absurd rfl e
      · rfl
    have hq : (hk49 f).bind (fun h => h args M) = some (v, M') := hq
    rw [e2] at hq
    exact hk48_ok f args M v M' hq ρ w vs s hg hv

theorem hk50_ok : HookOk Tryz.prog hk50 := by
  intro f args M v M' hq ρ w vs s hg hv
  by_cases e : f = 4
  · subst e
    have hq : cutAt [cut50] hk50F args M = some (v, M') := hq
    unfold cutAt at hq
    split at hq
    · rename_i hf
      cases hq
      exact cut_sound (acall_sound mixedS (offH_ok hk49_ok 4) 1000) cut50_ok hf s hg hv
    · have hq : hk50F args M = some (v, M') := hq
      unfold hk50F at hq
      split at hq
      · rename_i h e'
        refine hk49_ok 4 args M v M' ?_ ρ w vs s hg hv
        show (hk49 4).bind (fun h => h args M) = some (v, M')
        rw [e']
        exact hq
      · exact acall_sound mixedS hk49_ok 1000 4 args M v M' hq ρ w vs s hg hv
  · have e2 : hk50 f = hk49 f := by
      unfold hk50
      split
      · exact absurd rfl e
      · rfl
    have hq : (hk50 f).bind (fun h => h args M) = some (v, M') := hq
    rw [e2] at hq
    exact hk49_ok f args M v M' hq ρ w vs s hg hv

theorem hk51_ok : HookOk Tryz.prog hk51 := by
  intro f args M v M' hq ρ w vs s hg hv
  by_cases e : f = 20
  · subst e
    have hq : cutAt [cut51] hk51F args M = some (v, M') := hq
    unfold cutAt at hq
    split at hq
    · rename_i hf
      cases hq
      exact cut_sound (acall_sound mixedS (offH_ok hk50_ok 20) 1000) cut51_ok hf s hg hv
    · have hq : hk51F args M = some (v, M') := hq
      unfold hk51F at hq
      split at hq
      · rename_i h e'
        refine hk50_ok 20 args M v M' ?_ ρ w vs s hg hv
        show (hk50 20).bind (fun h => h args M) = some (v, M')
        rw [e']
        exact hq
      · exact acall_sound mixedS hk50_ok 1000 20 args M v M' hq ρ w vs s hg hv
  · have e2 : hk51 f = hk50 f := by
      unfold hk51
      split
      · exact absurd rfl e
      · rfl
    have hq : (hk51 f).bind (fun h => h args M) = some (v, M') := hq
    rw [e2] at hq
    exact hk50_ok f args M v M' hq ρ w vs s hg hv

end Go.Proofs.YtccmopkjkmpaaaaGreatDoor
