/-
  The hooks are sound. Printed by wip/tool/mkcuts5.py.
-/
import Derived.Test.YthpcopfahkcdoaaGreatDoorCut1
import Derived.Test.YthpcopfahkcdoaaGreatDoorCut2
import Derived.Test.YthpcopfahkcdoaaGreatDoorCut3
import Derived.Test.YthpcopfahkcdoaaGreatDoorCut4
namespace Go.Proofs.YthpcopfahkcdoaaGreatDoor
open Go Go.Ab Go.Proofs
set_option linter.unusedVariables false
set_option maxRecDepth 100000

theorem hk1_ok : HookOk Tryz.prog hk1 := by
  intro f args M v M' hq ρ w vs s hg hv
  by_cases e : f = 10
  · subst e
    have hq : cutAt [cut1] hk1F args M = some (v, M') := hq
    unfold cutAt at hq
    split at hq
    · rename_i hf
      cases hq
      exact cut_sound (acall_sound mixedS hkB_ok 400) cut1_ok hf s hg hv
    · have hq : hk1F args M = some (v, M') := hq
      unfold hk1F at hq
      split at hq
      · rename_i h e'
        refine hkB_ok 10 args M v M' ?_ ρ w vs s hg hv
        show (hkB 10).bind (fun h => h args M) = some (v, M')
        rw [e']
        exact hq
      · exact acall_sound mixedS hkB_ok 400 10 args M v M' hq ρ w vs s hg hv
  · have e2 : hk1 f = hkB f := by
      unfold hk1
      split
      · exact absurd rfl e
      · rfl
    have hq : (hk1 f).bind (fun h => h args M) = some (v, M') := hq
    rw [e2] at hq
    exact hkB_ok f args M v M' hq ρ w vs s hg hv

theorem hk2_ok : HookOk Tryz.prog hk2 := by
  intro f args M v M' hq ρ w vs s hg hv
  by_cases e : f = 29
  · subst e
    have hq : cutAt [cut2] hk2F args M = some (v, M') := hq
    unfold cutAt at hq
    split at hq
    · rename_i hf
      cases hq
      exact cut_sound (acall_sound mixedS hk1_ok 400) cut2_ok hf s hg hv
    · have hq : hk2F args M = some (v, M') := hq
      unfold hk2F at hq
      split at hq
      · rename_i h e'
        refine hk1_ok 29 args M v M' ?_ ρ w vs s hg hv
        show (hk1 29).bind (fun h => h args M) = some (v, M')
        rw [e']
        exact hq
      · exact acall_sound mixedS hk1_ok 400 29 args M v M' hq ρ w vs s hg hv
  · have e2 : hk2 f = hk1 f := by
      unfold hk2
      split
      · exact absurd rfl e
      · rfl
    have hq : (hk2 f).bind (fun h => h args M) = some (v, M') := hq
    rw [e2] at hq
    exact hk1_ok f args M v M' hq ρ w vs s hg hv

theorem hk3_ok : HookOk Tryz.prog hk3 := by
  intro f args M v M' hq ρ w vs s hg hv
  by_cases e : f = 5
  · subst e
    have hq : cutAt [cut3] hk3F args M = some (v, M') := hq
    unfold cutAt at hq
    split at hq
    · rename_i hf
      cases hq
      exact cut_sound (acall_sound mixedS hk2_ok 400) cut3_ok hf s hg hv
    · have hq : hk3F args M = some (v, M') := hq
      unfold hk3F at hq
      split at hq
      · rename_i h e'
        refine hk2_ok 5 args M v M' ?_ ρ w vs s hg hv
        show (hk2 5).bind (fun h => h args M) = some (v, M')
        rw [e']
        exact hq
      · exact acall_sound mixedS hk2_ok 400 5 args M v M' hq ρ w vs s hg hv
  · have e2 : hk3 f = hk2 f := by
      unfold hk3
      split
      · exact absurd rfl e
      · rfl
    have hq : (hk3 f).bind (fun h => h args M) = some (v, M') := hq
    rw [e2] at hq
    exact hk2_ok f args M v M' hq ρ w vs s hg hv

theorem hk4_ok : HookOk Tryz.prog hk4 := by
  intro f args M v M' hq ρ w vs s hg hv
  by_cases e : f = 5
  · subst e
    have hq : cutAt [cut4] hk4F args M = some (v, M') := hq
    unfold cutAt at hq
    split at hq
    · rename_i hf
      cases hq
      exact cut_sound (acall_sound mixedS hk3_ok 400) cut4_ok hf s hg hv
    · have hq : hk4F args M = some (v, M') := hq
      unfold hk4F at hq
      split at hq
      · rename_i h e'
        refine hk3_ok 5 args M v M' ?_ ρ w vs s hg hv
        show (hk3 5).bind (fun h => h args M) = some (v, M')
        rw [e']
        exact hq
      · exact acall_sound mixedS hk3_ok 400 5 args M v M' hq ρ w vs s hg hv
  · have e2 : hk4 f = hk3 f := by
      unfold hk4
      split
      · exact absurd rfl e
      · rfl
    have hq : (hk4 f).bind (fun h => h args M) = some (v, M') := hq
    rw [e2] at hq
    exact hk3_ok f args M v M' hq ρ w vs s hg hv

theorem hk5_ok : HookOk Tryz.prog hk5 := by
  intro f args M v M' hq ρ w vs s hg hv
  by_cases e : f = 4
  · subst e
    have hq : cutAt [cut5] hk5F args M = some (v, M') := hq
    unfold cutAt at hq
    split at hq
    · rename_i hf
      cases hq
      exact cut_sound (acall_sound mixedS hk4_ok 400) cut5_ok hf s hg hv
    · have hq : hk5F args M = some (v, M') := hq
      unfold hk5F at hq
      split at hq
      · rename_i h e'
        refine hk4_ok 4 args M v M' ?_ ρ w vs s hg hv
        show (hk4 4).bind (fun h => h args M) = some (v, M')
        rw [e']
        exact hq
      · exact acall_sound mixedS hk4_ok 400 4 args M v M' hq ρ w vs s hg hv
  · have e2 : hk5 f = hk4 f := by
      unfold hk5
      split
      · exact absurd rfl e
      · rfl
    have hq : (hk5 f).bind (fun h => h args M) = some (v, M') := hq
    rw [e2] at hq
    exact hk4_ok f args M v M' hq ρ w vs s hg hv

end Go.Proofs.YthpcopfahkcdoaaGreatDoor
