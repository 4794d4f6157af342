/-
  Cut 8: a call of function 10. Printed by wip/tool/mkcuts.py.
-/
import Derived.Test.YtagkbhmlombnjaaGreatDoorCut7
namespace Go.Proofs.YtagkbhmlombnjaaGreatDoor
open Go Go.Ab Go.Proofs
set_option linter.unusedVariables false
set_option maxRecDepth 100000

def cut8 : Cut := {
 args := [], nin := 9,
 lin := [(1, .ro (by8 [0, 1, 56, 2, 57, 49, 28, 3, 61, 58, 42, 50, 38, 29, 17, 4, 62, 47, 59, 36, 45, 43, 51, 22, 53, 39, 33, 30, 24, 18, 12, 5, 63, 55, 48, 27, 60, 41, 37, 16, 46, 35, 44, 21, 52, 32, 23, 11, 54, 26, 40, 15, 34, 20, 31, 10, 25, 14, 19, 9, 13, 8, 7, 6]))],
 v := .bool true, nout := 595, ldel := [],
 lset := [] }

theorem cut8_ok : cut8.holds (acall Tryz.prog hk7 400) 10 = true := by kernel_rfl

noncomputable def hk8F (args : List AV) (M : AMem) : Option (AV × AMem) := match hk7 10 with
  | some h => h args M
  | none => acall Tryz.prog hk7 400 10 args M

noncomputable def hk8 : Hook := fun f => match f with
  | 10 => some (cutAt [cut8] hk8F)
  | _ => hk7 f

theorem hk8_ok : HookOk Tryz.prog hk8 := by
  intro f args M v M' hq ρ w vs s hg hv
  by_cases e : f = 10
  · subst e
    have hq : cutAt [cut8] hk8F args M = some (v, M') := hq
    unfold cutAt at hq
    split at hq
    · rename_i hf
      cases hq
      exact cut_sound (acall_sound mixedS hk7_ok 400) cut8_ok hf s hg hv
    · have hq : hk8F args M = some (v, M') := hq
      unfold hk8F at hq
      split at hq
      · rename_i h e'
        refine hk7_ok 10 args M v M' ?_ ρ w vs s hg hv
        show (hk7 10).bind (fun h => h args M) = some (v, M')
        rw [e']
        exact hq
      · exact acall_sound mixedS hk7_ok 400 10 args M v M' hq ρ w vs s hg hv
  · have e2 : hk8 f = hk7 f := by
      unfold hk8
      split
      · exact absurd rfl e
      · rfl
    have hq : (hk8 f).bind (fun h => h args M) = some (v, M') := hq
    rw [e2] at hq
    exact hk7_ok f args M v M' hq ρ w vs s hg hv
end Go.Proofs.YtagkbhmlombnjaaGreatDoor
