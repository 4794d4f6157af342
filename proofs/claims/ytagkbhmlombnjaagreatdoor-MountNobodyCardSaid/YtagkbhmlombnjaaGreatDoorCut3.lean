/-
  Cut 3: a call of function 27. Printed by wip/tool/mkcuts.py.
-/
import Derived.Test.YtagkbhmlombnjaaGreatDoorCut2
namespace Go.Proofs.YtagkbhmlombnjaaGreatDoor
open Go Go.Ab Go.Proofs
set_option linter.unusedVariables false
set_option maxRecDepth 100000

def cut3 : Cut := {
 args := [.slice (some (248, 0)) 200 none], nin := 249,
 lin := [(1, .ro (by8 [0, 1, 56, 2, 57, 49, 28, 3, 61, 58, 42, 50, 38, 29, 17, 4, 62, 47, 59, 36, 45, 43, 51, 22, 53, 39, 33, 30, 24, 18, 12, 5, 63, 55, 48, 27, 60, 41, 37, 16, 46, 35, 44, 21, 52, 32, 23, 11, 54, 26, 40, 15, 34, 20, 31, 10, 25, 14, 19, 9, 13, 8, 7, 6])),
  (248, .cells (by8 [83, 76, 85, 73, 67, 69, 48, 49, 0, 0, 0, 9, 0, 0, 0, 200, 0, 0, 0, 8, 0, 0, 0, 8, 0, 0, 0, 16, 0, 0, 0, 16, 0, 0, 0, 2, 0, 0, 0, 1, 0, 0, 0, 1, 0, 0, 0, 1, 0, 0, 0, 0, 0, 0, 0, 0, 0, 0, 0, 0, 166, 13, 3, 45, 0, 0, 0, 0, 0, 0, 0, 0, 0, 0, 0, 0, 0, 0, 0, 0, 0, 0, 0, 0, 0, 0, 0, 0, 0, 0, 0, 0, 0, 0, 0, 0, 0, 0, 0, 0, 0, 0, 0, 0, 0, 0, 0, 0, 0, 0, 0, 0, 0, 0, 0, 0, 0, 0, 0, 0, 0, 0, 0, 0, 0, 0, 0, 0, 0, 0, 0, 0, 0, 0, 0, 0, 0, 0, 0, 0, 0, 0, 0, 0, 0, 0, 0, 0, 0, 0, 0, 0, 0, 0, 0, 0, 0, 0, 0, 0, 0, 0, 0, 0, 0, 0, 0, 0, 0, 0, 0, 0, 0, 0, 0, 0, 0, 0, 0, 0, 0, 0, 0, 0, 0, 0, 0, 0, 0, 0, 0, 0, 0, 0, 0, 0, 0, 0, 0, 0]) 1 true)],
 v := .tup [.agg [.int .i64 9, .int .i64 200, .int .i64 8, .int .i64 8, .int .i64 16, .int .i64 16, .int .i64 2, .int .i64 1, .int .u32 1, .int .i64 1], .int .i64 0], nout := 394, ldel := [],
 lset := [] }

theorem cut3_ok : cut3.holds (acall Tryz.prog hk2 400) 27 = true := by kernel_rfl

noncomputable def hk3F (args : List AV) (M : AMem) : Option (AV × AMem) := match hk2 27 with
  | some h => h args M
  | none => acall Tryz.prog hk2 400 27 args M

noncomputable def hk3 : Hook := fun f => match f with
  | 27 => some (cutAt [cut3] hk3F)
  | _ => hk2 f

theorem hk3_ok : HookOk Tryz.prog hk3 := by
  intro f args M v M' hq ρ w vs s hg hv
  by_cases e : f = 27
  · subst e
    have hq : cutAt [cut3] hk3F args M = some (v, M') := hq
    unfold cutAt at hq
    split at hq
    · rename_i hf
      cases hq
      exact cut_sound (acall_sound mixedS hk2_ok 400) cut3_ok hf s hg hv
    · have hq : hk3F args M = some (v, M') := hq
      unfold hk3F at hq
      split at hq
      · rename_i h e'
        refine hk2_ok 27 args M v M' ?_ ρ w vs s hg hv
        show (hk2 27).bind (fun h => h args M) = some (v, M')
        rw [e']
        exact hq
      · exact acall_sound mixedS hk2_ok 400 27 args M v M' hq ρ w vs s hg hv
  · have e2 : hk3 f = hk2 f := by
      unfold hk3
      split
      · exact absurd rfl e
      · rfl
    have hq : (hk3 f).bind (fun h => h args M) = some (v, M') := hq
    rw [e2] at hq
    exact hk2_ok f args M v M' hq ρ w vs s hg hv
end Go.Proofs.YtagkbhmlombnjaaGreatDoor
