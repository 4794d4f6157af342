/-
  Cut 13: a call of function 119. Printed by wip/tool/mkcuts.py.
-/
import Derived.Test.YtbaiiekmiaddnaaGreatDoorCut12
namespace Go.Proofs.YtbaiiekmiaddnaaGreatDoor
open Go Go.Ab Go.Proofs
set_option linter.unusedVariables false
set_option maxRecDepth 100000

def cut13 : Cut := {
 args := [.agg [.int .i64 9, .int .i64 200, .int .i64 8, .int .i64 8, .int .i64 16, .int .i64 16, .int .i64 2, .int .i64 1], .slice (some (798, 0)) 200 none], nin := 799,
 lin := [(1, .ro (by8 [0, 1, 56, 2, 57, 49, 28, 3, 61, 58, 42, 50, 38, 29, 17, 4, 62, 47, 59, 36, 45, 43, 51, 22, 53, 39, 33, 30, 24, 18, 12, 5, 63, 55, 48, 27, 60, 41, 37, 16, 46, 35, 44, 21, 52, 32, 23, 11, 54, 26, 40, 15, 34, 20, 31, 10, 25, 14, 19, 9, 13, 8, 7, 6])),
  (798, .cells (by8 [1, 0, 0, 2, 0, 0, 0, 0, 1, 0, 0, 97, 0, 0, 1, 0, 0, 98, 0, 0, 0, 0, 0, 0, 0, 0, 0, 0, 0, 0, 0, 0, 0, 0, 0, 0, 0, 0, 0, 0, 0, 0, 0, 0, 0, 0, 0, 0, 0, 0, 0, 0, 0, 0, 0, 0, 0, 0, 0, 0, 0, 0, 0, 0, 0, 0, 0, 0, 0, 0, 0, 0, 0, 0, 0, 0, 0, 0, 0, 0, 0, 0, 0, 0, 0, 0, 0, 0, 0, 0, 0, 0, 0, 0, 0, 0, 0, 0, 0, 0, 0, 0, 0, 0, 0, 0, 0, 0, 0, 0, 0, 0, 0, 0, 0, 0, 0, 0, 0, 0, 0, 0, 0, 0, 0, 0, 0, 0, 0, 0, 0, 0, 0, 0, 0, 0, 0, 0, 0, 0, 0, 0, 0, 0, 0, 0, 0, 0, 0, 0, 0, 0, 0, 0, 0, 0, 0, 0, 0, 0, 0, 0, 0, 0, 0, 0, 0, 0, 0, 0, 0, 0, 0, 0, 0, 0, 0, 0, 0, 0, 0, 0, 0, 0, 0, 0, 0, 0, 0, 0, 0, 0, 0, 0, 0, 0, 0, 0, 0, 0]) 1 true)],
 v := .tup [.agg [.int .i64 0, .slice none 0 (some 0), .slice none 0 (some 0), .slice none 0 (some 0), .slice (some (835, 0)) 2 none], .int .i64 0], nout := 910, ldel := [],
 lset := [(835, .cells [.str [97], .str [], .str [98], .str []] 2 true)] }

theorem cut13_ok : cut13.holds (acall Tryz.prog hk12 400) 119 = true := by kernel_rfl

noncomputable def hk13F (args : List AV) (M : AMem) : Option (AV × AMem) := match hk12 119 with
  | some h => h args M
  | none => acall Tryz.prog hk12 400 119 args M

noncomputable def hk13 : Hook := fun f => match f with
  | 119 => some (cutAt [cut13] hk13F)
  | _ => hk12 f

theorem hk13_ok : HookOk Tryz.prog hk13 := by
  intro f args M v M' hq ρ w vs s hg hv
  by_cases e : f = 119
  · subst e
    have hq : cutAt [cut13] hk13F args M = some (v, M') := hq
    unfold cutAt at hq
    split at hq
    · rename_i hf
      cases hq
      exact cut_sound (acall_sound mixedS hk12_ok 400) cut13_ok hf s hg hv
    · have hq : hk13F args M = some (v, M') := hq
      unfold hk13F at hq
      split at hq
      · rename_i h e'
        refine hk12_ok 119 args M v M' ?_ ρ w vs s hg hv
        show (hk12 119).bind (fun h => h args M) = some (v, M')
        rw [e']
        exact hq
      · exact acall_sound mixedS hk12_ok 400 119 args M v M' hq ρ w vs s hg hv
  · have e2 : hk13 f = hk12 f := by
      unfold hk13
      split
      · exact absurd rfl e
      · rfl
    have hq : (hk13 f).bind (fun h => h args M) = some (v, M') := hq
    rw [e2] at hq
    exact hk12_ok f args M v M' hq ρ w vs s hg hv
end Go.Proofs.YtbaiiekmiaddnaaGreatDoor
