/-
  slices.Insert at the rows that the run meets: a hook. Printed by wip/tool/mkins.py.
-/
import Derived.Test.YtfpgakjikmakkaaGreatDoorPre
import Derived.Test.YtfpgakjikmakkaaGreatDoorAbInsHook
namespace Go.Proofs.YtfpgakjikmakkaaGreatDoor
open Go Go.Ab Go.Proofs
set_option linter.unusedVariables false
set_option maxRecDepth 100000

def by8 (l : List Int) : List AV := l.map (AV.int .u8)
def nul (n : Nat) : List AV := List.replicate n (.int .u8 0)

def ins1 : Ins := {
 size := 2, n := 9, i := 0, α := 3349, β := 3356, nin := 3357,
 cs := [.str [97, 97], .str [], .str [97, 98], .str [], .str [97, 99], .str [], .str [97, 100], .str [], .str [97, 101], .str [], .str [97, 102], .str [], .str [97, 103], .str [], .str [97, 104], .str [], .str [97, 105], .str []],
 vs := [.str [97], .str []],
 content := [.str [97], .str [], .str [97, 97], .str [], .str [97, 98], .str [], .str [97, 99], .str [], .str [97, 100], .str [], .str [97, 101], .str [], .str [97, 102], .str [], .str [97, 103], .str [], .str [97, 104], .str [], .str [97, 105], .str []] }

theorem ins1_tight : insR ins1.α ((acall Tryz.prog hkB 100) 103 (ins1.args (some ins1.n)) (memOf ins1.nin (ins1.lin []))) = some (ins1.nin + 0, 0, ins1.n + 1, none, some (.cells ins1.content ins1.size .yes)) := by kernel_rfl
theorem ins1_roomy (d : Nat) (za zb : AV) : insR ins1.α ((acall Tryz.prog hkB 100) 103 (ins1.args (some (d + (ins1.n + 1)))) (memOf ins1.nin (ins1.lin [za, zb]))) = some (ins1.α, 0, ins1.n + 1, some (d + (ins1.n + 1)), some (.cells ins1.content ins1.size .yes)) := by kernel_rfl
theorem ins1_ok : ins1.Ok (acall Tryz.prog hkB 100) 103 :=
  Ins.ok_of (by kernel_rfl) ins1_tight (by kernel_rfl) fun d z hz => by
    obtain ⟨za, zb, rfl⟩ := list_2 hz
    exact ins1_roomy d za zb

noncomputable def hkI : Hook := fun f => match f with
  | 103 => some (insAt [ins1] (acall Tryz.prog hkB 100 103))
  | _ => hkB f

theorem hkI_ok : HookOk Tryz.prog hkI := by
  intro f args M v M' hq ρ w vs s hg hv
  by_cases e0 : f = 103
  · subst e0
    have hq : insAt [ins1] (acall Tryz.prog hkB 100 103) args M = some (v, M') := hq
    refine insAt_sound (acall_sound mixedS hkB_ok 100) (fun c hc => ?_) hq ρ w vs s hg hv
    simp only [List.mem_cons, List.not_mem_nil, or_false] at hc
    subst hc; exact ins1_ok
  · skip
    have e2 : hkI f = hkB f := by
      unfold hkI
      split
      · exact absurd rfl e0
      · rfl
    have hq : (hkI f).bind (fun h => h args M) = some (v, M') := hq
    rw [e2] at hq
    exact hkB_ok f args M v M' hq ρ w vs s hg hv
end Go.Proofs.YtfpgakjikmakkaaGreatDoor
