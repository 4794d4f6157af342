/-
  slices.Insert at the rows that the run meets: a hook. Printed by wip/tool/mkins.py.
-/
import Derived.Test.YtccmopkjkmpaaaaGreatDoorBase
import Derived.Test.YtccmopkjkmpaaaaGreatDoorAbInsHook
namespace Go.Proofs.YtccmopkjkmpaaaaGreatDoor
open Go Go.Ab Go.Proofs
set_option linter.unusedVariables false
set_option maxRecDepth 100000

def by8 (l : List Int) : List AV := l.map (AV.int .u8)
def nul (n : Nat) : List AV := List.replicate n (.int .u8 0)

def ins1 : Ins := {
 size := 2, n := 1, i := 0, α := 762, β := 766, nin := 767,
 cs := [.str [1, 0, 0, 0, 0, 0, 0, 0, 2, 2, 120, 0, 1, 2, 97, 0, 1], .str []],
 vs := [.str [1, 0, 0, 0, 0, 0, 0, 0, 1, 2, 97, 0, 1], .str [120]],
 content := [.str [1, 0, 0, 0, 0, 0, 0, 0, 1, 2, 97, 0, 1], .str [120], .str [1, 0, 0, 0, 0, 0, 0, 0, 2, 2, 120, 0, 1, 2, 97, 0, 1], .str []] }

theorem ins1_tight : insR ins1.α ((acall Tryz.prog hkB 100) 174 (ins1.args (some ins1.n)) (memOf ins1.nin (ins1.lin []))) = some (ins1.nin + 0, 0, ins1.n + 1, none, some (.cells ins1.content ins1.size .yes)) := by kernel_rfl
theorem ins1_roomy (d : Nat) (za zb : AV) : insR ins1.α ((acall Tryz.prog hkB 100) 174 (ins1.args (some (d + (ins1.n + 1)))) (memOf ins1.nin (ins1.lin [za, zb]))) = some (ins1.α, 0, ins1.n + 1, some (d + (ins1.n + 1)), some (.cells ins1.content ins1.size .yes)) := by kernel_rfl
theorem ins1_ok : ins1.Ok (acall Tryz.prog hkB 100) 174 :=
  Ins.ok_of (by kernel_rfl) ins1_tight (by kernel_rfl) fun d z hz => by
    obtain ⟨za, zb, rfl⟩ := list_2 hz
    exact ins1_roomy d za zb

def ins2 : Ins := {
 size := 2, n := 3, i := 1, α := 1545, β := 1550, nin := 1551,
 cs := [.str [1, 0, 0, 0, 0, 0, 0, 0, 1, 2, 97, 0, 1], .str [120], .str [1, 0, 0, 0, 0, 0, 0, 0, 2, 2, 120, 0, 1, 2, 97, 0, 1], .str [], .str [1, 0, 0, 0, 0, 0, 0, 0, 2, 2, 120, 0, 1, 2, 98, 0, 1], .str []],
 vs := [.str [1, 0, 0, 0, 0, 0, 0, 0, 1, 2, 98, 0, 1], .str [120]],
 content := [.str [1, 0, 0, 0, 0, 0, 0, 0, 1, 2, 97, 0, 1], .str [120], .str [1, 0, 0, 0, 0, 0, 0, 0, 1, 2, 98, 0, 1], .str [120], .str [1, 0, 0, 0, 0, 0, 0, 0, 2, 2, 120, 0, 1, 2, 97, 0, 1], .str [], .str [1, 0, 0, 0, 0, 0, 0, 0, 2, 2, 120, 0, 1, 2, 98, 0, 1], .str []] }

theorem ins2_tight : insR ins2.α ((acall Tryz.prog hkB 100) 174 (ins2.args (some ins2.n)) (memOf ins2.nin (ins2.lin []))) = some (ins2.nin + 0, 0, ins2.n + 1, none, some (.cells ins2.content ins2.size .yes)) := by kernel_rfl
theorem ins2_roomy (d : Nat) (za zb : AV) : insR ins2.α ((acall Tryz.prog hkB 100) 174 (ins2.args (some (d + (ins2.n + 1)))) (memOf ins2.nin (ins2.lin [za, zb]))) = some (ins2.α, 0, ins2.n + 1, some (d + (ins2.n + 1)), some (.cells ins2.content ins2.size .yes)) := by kernel_rfl
theorem ins2_ok : ins2.Ok (acall Tryz.prog hkB 100) 174 :=
  Ins.ok_of (by kernel_rfl) ins2_tight (by kernel_rfl) fun d z hz => by
    obtain ⟨za, zb, rfl⟩ := list_2 hz
    exact ins2_roomy d za zb

noncomputable def hkI : Hook := fun f => match f with
  | 174 => some (insAt [ins1, ins2] (acall Tryz.prog hkB 100 174))
  | _ => hkB f

theorem hkI_ok : HookOk Tryz.prog hkI := by
  intro f args M v M' hq ρ w vs s hg hv
  by_cases e0 : f = 174
  · subst e0
    have hq : insAt [ins1, ins2] (acall Tryz.prog hkB 100 174) args M = some (v, M') := hq
    refine insAt_sound (acall_sound mixedS hkB_ok 100) (fun c hc => ?_) hq ρ w vs s hg hv
    simp only [List.mem_cons, List.not_mem_nil, or_false] at hc
    rcases hc with rfl | rfl
    · exact ins1_ok
    · exact ins2_ok
  · skip
    have e2 : hkI f = hkB f := by
      unfold hkI
      split
      · exact absurd rfl e0
      · rfl
    have hq : (hkI f).bind (fun h => h args M) = some (v, M') := hq
    rw [e2] at hq
    exact hkB_ok f args M v M' hq ρ w vs s hg hv
end Go.Proofs.YtccmopkjkmpaaaaGreatDoor
