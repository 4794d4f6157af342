/-
  awake() answers true, over any memory that has the table: a hook.
-/
import Derived.Test.YtccmopkjkmpaaaaGreatDoorCutAll
namespace Go.Proofs.YtccmopkjkmpaaaaGreatDoor
open Go Go.Ab Go.Proofs
set_option linter.unusedVariables false
set_option maxRecDepth 100000

def tabInts : List Int := [0, 1, 56, 2, 57, 49, 28, 3, 61, 58, 42, 50, 38, 29, 17, 4, 62, 47, 59, 36, 45, 43, 51, 22, 53, 39, 33, 30, 24, 18, 12, 5, 63, 55, 48, 27, 60, 41, 37, 16, 46, 35, 44, 21, 52, 32, 23, 11, 54, 26, 40, 15, 34, 20, 31, 10, 25, 14, 19, 9, 13, 8, 7, 6]
def linG : List (Nat × ABlk) := [(3, .ro (tabInts.map (AV.int .u8)))]
def memG : AMem := memOf 4 linG

theorem wake_runs : isT (acall Tryz.prog hk51 1000 16 [] memG) = true := by kernel_rfl

def wakeH (args : List AV) (M : AMem) : Option (AV × AMem) :=
  match args with
  | [] => (match Nat.ble 4 M.next && subM linG M with
    | true => some (.bool true, M)
    | false => none)
  | _ => none

noncomputable def hkW : Hook := fun f => match f with
  | 16 => some wakeH
  | 161 => some sortedH
  | 190 => some eqH
  | _ => none

theorem globs : Tryz.prog.globals.size = 4 := by kernel_rfl

theorem isT_some {x : Option (AV × AMem)} (h : isT x = true) : ∃ M', x = some (.bool true, M') := by
  unfold isT at h
  split at h
  · exact ⟨_, rfl⟩
  · cases h

theorem hkW_ok : HookOk Tryz.prog hkW := by
  intro f args M v M' hq ρ w vs s hg hv
  by_cases e : f = 16
  · subst e
    have hq : wakeH args M = some (v, M') := hq
    unfold wakeH at hq
    split at hq
    · split at hq
      · rename_i hc
        cases hq
        simp only [Bool.and_eq_true] at hc
        obtain ⟨M0', h0⟩ := isT_some wake_runs
        refine pure_call mixedS hk51_ok h0 rfl rfl (Nat.le_trans gN_le (by rw [globs]; exact Nat.le_refl _)) ⟨Nat.le_of_ble_eq_true hc.1, fun α B hB => memOf_sub hc.2 hB, fun α B hB => ?_⟩ s hg hv
        have hm := memOf_get hB
        simp only [linG, List.mem_singleton, Prod.mk.injEq] at hm
        obtain ⟨rfl, rfl⟩ := hm
        exact ⟨by decide, _, rfl, by decide⟩
      · cases hq
    · cases hq
  · by_cases e1 : f = 161
    · subst e1
      have hq : sortedH args M = some (v, M') := hq
      exact sortedH_ok (of_decide_eq_true (by kernel_rfl)) hq s hg hv
    · by_cases e3 : f = 190
      · subst e3
        have hq : eqH args M = some (v, M') := hq
        exact eqH_ok hq s hg hv
      · have e2 : hkW f = none := by
          unfold hkW
          split
          · exact absurd rfl e
          · exact absurd rfl e1
          · exact absurd rfl e3
          · rfl
        have hq : (hkW f).bind (fun h => h args M) = some (v, M') := hq
        rw [e2] at hq
        cases hq
end Go.Proofs.YtccmopkjkmpaaaaGreatDoor
