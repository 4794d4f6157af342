/-
  The law's hooks: Span of a number and a text is answered as its contract says, its own blocks are forgotten.
-/
import Derived.Test.YtccmopkjkmpaaaaGreatDoorMCutAll
import Derived.Test.YtccmopkjkmpaaaaGreatDoorIxB
import Derived.Test.YtccmopkjkmpaaaaGreatDoorAbKept
namespace Go.Proofs.YtccmopkjkmpaaaaGreatDoor
open Go Go.Ab
set_option linter.unusedVariables false
set_option linter.unusedSimpArgs false
set_option maxRecDepth 100000

theorem freeW : Free hkW := by
  intro f h
  unfold hkW
  split
  · simp at h
  · simp at h
  · simp at h
  · rfl

noncomputable def keptS (args : List AV) (M : AMem) : Option (AV × AMem) :=
  match acall Tryz.prog hkW 2000300 42 args M with
  | some (v, M') => open Classical in if (∀ (ρ ρ' : Ab.Loc) (x : Value), VR ρ v x → VR ρ' v x) ∧ Kept M M' M then some (v, M) else none
  | none => none

noncomputable def spanX (args : List AV) (M : AMem) : Option (AV × AMem) :=
  match args with
  | [.slice (some (a, 0)) 2 c] => keptS [.slice (some (a, 0)) 2 c] M
  | _ => acall Tryz.prog hkW 400 42 args M

noncomputable def hkX : Hook := fun f => match f with
  | 42 => some spanX
  | _ => mhk5 f

theorem keptS_ok {args : List AV} {M : AMem} {v : AV} {M' : AMem} (hq : keptS args M = some (v, M')) {ρ : Ab.Loc} {w : World} {vs : List Value} (s : Sim ρ M w) (hg : GlobR Tryz.prog ρ) (hv : VL ρ args vs) :
    Calls Tryz.prog 42 vs.toArray w (fun e w' => ∃ ρ' x, e = .returned x ∧ VR ρ' v x ∧ Sim ρ' M' w' ∧ Ext ρ M w ρ' M' w') := by
  unfold keptS at hq
  split at hq
  · rename_i v1 M1 h1
    split at hq
    · rename_i hc
      cases hq
      exact kept_call mixedS hkW_ok h1 hc.2 (fun {ρ ρ' x} h => hc.1 ρ ρ' x h) s hg hv
    · cases hq
  · cases hq

theorem hkX_ok : HookOk Tryz.prog hkX := by
  intro f args M v M' hq ρ w vs s hg hv
  by_cases e : f = 42
  · subst e
    have hq : spanX args M = some (v, M') := hq
    unfold spanX at hq
    split at hq
    · exact keptS_ok hq s hg hv
    · exact acall_sound mixedS hkW_ok 400 42 args M v M' hq ρ w vs s hg hv
  · have e2 : hkX f = mhk5 f := by
      unfold hkX
      split
      · exact absurd rfl e
      · rfl
    have hq : (hkX f).bind (fun h => h args M) = some (v, M') := hq
    rw [e2] at hq
    exact mhk5_ok f args M v M' hq ρ w vs s hg hv

theorem vr_span {ρ ρ' : Ab.Loc} {lo hi : List UInt8} {x : Value} (h : VR ρ (.tup [.agg [.str lo, .str hi, .bool false], .int .i64 0]) x) : VR ρ' (.tup [.agg [.str lo, .str hi, .bool false], .int .i64 0]) x := by
  obtain ⟨ys, rfl, hl⟩ := h.tup_inv
  obtain ⟨y1, t1, rfl, h1, hl1⟩ := hl.list_cons
  obtain ⟨y2, t2, rfl, h2, hl2⟩ := hl1.list_cons
  have e := hl2.list_nil
  subst e
  obtain ⟨zs, rfl, hz⟩ := h1.agg_inv
  have hv : VL ρ' [.agg [.str lo, .str hi, .bool false], .int .i64 0] [.agg zs.toArray, y2] := VL.cons (VL.agg (hz.closed rfl)) (VL.cons (h2.closed rfl) (VL.nil _))
  exact .tup _ _ hv.1 hv.2

/-- Span of a number and a text -/
theorem span_call {M : AMem} {a : Nat} {cc : Option Nat} {t : List UInt8} (hr : M.row a = some (parts t)) (ha : a < M.next) (ht : t.length ≤ 2000000) {m : Nat} (hm : 1 ≤ m) :
    ∃ lo hi, acall Tryz.prog hkX m 42 [.slice (some (a, 0)) 2 cc] M = some (.tup [.agg [.str lo, .str hi, .bool false], .int .i64 0], M) := by
  obtain ⟨m, rfl⟩ : ∃ k, m = k + 1 := ⟨m - 1, by omega⟩
  obtain ⟨lo, hi, M', r, k⟩ := span_run freeW (cc := cc) hr ha ht (m := 2000300) (by omega)
  refine ⟨lo, hi, ?_⟩
  rw [acall]
  show keptS [.slice (some (a, 0)) 2 cc] M = _
  unfold keptS
  rw [r]
  simp only
  rw [if_pos ⟨fun ρ ρ' x h => vr_span h, ⟨rfl, fun α hα => k.get α hα, fun α => .inl rfl⟩⟩]
end Go.Proofs.YtccmopkjkmpaaaaGreatDoor
