/-
  'sluicegatelaw22.FlowNone': for every input the law returns true; each argument reads behind the call as it read before. Condition: the listed table holds what the program's text lays (tied).
-/
import Derived.Test.YtfpgakjikmakkaaGreatDoorCards
import Derived.Test.YtfpgakjikmakkaaGreatDoorTie
import Derived.Test.YtfpgakjikmakkaaGreatDoorNodeIn
import Derived.Test.YtfpgakjikmakkaaGreatDoorFacts
import Derived.Test.YtfpgakjikmakkaaGreatDoorOpens
import Derived.ChangeMaps5
import Derived.Lay
import Derived.SevenTiedAt
import Derived.LaidMore
import Derived.OpenShut
import Derived.Stop.Joined
import Derived.Lib.SmallJoins
namespace Go.Proofs.YtfpgakjikmakkaaGreatDoor
open Go.Deep Go.ChangeMaps Go.ChangeShapes Go.WideShapes Go.ChangeAt Go.WideMaps Go.WideElems Go.RowKit Go.Ab Go.Joins
set_option linter.unusedVariables false
set_option linter.unusedSimpArgs false

theorem own : ownKnob Tryz.prog.godebug = none := by kernel_rfl
theorem laidOut : laidOutB Tryz.prog = true := by kernel_rfl
theorem gTab : Tryz.prog.globalNamed "math/bits.deBruijn64tab" = some 1 := by kernel_rfl
theorem tTab : (Tryz.prog.globals[1]?).map (·.type) = some 243 := by kernel_rfl

def laidTab : List (String × DataW Unit) := [("math/bits.deBruijn64tab", Rows.laid_math_bits_deBruijn64tab)]

theorem memG_get {g : Nat} {B : ABlk} (h : memG.get g = some B) : g = 1 ∧ B = .ro (tabInts.map (AV.int .u8)) := by
  have hm := memOf_get h
  simp only [linG, List.mem_singleton, Prod.mk.injEq] at hm
  exact hm

theorem memG_ro (α : Nat) : memG.own α = false := by
  unfold AMem.own
  cases h : memG.get α with
  | none => rfl
  | some B => obtain ⟨_, rfl⟩ := memG_get h; rfl

theorem of_laid {W : World} (h : laidMetH Tryz.prog laidTab W) : Sim (rhoG 2) memG W := by
  rw [MakeChecks.laidMetH_plain _ _ _ (by kernel_rfl)] at h
  obtain ⟨ps, ⟨g0, t0, cs0, f0, p0, q0, hg0, ht0, hv0, hd0, _, _⟩, _, _⟩ := h
  obtain rfl := Option.some.inj (gTab.symm.trans hg0)
  obtain rfl := Option.some.inj (tTab.symm.trans ht0)
  have hcs := ints_of_trod (ns := tabInts) Tryz.underlying243 Tryz.underlying5 (by kernel_rfl) (by kernel_rfl) hd0
  have hlt : 1 < W.heap.size := by
    unfold World.var? at hv0
    rw [hg0] at hv0
    simp only [Option.bind_some] at hv0
    cases q : W.heap[1]? with
    | none => rw [q] at hv0; cases hv0
    | some o => exact (Array.getElem?_eq_some_iff.1 q).1
  refine Sim.start (M := memG) hlt fun g B hB => ?_
  obtain ⟨rfl, rfl⟩ := memG_get hB
  exact ⟨by decide, rfl, BlkR.table hg0 hv0 hcs⟩

theorem glob0 : GlobR Tryz.prog (rhoG 2) := fun g hg => by
  have hg2 := Nat.lt_of_lt_of_le hg gN_le
  rw [globs] at hg2
  unfold rhoG
  rw [if_pos hg2]

set_option maxRecDepth 100000 in
theorem flowNone_lifted (os : Os) (started : os.Started) (H : Type) (enc : TypeId × Value → H) :
    ReturnsInHanded {} Tryz.checked os 3 .any (fun w args => (Rows.flowNoneSpec.pre enc Tryz.prog Tryz.f3 [] false w args ∧ laidMetH Tryz.prog laidTab w) ∧ sizedMet enc Tryz.prog Tryz.f3 (OpenSpec.ofChange Rows.flowNoneSpec) false w args)
      (Rows.flowNoneSpec.post enc Tryz.prog Tryz.f3 false true false false) := by
  refine returnsInHanded_of_change_and (C := Tryz.checked) (X := fun w _ => laidMetH Tryz.prog laidTab w) (fun _ _ _ hh h => h.of_heap hh) own started (by kernel_rfl) Tryz.func3
    (ChangeSpec.witness_shaped (enc := enc) (C := Tryz.checked) (os := os) (X := fun w _ => laidMetH Tryz.prog laidTab w) false (World.laidAll Tryz.prog os laidTab) #[.agg #[.int .i64 0, .int .i64 0, .int .i64 0, .int .i64 0, .int .i64 0, .int .i64 0, .int .i64 0, .int .i64 0], .int .u32 0, .agg #[.int .i64 0, .slice none 0 0, .slice none 0 0, .slice none 0 0, .slice none 0 0]] 8 (World.laidAll_os _ _ _) (World.shaped_of_ZipB (by kernel_rfl) (by kernel_rfl)) (by kernel_rfl) (by kernel_rfl) (by kernel_rfl)
      (by rw [MakeChecks.laidMetH_plain _ _ _ (by kernel_rfl)]; exact laidMet_laidAll _ (by kernel_rfl) (by kernel_rfl))) ?_
  intro W base args ds gs before hval0 hW _ _ hL _
  have hval : ∀ (j : Nat) t v, Tryz.f3.params[j]? = some t → args[j]? = some v → Value.okWide Tryz.prog W .any base t v := hval0
  have hW' := hW
  obtain ⟨p, q, hA0, hV, rfl, hfz, hnd⟩ := hW
  obtain ⟨rfl, rfl⟩ := trodVars_none hV
  rw [List.append_nil] at hW'
  have hAk : DataW.TrodAll enc Tryz.prog W 0 (fun _ => true) true Tryz.f3.params.toList args.toList ds p := hA0
  have hA := hAk
  rw [Tryz.params3] at hA hval
  obtain ⟨v0, v1, v2, d0, d1, d2, p0, p1, p2, rfl, rfl, rfl, h0, h1, h2⟩ := trodAll_three hA
  obtain ⟨ks, hks, rfl, _⟩ := open_ints Tryz.underlying23 (by kernel_rfl) (by kernel_rfl) (by kernel_rfl) (hval 0 23 v0 rfl rfl) h0
  obtain ⟨k, rfl, rfl, rfl, wk⟩ := open_int Tryz.underlying24 (hval 1 24 v1 rfl rfl) h1
  have hwk : IntKind.u32.min ≤ k ∧ k ≤ IntKind.u32.max := by simpa [Lit.wf] using wk
  have k0 : 0 ≤ k := hwk.1
  have k1 : k < 4294967296 := by
    have h := hwk.2
    have e : IntKind.u32.max = 4294967295 := rfl
    omega
  obtain ⟨lv, ka, pa, ba, ra, kl, pl, bl, rl, kc, pc, bc, rc, ps, xs, ys, ρ', M', hS, hO, hle, hN, hP, hX, hY, hnx, hgt⟩ := node_in (hval 2 30 v2 rfl rfl) h2 (of_laid hL) memG_ro
  obtain ⟨a, b, c, d, e, f, g, i, rfl⟩ := list8 hks
  have hargs : VL ρ' [.agg (C8 a b c d e f g i), .int .u32 k, .agg (nodeA lv ka pa ba ra kl pl bl rl kc pc bc rc)] [.agg #[.int .i64 a, .int .i64 b, .int .i64 c, .int .i64 d, .int .i64 e, .int .i64 f, .int .i64 g, .int .i64 i], .int .u32 k, v2] :=
    VL.cons (VL.ints ρ' .i64 [a, b, c, d, e, f, g, i]).agg (VL.cons (.int _ _) (VL.cons hN (VL.nil _)))
  have hsub : subM linG M' = true := subM_get (M := memG) (hgt 1 (by decide)) (by kernel_rfl)
  refine (calls_true (n := 2000) (f := 3) mixedS hkW_ok (law_runs a b c d e f g i (Nat.le_trans (show 2 ≤ memG.next by decide) hnx) hsub hP hX hY k0 k1 (Nat.le_refl _)) hS (GlobR.mono hle glob0) hargs hO).mono fun e W' ⟨he, hw⟩ => ?_
  subst he
  exact ⟨_, rfl, post_law laidOut (by kernel_rfl) (by kernel_rfl) Tryz.underlying4 hW' hAk hw rfl rfl rfl rfl⟩

theorem flowNone_holds : Rows.FlowNoneSaid :=
  OpenClaim.holds_of_wide 3 Tryz.f3 rfl rfl rfl rfl rfl rfl rfl ⟨rfl, rfl, rfl, rfl, rfl⟩ rfl rfl rfl rfl rfl (by kernel_rfl) Tryz.func3 j0
    (of_decide_eq_true (by kernel_rfl)) (by unfold Func.isWrapper; first | (rw [if_pos (by decide +kernel)]; kernel_rfl) | (rw [if_neg (by decide +kernel)]; exact ⟨rfl, rfl⟩))
    (fun os started H enc _ => flowNone_lifted os started H enc)

theorem standG : Tryz.prog.wantsStandIn 23 = false := by kernel_rfl
theorem looksF : false = Tryz.prog.looks [] := by kernel_rfl
theorem goesF : false = Rows.flowNoneRow.goesBy Tryz.prog := by kernel_rfl
theorem standM : Tryz.prog.wantsStandIn 24 = false := by kernel_rfl
theorem standF : Tryz.prog.wantsStandIn 30 = false := by kernel_rfl
theorem textF : Rows.flowNoneRow.wfByText (OpenSpec.ofChange Rows.flowNoneSpec) = true := by kernel_rfl
theorem mainF : Tryz.prog.mainIs = some (true, "c13e62f77ca04518e0e86ac1e92960d74279f76e46b1d451e4b2c9fb719e1714".toList) := by kernel_rfl
theorem numberF : Tryz.prog.funcNamed "sluicegate/sluicegatelaw22.FlowNone" = some 3 := by kernel_rfl

theorem flowNone_card : Rows.FlowNoneCardSaid :=
  Claim7.holds_tied_plain_at .later [] [.data] true (true, "c13e62f77ca04518e0e86ac1e92960d74279f76e46b1d451e4b2c9fb719e1714") false
    flowNone_holds (fun _ h => by cases h) textF (fun _ h => by cases h) flowNone_row_tie rfl ⟨rfl, rfl⟩ mainF rfl
    (fun f fn hf hfn => by
      obtain rfl : f = 3 := Option.some.inj (numberF.symm.trans hf) |>.symm
      obtain rfl : fn = Tryz.f3 := (Option.some.inj (Tryz.func3.symm.trans hfn)).symm
      exact ⟨looksF, fun j t ht => by
        rw [Tryz.params3] at ht
        rcases j with _ | _ | _ | j
        · have h3 : t = 23 := by simpa using ht.symm
          subst h3; exact standG
        · have h3 : t = 24 := by simpa using ht.symm
          subst h3; exact standM
        · have h3 : t = 30 := by simpa using ht.symm
          subst h3; exact standF
        · simp at ht⟩)
    goesF
#print axioms flowNone_card
end Go.Proofs.YtfpgakjikmakkaaGreatDoor
