/-
  'sluicegatelaw07.PoolOnce': for every input the law returns true; each argument reads behind the call as it read before. Condition: the listed table holds what the program's text lays (tied).
-/
import Derived.Test.YtiecjbgefkelfaaDoorPoolActs
import Derived.Test.YtiecjbgefkelfaaDoorOnceLoop
namespace Go.Proofs.YtiecjbgefkelfaaDoor
open Go.ChangeShapes Go.WideShapes Go.ChangeAt Go.WideMaps Go.WideElems Go.RowKit Go.Ab
set_option linter.unusedVariables false
set_option linter.unusedSimpArgs false

abbrev Ends5 (W : World) (i : Int) (v1 : Value) : Prop := Calls Tryd.prog 5 #[.int .u8 i, v1] W (fun e W' => e = .returned (.bool true) ∧ Below W.heap.size W W')

theorem ends5_of {W : World} {i : Int} {v1 : Value} {s : Option (Nat × Nat)} {l : Nat} {c : Option Nat} {M : AMem} {ρ : Ab.Loc} (hs : Sim ρ M W) (hg : GlobR Tryd.prog ρ) (ho : ∀ α, M.own α = false) (hv : VR ρ (.slice s l c) v1)
    (ht : isT (call (70009 + 1) 5 [.int .u8 i, .slice s l c] M) = true) : Ends5 W i v1 :=
  calls_true (vs := [.int .u8 i, v1]) mixed hookOk ht hs hg (VL.cons (.int _ _) (VL.cons hv (VL.nil _))) ho

theorem memE_zero5 : (mem0.new (.ro [])).get 0 = some (.ro (tabInts.map (AV.int .u8))) := by rw [AMem.get_new, if_neg (by decide)]; exact mem0_zero

theorem ends5_nil {W : World} (hs0 : Sim (rhoG 1) mem0 W) (i : Nat) (hi : i < 256) : Ends5 W i (.slice none 0 0) :=
  ends5_of (hs0.more (.ro [])) glob0 memE_ro .slnil (once_run (c := some 0) (xs := []) (m := 70009) (by decide) ⟨rfl, (fun x hx => by cases hx), .inl rfl⟩ i hi memE_zero5 (by decide))

theorem ends5_zero {W : World} (hs0 : Sim (rhoG 1) mem0 W) (i : Nat) (hi : i < 256) (a : Addr) (cap : Nat) : Ends5 W i (.slice (some a) 0 cap) :=
  ends5_of (hs0.more (.ro [])) glob0 memE_ro (.sl0 (0, 0) none a cap (.inl rfl)) (once_run (xs := []) (m := 70009) (by decide) ⟨rfl, (fun x hx => by cases hx), .inl rfl⟩ i hi memE_zero5 (by decide))

theorem ends5_some {W : World} (hs0 : Sim (rhoG 1) mem0 W) (i : Nat) (hi : i < 256) {a : Addr} {len cap : Nat} (h0 : 0 < len) (hlc : len ≤ cap)
    (hel : ∀ i, i < len → ∃ (q0 q1 : Int) (q2 : Nat), W.cell? (a.add (i * 3)) = some (.int .i64 q0) ∧ W.cell? ((a.add (i * 3)).add 1) = some (.int .i64 q1) ∧ W.cell? ((a.add (i * 3)).add 2) = some (.int .u32 q2) ∧ q2 < 4294967296) : Ends5 W i (.slice (some a) len cap) := by
  obtain ⟨b, off, xs, rfl, hlx, hsm, hat⟩ := acts3_at h0 hel
  obtain ⟨s1, s2, s3⟩ := hs0.addRo mem0_ro (b := b) (off := off) (act3Vals_VL (rhoG 1) xs) (by rw [act3Vals_len]; omega) hat
  have hz : (mem0.new (.ro (act3Cells xs))).get 0 = some (.ro (tabInts.map (AV.int .u8))) := by rw [AMem.get_new, if_neg (by decide)]; exact mem0_zero
  have hone : (mem0.new (.ro (act3Cells xs))).get 1 = some (.ro (act3Cells xs)) := by rw [AMem.get_new, if_pos (show 1 = mem0.next from rfl)]
  have hn : (mem0.new (.ro (act3Cells xs))).next = 2 := rfl
  refine ends5_of s1 (glob0.mono s3) s2 (.sl 1 0 len (some cap) ⟨b, off, 0, 0⟩ cap ?_ hlc (.inl rfl)) (once_run (m := 70009) (by decide) ⟨hlx, hsm, .inr ⟨rfl, hone⟩⟩ i hi hz (by rw [hn]; decide))
  exact Loc.upd_same _ _ _

set_option maxRecDepth 100000 in
theorem poolOnce_lifted (os : Os) (started : os.Started) (H : Type) (enc : TypeId × Value → H) :
    ReturnsInHanded {} Tryd.checked os 5 .any (fun w args => (Rows.poolOnceSpec.pre enc Tryd.prog Tryd.f5 [] false w args ∧ laidMetH Tryd.prog laidTab w) ∧ sizedMet enc Tryd.prog Tryd.f5 (OpenSpec.ofChange Rows.poolOnceSpec) false w args)
      (Rows.poolOnceSpec.post enc Tryd.prog Tryd.f5 false true false false) := by
  refine returnsInHanded_of_change_and (C := Tryd.checked) (X := fun w _ => laidMetH Tryd.prog laidTab w) (fun _ _ _ hh h => h.of_heap hh) own started (by kernel_rfl) Tryd.func5
    (ChangeSpec.witness_shaped (enc := enc) (C := Tryd.checked) (os := os) (X := fun w _ => laidMetH Tryd.prog laidTab w) false (World.doorLaid Tryd.prog 400 os) #[.int .u8 0, .slice none 0 0] 8 rfl (World.shaped_of_RefB (by kernel_rfl) (by kernel_rfl)) (by kernel_rfl) (by kernel_rfl) (by kernel_rfl) (laidMetH_of_parts3 (fuel := 8) (laidMet_of_run' 8 (by kernel_rfl) (by kernel_rfl)) (by kernel_rfl) (by kernel_rfl))) ?_
  intro W base args ds gs before hval0 hW _ _ hL _
  have hval : ∀ (j : Nat) t v, Tryd.f5.params[j]? = some t → args[j]? = some v → Value.okWide Tryd.prog W .any base t v := hval0
  have hW' := hW
  obtain ⟨p, q, hA0, hV, rfl, hfz, hnd⟩ := hW
  obtain ⟨rfl, rfl⟩ := trodVars_none hV
  rw [List.append_nil] at hW'
  have hAk : DataW.TrodAll enc Tryd.prog W 0 (fun _ => true) true Tryd.f5.params.toList args.toList ds p := hA0
  have hA := hAk
  rw [Tryd.params5] at hA hval
  obtain ⟨v0, v1, d0, d1, p0, p1, rfl, rfl, rfl, h0, h1⟩ := trodAll_two hA
  obtain ⟨i, rfl, rfl, rfl, wi⟩ := open_int Tryd.underlying5 (hval 0 5 v0 rfl rfl) h0
  have hwi : IntKind.u8.min ≤ i ∧ i ≤ IntKind.u8.max := by simpa [Lit.wf] using wi
  have m1 : IntKind.u8.min = 0 := rfl
  have m2 : IntKind.u8.max = 255 := rfl
  obtain ⟨k, hk⟩ : ∃ z : Nat, i = z := ⟨i.toNat, by omega⟩
  have hk2 : k < 256 := by omega
  have hs0 := of_laid hL
  have hcalls : Ends5 W i v1 := by
    rw [hk]
    obtain ⟨a1, len1, cap1, rfl⟩ := okWide_slice Tryd.underlying48 (hval 1 48 v1 rfl rfl)
    obtain ⟨fuel, h1⟩ := h1
    have h1' : DataW.trod enc Tryd.prog W 0 (fun _ => true) true fuel 48 [.slice a1 len1 cap1] = some (d1, p1) := h1
    rcases acts3_of_trod h1' with hc | ⟨a, len, cap, hc, hlc, hel⟩
    · rw [hc]; exact ends5_nil hs0 k hk2
    · rw [hc]
      by_cases hz : len = 0
      · subst hz; exact ends5_zero hs0 k hk2 a cap
      · exact ends5_some hs0 k hk2 (by omega) hlc hel
  refine hcalls.mono fun e W' ⟨he, hw⟩ => ?_
  subst he
  exact ⟨_, rfl, post_law laidOut (by kernel_rfl) (by kernel_rfl) Tryd.underlying4 hW' hAk hw rfl rfl rfl rfl⟩

theorem poolOnce_holds : Rows.PoolOnceSaid :=
  OpenClaim.holds_of_wide 5 Tryd.f5 rfl rfl rfl rfl rfl rfl rfl ⟨rfl, rfl, rfl, rfl, rfl⟩ rfl rfl rfl rfl rfl (by kernel_rfl) Tryd.func5 (by kernel_rfl)
    (of_decide_eq_true (by kernel_rfl)) (by unfold Func.isWrapper; first | (rw [if_pos (by decide +kernel)]; kernel_rfl) | (rw [if_neg (by decide +kernel)]; exact ⟨rfl, rfl⟩))
    (fun os started H enc _ => poolOnce_lifted os started H enc)

theorem poolOnce_card : Rows.PoolOnceCardSaid :=
  Claim7.holds_tied_plain_at .later [] [.data] true (true, "551fd8b9a845b4db93ecbcb78f470db0e958c106e55ac1fd3f9b0625f596cb11") false
    poolOnce_holds (fun _ h => by cases h) (by kernel_rfl) (fun _ h => by cases h) poolOnce_row_tie rfl ⟨rfl, rfl⟩ (by kernel_rfl) rfl
    (fun f fn hf hfn => by
      obtain rfl : f = 5 := Option.some.inj ((show Tryd.prog.funcNamed "sluicegate/sluicegatelaw07.PoolOnce" = some 5 by kernel_rfl).symm.trans hf) |>.symm
      obtain rfl : fn = Tryd.f5 := (Option.some.inj (Tryd.func5.symm.trans hfn)).symm
      exact ⟨by kernel_rfl, fun j t ht => by
        rw [Tryd.params5] at ht
        have h3 : t = 5 ∨ t = 48 := by
          rcases j with _ | _ | j
          · left; simpa using ht.symm
          · right; simpa using ht.symm
          · simp at ht
        rcases h3 with rfl | rfl
        · exact (show Tryd.prog.wantsStandIn 5 = false by kernel_rfl)
        · exact (show Tryd.prog.wantsStandIn 48 = false by kernel_rfl)⟩)
    (by kernel_rfl)
#print axioms poolOnce_card
end Go.Proofs.YtiecjbgefkelfaaDoor
