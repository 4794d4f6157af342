/-
  'sluicegatelaw07.PoolPlays': for every input the law returns true; each argument reads behind the call as it read before. Condition: the listed table holds what the program's text lays (tied).
-/
import Derived.Test.YtiecjbgefkelfaaDoorPoolActs
import Derived.Test.YtiecjbgefkelfaaDoorPlaysLoop
namespace Go.Proofs.YtiecjbgefkelfaaDoor
open Go.ChangeShapes Go.WideShapes Go.ChangeAt Go.WideMaps Go.WideElems Go.RowKit Go.Ab
set_option linter.unusedVariables false
set_option linter.unusedSimpArgs false

section
variable {M : AMem} {m : Nat} {s : Option (Nat × Nat)} {l : Nat} {c : Option Nat} {xs : List (Int × Int × Nat)}

theorem pnew_out {n : Int} (h : n < 5 ∨ 65536 < n) (hm : 2 ≤ m) : call m 24 [.int .i64 n] M = some (.tup [.ptr none, .int .i64 2], M) := by
  obtain ⟨f, rfl⟩ : ∃ k, m = k + 1 := ⟨m - 1, by omega⟩
  rw [call, acall_run Tryd.func24 (hk (by decide)), pnew_eq]
  by_cases q : n < 5
  · rw [decide_eq_true q, iT]
  · have h8 := new_out (M := M) (m := f) (i := n) (by omega) (by omega)
    simp only [decide_eq_false q, iF, h8, bO, aT, aC, aP, aI, aN, show ((2 : Int) != 0) = true from rfl, iT]

theorem plays_run (hm : 70001 ≤ m) (hs : Act3In M s l xs) (n : Int) {ask : Nat} (ha : ask < 4294967296) (ht : M.get 0 = some (.ro (tabInts.map (AV.int .u8)))) (hn : 2 ≤ M.next) :
    isT (call (m + 1) 6 [.int .i64 n, .slice s l c, .int .u32 ask] M) = true := by
  rw [call, acall_run Tryd.func6 (hk (by decide)), pp_eq]
  by_cases hin : n < 5 ∨ 65536 < n
  · have e := pnew_out (M := M) (m := m) hin (by omega)
    have e30 := awake7_run (roots_of (by omega) ht) (m := m) (by omega)
    have t1 : ((2 : Int) == 2) = true := rfl
    by_cases q : n < 5
    · simp only [e, bO, aT, aC, aP, aI, aN, decide_eq_true q, tf, iF, iT, eN, show ((true : Bool) != false) = true from rfl, tt, t1, cond_true, e30, aB]
      rfl
    · have q2 : n > 65536 := by omega
      simp only [e, bO, aT, aC, aP, aI, aN, decide_eq_false q, decide_eq_true q2, ff, iF, iT, eN, show ((true : Bool) != false) = true from rfl, tt, t1, cond_true, cond_false, e30, aB]
      rfl
  · obtain ⟨k, rfl⟩ : ∃ k : Nat, n = k := ⟨n.toNat, by omega⟩
    obtain ⟨R, ws, M1, hR, e, hp, hb, hf, hnx⟩ := pnew_run (M := M) (n := k) (by omega) (by omega) hn ht (m := m) (by omega)
    have q1 : decide ((k : Int) < 5) = false := by simp; omega
    have q2 : decide ((k : Int) > 65536) = false := by simp; omega
    have t0 : ((0 : Int) != 0) = false := rfl
    have tff : ((false : Bool) != false) = false := rfl
    by_cases q : k > 200
    · have e4 := pfree_run hp (m := m) (by omega)
      have e5 := held_run hp (m := m) (by omega)
      have e30 := awake7_run hp.roots (m := m) (by omega)
      have q3 : decide ((k : Int) > 200) = true := by simp; omega
      have hw : (((R.n - 1 : Nat) : Int) == IntKind.i64.wrap ((k : Int) - 1)) = true := by rw [wrap_i64 (by omega) (by omega)]; simp; omega
      have t1 : (((1 : Nat) : Int) == 1) = true := rfl
      simp only [e, bO, aT, aC, aP, aI, aN, q1, q2, q3, ff, iT, iF, cond_false, t0, eS, tff, e4, hw, tt, e5, t1, cond_true, e30, aB]
      rfl
    · have q3 : decide ((k : Int) > 200) = false := by simp; omega
      obtain ⟨M2, bs, e6, hr, hbs, hn2, f2⟩ := r7new_run (M := M1) (n := k) (by omega) (by omega) (m := m) (by omega)
      obtain ⟨b1, b2, b3⟩ := hp.lt
      have inv : Inv7 M2 (M.next + 2) R M1.next s l xs 1 ws bs :=
        ⟨hp.grow (by omega) f2, by rw [hR]; exact hr, fun j => by rw [hbs, hb], hs.of ((f2 1 (by omega)).trans (hf 1 (by omega))), ⟨by omega, by omega, by omega, by omega, by omega⟩⟩
      obtain ⟨M', hM'⟩ := pp_loop (c := c) ha hm 60 0 m (qc := some k) inv rfl (by omega) (by omega)
      rw [hR] at hM'
      simp only [e, bO, aT, aC, aP, aI, aN, q1, q2, q3, ff, iT, iF, cond_false, t0, eS, tff, e6, aL]
      exact (congrArg isT hM').trans rfl
end

abbrev Ends6 (W : World) (i : Int) (v1 : Value) (k : Int) : Prop := Calls Tryd.prog 6 #[.int .i64 i, v1, .int .u32 k] W (fun e W' => e = .returned (.bool true) ∧ Below W.heap.size W W')

theorem ends6_of {W : World} {i k : Int} {v1 : Value} {s : Option (Nat × Nat)} {l : Nat} {c : Option Nat} {M : AMem} {ρ : Ab.Loc} (hs : Sim ρ M W) (hg : GlobR Tryd.prog ρ) (ho : ∀ α, M.own α = false) (hv : VR ρ (.slice s l c) v1)
    (ht : isT (call (70009 + 1) 6 [.int .i64 i, .slice s l c, .int .u32 k] M) = true) : Ends6 W i v1 k :=
  calls_true (vs := [.int .i64 i, v1, .int .u32 k]) mixed hookOk ht hs hg (VL.cons (.int _ _) (VL.cons hv (VL.cons (.int _ _) (VL.nil _)))) ho

theorem memE_zero6 : (mem0.new (.ro [])).get 0 = some (.ro (tabInts.map (AV.int .u8))) := by rw [AMem.get_new, if_neg (by decide)]; exact mem0_zero

theorem ends6_nil {W : World} (hs0 : Sim (rhoG 1) mem0 W) (i : Int) (k : Nat) (hk : k < 4294967296) : Ends6 W i (.slice none 0 0) k :=
  ends6_of (hs0.more (.ro [])) glob0 memE_ro .slnil (plays_run (c := some 0) (xs := []) (m := 70009) (by decide) ⟨rfl, (fun x hx => by cases hx), .inl rfl⟩ i hk memE_zero6 (by decide))

theorem ends6_zero {W : World} (hs0 : Sim (rhoG 1) mem0 W) (i : Int) (k : Nat) (hk : k < 4294967296) (a : Addr) (cap : Nat) : Ends6 W i (.slice (some a) 0 cap) k :=
  ends6_of (hs0.more (.ro [])) glob0 memE_ro (.sl0 (0, 0) none a cap (.inl rfl)) (plays_run (xs := []) (m := 70009) (by decide) ⟨rfl, (fun x hx => by cases hx), .inl rfl⟩ i hk memE_zero6 (by decide))

theorem ends6_some {W : World} (hs0 : Sim (rhoG 1) mem0 W) (i : Int) (k : Nat) (hk : k < 4294967296) {a : Addr} {len cap : Nat} (h0 : 0 < len) (hlc : len ≤ cap)
    (hel : ∀ i, i < len → ∃ (q0 q1 : Int) (q2 : Nat), W.cell? (a.add (i * 3)) = some (.int .i64 q0) ∧ W.cell? ((a.add (i * 3)).add 1) = some (.int .i64 q1) ∧ W.cell? ((a.add (i * 3)).add 2) = some (.int .u32 q2) ∧ q2 < 4294967296) : Ends6 W i (.slice (some a) len cap) k := by
  obtain ⟨b, off, xs, rfl, hlx, hsm, hat⟩ := acts3_at h0 hel
  obtain ⟨s1, s2, s3⟩ := hs0.addRo mem0_ro (b := b) (off := off) (act3Vals_VL (rhoG 1) xs) (by rw [act3Vals_len]; omega) hat
  have hz : (mem0.new (.ro (act3Cells xs))).get 0 = some (.ro (tabInts.map (AV.int .u8))) := by rw [AMem.get_new, if_neg (by decide)]; exact mem0_zero
  have hone : (mem0.new (.ro (act3Cells xs))).get 1 = some (.ro (act3Cells xs)) := by rw [AMem.get_new, if_pos (show 1 = mem0.next from rfl)]
  have hn : (mem0.new (.ro (act3Cells xs))).next = 2 := rfl
  refine ends6_of s1 (glob0.mono s3) s2 (.sl 1 0 len (some cap) ⟨b, off, 0, 0⟩ cap ?_ hlc (.inl rfl)) (plays_run (m := 70009) (by decide) ⟨hlx, hsm, .inr ⟨rfl, hone⟩⟩ i hk hz (by rw [hn]; decide))
  exact Loc.upd_same _ _ _

set_option maxRecDepth 100000 in
theorem poolPlays_lifted (os : Os) (started : os.Started) (H : Type) (enc : TypeId × Value → H) :
    ReturnsInHanded {} Tryd.checked os 6 .any (fun w args => (Rows.poolPlaysSpec.pre enc Tryd.prog Tryd.f6 [] false w args ∧ laidMetH Tryd.prog laidTab w) ∧ sizedMet enc Tryd.prog Tryd.f6 (OpenSpec.ofChange Rows.poolPlaysSpec) false w args)
      (Rows.poolPlaysSpec.post enc Tryd.prog Tryd.f6 false true false false) := by
  refine returnsInHanded_of_change_and (C := Tryd.checked) (X := fun w _ => laidMetH Tryd.prog laidTab w) (fun _ _ _ hh h => h.of_heap hh) own started (by kernel_rfl) Tryd.func6
    (ChangeSpec.witness_shaped (enc := enc) (C := Tryd.checked) (os := os) (X := fun w _ => laidMetH Tryd.prog laidTab w) false (World.doorLaid Tryd.prog 400 os) #[.int .i64 0, .slice none 0 0, .int .u32 0] 8 rfl (World.shaped_of_RefB (by kernel_rfl) (by kernel_rfl)) (by kernel_rfl) (by kernel_rfl) (by kernel_rfl) (laidMetH_of_parts3 (fuel := 8) (laidMet_of_run' 8 (by kernel_rfl) (by kernel_rfl)) (by kernel_rfl) (by kernel_rfl))) ?_
  intro W base args ds gs before hval0 hW _ _ hL _
  have hval : ∀ (j : Nat) t v, Tryd.f6.params[j]? = some t → args[j]? = some v → Value.okWide Tryd.prog W .any base t v := hval0
  have hW' := hW
  obtain ⟨p, q, hA0, hV, rfl, hfz, hnd⟩ := hW
  obtain ⟨rfl, rfl⟩ := trodVars_none hV
  rw [List.append_nil] at hW'
  have hAk : DataW.TrodAll enc Tryd.prog W 0 (fun _ => true) true Tryd.f6.params.toList args.toList ds p := hA0
  have hA := hAk
  rw [Tryd.params6] at hA hval
  obtain ⟨v0, v1, v2, d0, d1, d2, p0, p1, p2, rfl, rfl, rfl, h0, h1, h2⟩ := trodAll_three hA
  obtain ⟨i, rfl, rfl, rfl, wi⟩ := open_int Tryd.underlying3 (hval 0 3 v0 rfl rfl) h0
  obtain ⟨k, rfl, rfl, rfl, wk⟩ := open_int Tryd.underlying52 (hval 2 52 v2 rfl rfl) h2
  have hwk : IntKind.u32.min ≤ k ∧ k ≤ IntKind.u32.max := by simpa [Lit.wf] using wk
  have m1 : IntKind.u32.min = 0 := rfl
  have m2 : IntKind.u32.max = 4294967295 := rfl
  obtain ⟨kn, hkn⟩ : ∃ z : Nat, k = z := ⟨k.toNat, by omega⟩
  have hk2 : kn < 4294967296 := by omega
  have hs0 := of_laid hL
  have hcalls : Ends6 W i v1 k := by
    rw [hkn]
    obtain ⟨a1, len1, cap1, rfl⟩ := okWide_slice Tryd.underlying48 (hval 1 48 v1 rfl rfl)
    obtain ⟨fuel, h1⟩ := h1
    have h1' : DataW.trod enc Tryd.prog W 0 (fun _ => true) true fuel 48 [.slice a1 len1 cap1] = some (d1, p1) := h1
    rcases acts3_of_trod h1' with hc | ⟨a, len, cap, hc, hlc, hel⟩
    · rw [hc]; exact ends6_nil hs0 i kn hk2
    · rw [hc]
      by_cases hz : len = 0
      · subst hz; exact ends6_zero hs0 i kn hk2 a cap
      · exact ends6_some hs0 i kn hk2 (by omega) hlc hel
  refine hcalls.mono fun e W' ⟨he, hw⟩ => ?_
  subst he
  exact ⟨_, rfl, post_law laidOut (by kernel_rfl) (by kernel_rfl) Tryd.underlying4 hW' hAk hw rfl rfl rfl rfl⟩

theorem poolPlays_holds : Rows.PoolPlaysSaid :=
  OpenClaim.holds_of_wide 6 Tryd.f6 rfl rfl rfl rfl rfl rfl rfl ⟨rfl, rfl, rfl, rfl, rfl⟩ rfl rfl rfl rfl rfl (by kernel_rfl) Tryd.func6 (by kernel_rfl)
    (of_decide_eq_true (by kernel_rfl)) (by unfold Func.isWrapper; first | (rw [if_pos (by decide +kernel)]; kernel_rfl) | (rw [if_neg (by decide +kernel)]; exact ⟨rfl, rfl⟩))
    (fun os started H enc _ => poolPlays_lifted os started H enc)

theorem poolPlays_card : Rows.PoolPlaysCardSaid :=
  Claim7.holds_tied_plain_at .later [] [.data] true (true, "551fd8b9a845b4db93ecbcb78f470db0e958c106e55ac1fd3f9b0625f596cb11") false
    poolPlays_holds (fun _ h => by cases h) (by kernel_rfl) (fun _ h => by cases h) poolPlays_row_tie rfl ⟨rfl, rfl⟩ (by kernel_rfl) rfl
    (fun f fn hf hfn => by
      obtain rfl : f = 6 := Option.some.inj ((show Tryd.prog.funcNamed "sluicegate/sluicegatelaw07.PoolPlays" = some 6 by kernel_rfl).symm.trans hf) |>.symm
      obtain rfl : fn = Tryd.f6 := (Option.some.inj (Tryd.func6.symm.trans hfn)).symm
      exact ⟨by kernel_rfl, fun j t ht => by
        rw [Tryd.params6] at ht
        have h3 : t = 3 ∨ t = 48 ∨ t = 52 := by
          rcases j with _ | _ | _ | j
          · left; simpa using ht.symm
          · right; left; simpa using ht.symm
          · right; right; simpa using ht.symm
          · simp at ht
        rcases h3 with rfl | rfl | rfl
        · exact (show Tryd.prog.wantsStandIn 3 = false by kernel_rfl)
        · exact (show Tryd.prog.wantsStandIn 48 = false by kernel_rfl)
        · exact (show Tryd.prog.wantsStandIn 52 = false by kernel_rfl)⟩)
    (by kernel_rfl)
#print axioms poolPlays_card
end Go.Proofs.YtiecjbgefkelfaaDoor
