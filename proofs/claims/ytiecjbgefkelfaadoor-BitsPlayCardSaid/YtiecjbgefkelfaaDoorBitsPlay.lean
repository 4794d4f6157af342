/-
  'sluicegatelaw04.BitsPlay': for every input the law returns true; each argument reads behind the call as it read before. Condition: the listed table holds what the program's text lays (tied).
-/
import Derived.Test.YtiecjbgefkelfaaDoorBitsTab
import Derived.Test.YtiecjbgefkelfaaDoorBitsPlayRun
namespace Go.Proofs.YtiecjbgefkelfaaDoor
open Go.ChangeShapes Go.WideShapes Go.ChangeAt Go.WideMaps Go.WideElems Go.RowKit Go.Ab

/-! ### a slice of pairs of numbers -/
def actVals (xs : List (Int × Int)) : List Value := xs.flatMap fun x => [.int .i64 x.1, .int .i64 x.2]

theorem actVals_get : ∀ {xs : List (Int × Int)} {w : Nat}, w < xs.length → (actVals xs)[w * 2 + 0]? = some (.int .i64 (xs.getD w (0, 0)).1) ∧ (actVals xs)[w * 2 + 1]? = some (.int .i64 (xs.getD w (0, 0)).2)
  | [], w, h => absurd h (Nat.not_lt_zero _)
  | x :: xs, 0, _ => ⟨rfl, rfl⟩
  | x :: xs, w + 1, h => by
    have := actVals_get (xs := xs) (w := w) (by simpa using h)
    have e : ∀ b, (w + 1) * 2 + b = (w * 2 + b) + 1 + 1 := fun b => by omega
    show (Value.int .i64 x.1 :: Value.int .i64 x.2 :: actVals xs)[_]? = _ ∧ (Value.int .i64 x.1 :: Value.int .i64 x.2 :: actVals xs)[_]? = _
    rw [e, e, List.getElem?_cons_succ, List.getElem?_cons_succ, List.getElem?_cons_succ, List.getElem?_cons_succ]
    simpa using this

theorem actVals_len : ∀ xs : List (Int × Int), (actVals xs).length = xs.length * 2
  | [] => rfl
  | x :: xs => by
    show (Value.int .i64 x.1 :: Value.int .i64 x.2 :: actVals xs).length = _
    rw [List.length_cons, List.length_cons, actVals_len xs, List.length_cons]; omega

theorem actVals_VL (ρ : Ab.Loc) : ∀ xs : List (Int × Int), VL ρ (actCells xs) (actVals xs)
  | [] => VL.nil ρ
  | x :: xs => VL.cons (.int _ _) (VL.cons (.int _ _) (actVals_VL ρ xs))

theorem acts_at {W : World} {a : Addr} {len : Nat} (h0 : 0 < len) (hel : ∀ i, i < len → ∃ q0 q1 : Int, W.cell? (a.add (i * 2)) = some (.int .i64 q0) ∧ W.cell? ((a.add (i * 2)).add 1) = some (.int .i64 q1)) :
    ∃ (b off : Nat) (xs : List (Int × Int)), a = ⟨b, off, none⟩ ∧ xs.length = len ∧ ∀ j (hj : j < (actVals xs).length), W.cell? ⟨b, off + j, none⟩ = some (actVals xs)[j] := by
  obtain ⟨b, off, spot⟩ := a
  obtain ⟨_, _, h1, _⟩ := hel 0 h0
  have hspot : spot = none := by
    have h := World.cell?_spot h1
    simpa [Addr.add] using h
  subst hspot
  let g : Nat → Int × Int := fun i => if h : i < len then ((hel i h).choose, (hel i h).choose_spec.choose) else (0, 0)
  have hg : ∀ i, i < len → W.cell? ⟨b, off + i * 2, none⟩ = some (.int .i64 (g i).1) ∧ W.cell? ⟨b, off + i * 2 + 1, none⟩ = some (.int .i64 (g i).2) := fun i hi => by
    have hs := (hel i hi).choose_spec.choose_spec
    have e : g i = ((hel i hi).choose, (hel i hi).choose_spec.choose) := by simp only [g, dif_pos hi]
    rw [e]
    refine ⟨?_, ?_⟩
    · rw [← hs.1, add_none]
    · rw [← hs.2, add_none, add_none]
  have hxl : ((List.range len).map g).length = len := by simp
  refine ⟨b, off, (List.range len).map g, rfl, hxl, fun j hj => ?_⟩
  rw [actVals_len, hxl] at hj
  have hw : j / 2 < len := by omega
  have hv := actVals_get (xs := (List.range len).map g) (w := j / 2) (by rw [hxl]; exact hw)
  have hgd : ((List.range len).map g).getD (j / 2) (0, 0) = g (j / 2) := by
    rw [List.getD_eq_getElem?_getD, List.getElem?_map, List.getElem?_range hw]; rfl
  rw [hgd] at hv
  have hgj := hg _ hw
  have key : (actVals ((List.range len).map g))[j]? = W.cell? ⟨b, off + j, none⟩ := by
    rcases Nat.mod_two_eq_zero_or_one j with e | e
    · have : j = j / 2 * 2 + 0 := by omega
      rw [this, hv.1, ← hgj.1]
      congr 2
    · have : j = j / 2 * 2 + 1 := by omega
      rw [this, hv.2, ← hgj.2]
      congr 2
  rw [← key, List.getElem?_eq_getElem]

theorem acts_of_trod {H : Type} {enc : TypeId × Value → H} {W : World} {base fuel : Nat} {spare : Nat → Bool} {held : Bool} {v : Value} {x : DataW H × List MemPlace} (h : DataW.trod enc Tryd.prog W base spare held fuel 36 [v] = some x) :
    v = .slice none 0 0 ∨ ∃ (a : Addr) (len cap : Nat), v = .slice (some a) len cap ∧ len ≤ cap ∧ ∀ i, i < len → ∃ q0 q1 : Int, W.cell? (a.add (i * 2)) = some (.int .i64 q0) ∧ W.cell? ((a.add (i * 2)).add 1) = some (.int .i64 q1) := by
  have c40 : Tryd.prog.cellsOf 40 = 2 := by kernel_rfl
  have c3 : Tryd.prog.cellsOf 3 = 1 := by kernel_rfl
  rcases DataW.trod_slice Tryd.underlying36 h with ⟨h0, _⟩ | ⟨a, len, cap, elems, rest, n, _, hv, _, _, hl, _, hlen, hel, _, _⟩
  · left; simpa using h0
  · right
    refine ⟨a, len, cap, by simpa using hv, hl, fun i hi => ?_⟩
    have hy := hel i hi
    rw [List.getElem?_eq_getElem (by omega), Option.bind_eq_some_iff, c40] at hy
    obtain ⟨cs, hcs, hy⟩ := hy
    obtain ⟨_, hcl, hcell⟩ := World.cells?_some hcs
    obtain ⟨y0, y1, n', _, _, t0, t1⟩ := trod_struct2 Tryd.underlying40 hy
    match cs, hcl with
    | [u0, u1], _ =>
      simp only [c3, List.drop_zero, List.take_succ_cons, List.take_zero, List.drop_succ_cons] at t0 t1
      obtain ⟨q0, e0, _, _⟩ := DataW.trod_int Tryd.underlying3 t0
      obtain ⟨q1, e1, _, _⟩ := DataW.trod_int Tryd.underlying3 t1
      have hc0 := hcell 0 (by omega)
      have hc1 := hcell 1 (by omega)
      refine ⟨q0, q1, ?_, ?_⟩
      · have : (a.add (i * 2)).add 0 = a.add (i * 2) := by simp [Addr.add]
        rw [this] at hc0
        rw [hc0]
        simp at e0
        simp [e0]
      · rw [hc1]
        simp at e1
        simp [e1]

abbrev Ends4 (W : World) (i : Int) (v1 : Value) (k : Int) : Prop := Calls Tryd.prog 4 #[.int .i64 i, v1, .int .i64 k] W (fun e W' => e = .returned (.bool true) ∧ Below W.heap.size W W')

theorem ends4_of {W : World} {i k : Int} {v1 : Value} {s : Option (Nat × Nat)} {l : Nat} {c : Option Nat} {M : AMem} {ρ : Ab.Loc} (hs : Sim ρ M W) (hg : GlobR Tryd.prog ρ) (ho : ∀ α, M.own α = false) (hv : VR ρ (.slice s l c) v1)
    (ht : isT (call (70009 + 1) 4 [.int .i64 i, .slice s l c, .int .i64 k] M) = true) : Ends4 W i v1 k :=
  calls_true (vs := [.int .i64 i, v1, .int .i64 k]) mixed hookOk ht hs hg (VL.cons (.int _ _) (VL.cons hv (VL.cons (.int _ _) (VL.nil _)))) ho

theorem memE_zero4 : (mem0.new (.ro [])).get 0 = some (.ro (tabInts.map (AV.int .u8))) := by rw [AMem.get_new, if_neg (by decide)]; exact mem0_zero

theorem ends4_nil {W : World} (hs0 : Sim (rhoG 1) mem0 W) (i k : Int) : Ends4 W i (.slice none 0 0) k :=
  ends4_of (hs0.more (.ro [])) glob0 memE_ro .slnil (play_run (c := some 0) (xs := []) (m := 70009) (by decide) ⟨rfl, .inl rfl⟩ i k (roots_of (by decide) memE_zero4) memE_zero4 (by decide))

theorem ends4_zero {W : World} (hs0 : Sim (rhoG 1) mem0 W) (i k : Int) (a : Addr) (cap : Nat) : Ends4 W i (.slice (some a) 0 cap) k :=
  ends4_of (hs0.more (.ro [])) glob0 memE_ro (.sl0 (0, 0) none a cap (.inl rfl)) (play_run (xs := []) (m := 70009) (by decide) ⟨rfl, .inl rfl⟩ i k (roots_of (by decide) memE_zero4) memE_zero4 (by decide))

theorem ends4_some {W : World} (hs0 : Sim (rhoG 1) mem0 W) (i k : Int) {a : Addr} {len cap : Nat} (h0 : 0 < len) (hlc : len ≤ cap)
    (hel : ∀ i, i < len → ∃ q0 q1 : Int, W.cell? (a.add (i * 2)) = some (.int .i64 q0) ∧ W.cell? ((a.add (i * 2)).add 1) = some (.int .i64 q1)) : Ends4 W i (.slice (some a) len cap) k := by
  obtain ⟨b, off, xs, rfl, hlx, hat⟩ := acts_at h0 hel
  obtain ⟨s1, s2, s3⟩ := hs0.addRo mem0_ro (b := b) (off := off) (actVals_VL (rhoG 1) xs) (by rw [actVals_len]; omega) hat
  have hz : (mem0.new (.ro (actCells xs))).get 0 = some (.ro (tabInts.map (AV.int .u8))) := by rw [AMem.get_new, if_neg (by decide)]; exact mem0_zero
  have hone : (mem0.new (.ro (actCells xs))).get 1 = some (.ro (actCells xs)) := by rw [AMem.get_new, if_pos (show 1 = mem0.next from rfl)]
  have hn : (mem0.new (.ro (actCells xs))).next = 2 := rfl
  refine ends4_of s1 (glob0.mono s3) s2 (.sl 1 0 len (some cap) ⟨b, off, 0, 0⟩ cap ?_ hlc (.inl rfl)) (play_run (m := 70009) (by decide) ⟨hlx, .inr ⟨rfl, hone⟩⟩ i k (roots_of (by rw [hn]; decide) hz) hz (by rw [hn]; decide))
  exact Loc.upd_same _ _ _

set_option maxRecDepth 100000 in
theorem bitsPlay_lifted (os : Os) (started : os.Started) (H : Type) (enc : TypeId × Value → H) :
    ReturnsInHanded {} Tryd.checked os 4 .any (fun w args => (Rows.bitsPlaySpec.pre enc Tryd.prog Tryd.f4 [] false w args ∧ laidMetH Tryd.prog laidTab w) ∧ sizedMet enc Tryd.prog Tryd.f4 (OpenSpec.ofChange Rows.bitsPlaySpec) false w args)
      (Rows.bitsPlaySpec.post enc Tryd.prog Tryd.f4 false true false false) := by
  refine returnsInHanded_of_change_and (C := Tryd.checked) (X := fun w _ => laidMetH Tryd.prog laidTab w) (fun _ _ _ hh h => h.of_heap hh) own started (by kernel_rfl) Tryd.func4
    (ChangeSpec.witness_shaped (enc := enc) (C := Tryd.checked) (os := os) (X := fun w _ => laidMetH Tryd.prog laidTab w) false (World.doorLaid Tryd.prog 400 os) #[.int .i64 0, .slice none 0 0, .int .i64 0] 8 rfl (World.shaped_of_RefB (by kernel_rfl) (by kernel_rfl)) (by kernel_rfl) (by kernel_rfl) (by kernel_rfl) (laidMetH_of_parts3 (fuel := 8) (laidMet_of_run' 8 (by kernel_rfl) (by kernel_rfl)) (by kernel_rfl) (by kernel_rfl))) ?_
  intro W base args ds gs before hval0 hW _ _ hL _
  have hval : ∀ (j : Nat) t v, Tryd.f4.params[j]? = some t → args[j]? = some v → Value.okWide Tryd.prog W .any base t v := hval0
  have hW' := hW
  obtain ⟨p, q, hA0, hV, rfl, hfz, hnd⟩ := hW
  obtain ⟨rfl, rfl⟩ := trodVars_none hV
  rw [List.append_nil] at hW'
  have hAk : DataW.TrodAll enc Tryd.prog W 0 (fun _ => true) true Tryd.f4.params.toList args.toList ds p := hA0
  have hA := hAk
  rw [Tryd.params4] at hA hval
  obtain ⟨v0, v1, v2, d0, d1, d2, p0, p1, p2, rfl, rfl, rfl, h0, h1, h2⟩ := trodAll_three hA
  obtain ⟨i, rfl, rfl, rfl, wi⟩ := open_int Tryd.underlying3 (hval 0 3 v0 rfl rfl) h0
  obtain ⟨k, rfl, rfl, rfl, wk⟩ := open_int Tryd.underlying3 (hval 2 3 v2 rfl rfl) h2
  have hs0 := of_laid hL
  have hcalls : Ends4 W i v1 k := by
    obtain ⟨a1, len1, cap1, rfl⟩ := okWide_slice Tryd.underlying36 (hval 1 36 v1 rfl rfl)
    obtain ⟨fuel, h1⟩ := h1
    have h1' : DataW.trod enc Tryd.prog W 0 (fun _ => true) true fuel 36 [.slice a1 len1 cap1] = some (d1, p1) := h1
    rcases acts_of_trod h1' with hc | ⟨a, len, cap, hc, hlc, hel⟩
    · rw [hc]; exact ends4_nil hs0 i k
    · rw [hc]
      by_cases hz : len = 0
      · subst hz; exact ends4_zero hs0 i k a cap
      · exact ends4_some hs0 i k (by omega) hlc hel
  refine hcalls.mono fun e W' ⟨he, hw⟩ => ?_
  subst he
  exact ⟨_, rfl, post_law laidOut (by kernel_rfl) (by kernel_rfl) Tryd.underlying4 hW' hAk hw rfl rfl rfl rfl⟩

theorem bitsPlay_holds : Rows.BitsPlaySaid :=
  OpenClaim.holds_of_wide 4 Tryd.f4 rfl rfl rfl rfl rfl rfl rfl ⟨rfl, rfl, rfl, rfl, rfl⟩ rfl rfl rfl rfl rfl (by kernel_rfl) Tryd.func4 (by kernel_rfl)
    (of_decide_eq_true (by kernel_rfl)) (by unfold Func.isWrapper; first | (rw [if_pos (by decide +kernel)]; kernel_rfl) | (rw [if_neg (by decide +kernel)]; exact ⟨rfl, rfl⟩))
    (fun os started H enc _ => bitsPlay_lifted os started H enc)

theorem bitsPlay_card : Rows.BitsPlayCardSaid :=
  Claim7.holds_tied_plain_at .later [] [.data] true (true, "551fd8b9a845b4db93ecbcb78f470db0e958c106e55ac1fd3f9b0625f596cb11") false
    bitsPlay_holds (fun _ h => by cases h) (by kernel_rfl) (fun _ h => by cases h) bitsPlay_row_tie rfl ⟨rfl, rfl⟩ (by kernel_rfl) rfl
    (fun f fn hf hfn => by
      obtain rfl : f = 4 := Option.some.inj ((show Tryd.prog.funcNamed "sluicegate/sluicegatelaw04.BitsPlay" = some 4 by kernel_rfl).symm.trans hf) |>.symm
      obtain rfl : fn = Tryd.f4 := (Option.some.inj (Tryd.func4.symm.trans hfn)).symm
      exact ⟨by kernel_rfl, fun j t ht => by
        rw [Tryd.params4] at ht
        have h3 : t = 3 ∨ t = 36 := by
          rcases j with _ | _ | _ | j
          · left; simpa using ht.symm
          · right; simpa using ht.symm
          · left; simpa using ht.symm
          · simp at ht
        rcases h3 with rfl | rfl
        · exact (show Tryd.prog.wantsStandIn 3 = false by kernel_rfl)
        · exact (show Tryd.prog.wantsStandIn 36 = false by kernel_rfl)⟩)
    (by kernel_rfl)
#print axioms bitsPlay_card
end Go.Proofs.YtiecjbgefkelfaaDoor
