/-
  'sluicegatelaw04.BitsAll': for every input the law returns true; each argument reads behind the call as it read before. Condition: the listed table holds what the program's text lays (tied).
-/
import Derived.Test.YtiecjbgefkelfaaDoorCards
import Derived.Test.YtiecjbgefkelfaaDoorBitsAllRun
import Derived.Test.YtiecjbgefkelfaaDoorAbLaw
namespace Go.Proofs.YtiecjbgefkelfaaDoor
open Go.ChangeShapes Go.WideShapes Go.ChangeAt Go.WideMaps Go.WideElems Go.RowKit Go.Ab

theorem own : ownKnob Tryd.prog.godebug = none := by kernel_rfl
theorem mixed : Tryd.prog.follows .mixedOrders = true := by kernel_rfl
theorem laidOut : laidOutB Tryd.prog = true := by kernel_rfl
theorem oneGlobal : Tryd.prog.globals.size = 1 := by kernel_rfl
theorem gTab : Tryd.prog.globalNamed "math/bits.deBruijn64tab" = some 0 := by kernel_rfl
theorem tTab : (Tryd.prog.globals[0]?).map (·.type) = some 84 := by kernel_rfl

def laidTab : List (String × DataW Unit) := [("math/bits.deBruijn64tab", Rows.laid_math_bits_deBruijn64tab)]

theorem mem0_get {g : Nat} {B : ABlk} (h : mem0.get g = some B) : g = 0 ∧ B = .ro (tabInts.map (AV.int .u8)) := by
  unfold mem0 at h
  rw [AMem.get_new] at h
  by_cases q : g = 0
  · rw [if_pos q] at h; cases h; exact ⟨q, rfl⟩
  · rw [if_neg q] at h
    have : (Tri.nil : Tri ABlk).get g = none := Tri.get_nil g
    unfold AMem.get at h
    rw [this] at h; cases h

theorem mem0_ro (α : Nat) : mem0.own α = false := by
  unfold AMem.own
  cases h : mem0.get α with
  | none => rfl
  | some B => obtain ⟨_, rfl⟩ := mem0_get h; rfl

theorem of_laid {W : World} (h : laidMetH Tryd.prog laidTab W) : Sim (rhoG 1) mem0 W := by
  rw [MakeChecks.laidMetH_plain _ _ _ (by kernel_rfl)] at h
  obtain ⟨ps, ⟨g0, t0, cs0, f0, p0, q0, hg0, ht0, hv0, hd0, _, _⟩, _, _⟩ := h
  obtain rfl := Option.some.inj (gTab.symm.trans hg0)
  obtain rfl := Option.some.inj (tTab.symm.trans ht0)
  have hcs := ints_of_trod (ns := tabInts) Tryd.underlying84 Tryd.underlying5 (by kernel_rfl) (by kernel_rfl) hd0
  have hlt : 0 < W.heap.size := by
    unfold World.var? at hv0
    rw [hg0] at hv0
    simp only [Option.bind_some] at hv0
    cases q : W.heap[0]? with
    | none => rw [q] at hv0; cases hv0
    | some o => exact (Array.getElem?_eq_some_iff.1 q).1
  refine Sim.start (M := mem0) hlt fun g B hB => ?_
  obtain ⟨rfl, rfl⟩ := mem0_get hB
  exact ⟨Nat.zero_lt_one, rfl, BlkR.table hg0 hv0 hcs⟩

theorem glob0 : GlobR Tryd.prog (rhoG 1) := fun g hg => by
  rw [oneGlobal] at hg
  unfold rhoG
  rw [if_pos hg]

theorem awake04 : ∃ M', acall Tryd.prog noH 200 9 [] mem0 = some (.bool true, M') := by
  have h : isT (acall Tryd.prog noH 200 9 [] mem0) = true := by kernel_rfl
  cases e : acall Tryd.prog noH 200 9 [] mem0 with
  | none => rw [e] at h; cases h
  | some r =>
    obtain ⟨v, M'⟩ := r
    rw [e] at h
    unfold isT at h
    split at h
    · rename_i q; cases q; exact ⟨M', rfl⟩
    · cases h

theorem hookOk : HookOk Tryd.prog HK := by
  obtain ⟨M', h⟩ := awake04
  exact pureHook_ok mixed h rfl (by rw [oneGlobal]; exact Nat.le_refl _)

theorem roots_of {M : AMem} (h1 : 1 ≤ M.next) (h0 : M.get 0 = some (.ro (tabInts.map (AV.int .u8)))) : Roots mem0 M := by
  refine ⟨h1, fun α B e => ?_, fun α B e => ?_⟩
  · obtain ⟨rfl, rfl⟩ := mem0_get e; exact h0
  · obtain ⟨rfl, rfl⟩ := mem0_get e; exact ⟨Nat.zero_lt_one, _, rfl, by decide⟩

theorem memE_ro (α : Nat) : (mem0.new (.ro [])).own α = false := by
  unfold AMem.own
  rw [AMem.get_new]
  by_cases q : α = mem0.next
  · rw [if_pos q]; rfl
  · rw [if_neg q]; exact mem0_ro α

theorem mem0_zero : mem0.get 0 = some (.ro (tabInts.map (AV.int .u8))) := rfl

/-- a row of 16-bit numbers, as the evaluator takes it -/
theorem ints16 (zs : List Int) (h : ∀ n ∈ zs, (Lit.int .u16 n).wf = true) : ∃ xs : List Nat, zs = xs.map (fun x : Nat => (x : Int)) ∧ ∀ x ∈ xs, x < 65536 := by
  refine ⟨zs.map Int.toNat, ?_, ?_⟩
  · rw [List.map_map]
    have : ∀ z ∈ zs, ((fun x : Nat => (x : Int)) ∘ Int.toNat) z = z := fun z hz => by
      have := bounds_u16 (h z hz)
      show ((z.toNat : Nat) : Int) = z
      omega
    rw [List.map_congr_left this]; simp
  · intro x hx
    obtain ⟨z, hz, rfl⟩ := List.mem_map.1 hx
    have := bounds_u16 (h z hz)
    omega

abbrev Ends (W : World) (i : Int) (v1 : Value) : Prop := Calls Tryd.prog 3 #[.int .i64 i, v1] W (fun e W' => e = .returned (.bool true) ∧ Below W.heap.size W W')

theorem ends_of {W : World} {i : Int} {v1 : Value} {s : Option (Nat × Nat)} {l : Nat} {c : Option Nat} {M : AMem} {ρ : Ab.Loc} (hs : Sim ρ M W) (hg : GlobR Tryd.prog ρ) (ho : ∀ α, M.own α = false) (hv : VR ρ (.slice s l c) v1)
    (ht : isT (call 70010 3 [.int .i64 i, .slice s l c] M) = true) : Ends W i v1 :=
  calls_true (vs := [.int .i64 i, v1]) mixed hookOk ht hs hg (VL.cons (.int _ _) (VL.cons hv (VL.nil _))) ho

theorem memE_zero : (mem0.new (.ro [])).get 0 = some (.ro (tabInts.map (AV.int .u8))) := by rw [AMem.get_new, if_neg (by decide)]; exact mem0_zero

theorem ends_nil {W : World} (hs0 : Sim (rhoG 1) mem0 W) (i : Int) : Ends W i (.slice none 0 0) :=
  ends_of (hs0.more (.ro [])) glob0 memE_ro .slnil (all_run (c := some 0) (xs := []) ⟨rfl, .inl rfl⟩ (fun x hx => by cases hx) i (roots_of (by decide) memE_zero) memE_zero (by decide))

theorem ends_zero {W : World} (hs0 : Sim (rhoG 1) mem0 W) (i : Int) (a : Addr) (cap : Nat) : Ends W i (.slice (some a) 0 cap) :=
  ends_of (hs0.more (.ro [])) glob0 memE_ro (.sl0 (0, 0) none a cap (.inl rfl)) (all_run (xs := []) ⟨rfl, .inl rfl⟩ (fun x hx => by cases hx) i (roots_of (by decide) memE_zero) memE_zero (by decide))

theorem ends_some {W : World} (hs0 : Sim (rhoG 1) mem0 W) (i : Int) {b off len cap : Nat} {zs : List Int} (h0 : 0 < len) (hlc : len ≤ cap) (hlen : zs.length = cap) (hwf : ∀ n ∈ zs, (Lit.int .u16 n).wf = true)
    (hat : ∀ j, j < zs.length → W.cell? ⟨b, off + j, none⟩ = some (.int .u16 (zs.getD j 0))) : Ends W i (.slice (some ⟨b, off, none⟩) len cap) := by
  obtain ⟨xs, hxs, hxl⟩ := ints16 (zs.take len) (fun n hn => hwf n (List.mem_of_mem_take hn))
  have hlx : xs.length = len := by
    have := congrArg List.length hxs
    rw [List.length_take, List.length_map] at this
    omega
  have hvl : VL (rhoG 1) (xs.map fun x : Nat => AV.int .u16 (x : Int)) ((zs.take len).map (Value.int .u16)) := by
    rw [hxs]
    have := VL.ints (rhoG 1) .u16 (xs.map fun x : Nat => (x : Int))
    rw [List.map_map] at this
    exact this
  obtain ⟨s1, s2, s3⟩ := hs0.addRo mem0_ro (b := b) (off := off) hvl (by rw [List.length_map, List.length_take]; omega) (fun j hj => by
    rw [List.length_map, List.length_take] at hj
    rw [hat j (by omega), List.getElem_map, List.getElem_take, List.getD_eq_getElem?_getD, List.getElem?_eq_getElem (by omega)]; rfl)
  have hz : (mem0.new (.ro (xs.map fun x : Nat => AV.int .u16 (x : Int)))).get 0 = some (.ro (tabInts.map (AV.int .u8))) := by rw [AMem.get_new, if_neg (by decide)]; exact mem0_zero
  have hone : (mem0.new (.ro (xs.map fun x : Nat => AV.int .u16 (x : Int)))).get 1 = some (.ro (xs.map fun x : Nat => AV.int .u16 (x : Int))) := by rw [AMem.get_new, if_pos (show 1 = mem0.next from rfl)]
  have hn : (mem0.new (.ro (xs.map fun x : Nat => AV.int .u16 (x : Int)))).next = 2 := rfl
  refine ends_of s1 (glob0.mono s3) s2 (.sl 1 0 len (some cap) ⟨b, off, 0, 0⟩ cap ?_ hlc (.inl rfl)) (all_run ⟨hlx, .inr ⟨rfl, hone⟩⟩ hxl i (roots_of (by rw [hn]; decide) hz) hz (by rw [hn]; decide))
  exact Loc.upd_same _ _ _

set_option maxRecDepth 100000 in
theorem bitsAll_lifted (os : Os) (started : os.Started) (H : Type) (enc : TypeId × Value → H) :
    ReturnsInHanded {} Tryd.checked os 3 .any (fun w args => (Rows.bitsAllSpec.pre enc Tryd.prog Tryd.f3 [] false w args ∧ laidMetH Tryd.prog laidTab w) ∧ sizedMet enc Tryd.prog Tryd.f3 (OpenSpec.ofChange Rows.bitsAllSpec) false w args)
      (Rows.bitsAllSpec.post enc Tryd.prog Tryd.f3 false true false false) := by
  refine returnsInHanded_of_change_and (C := Tryd.checked) (X := fun w _ => laidMetH Tryd.prog laidTab w) (fun _ _ _ hh h => h.of_heap hh) own started (by kernel_rfl) Tryd.func3
    (ChangeSpec.witness_shaped (enc := enc) (C := Tryd.checked) (os := os) (X := fun w _ => laidMetH Tryd.prog laidTab w) false (World.doorLaid Tryd.prog 400 os) #[.int .i64 0, .slice none 0 0] 8 rfl (World.shaped_of_RefB (by kernel_rfl) (by kernel_rfl)) (by kernel_rfl) (by kernel_rfl) (by kernel_rfl) (laidMetH_of_parts3 (fuel := 8) (laidMet_of_run' 8 (by kernel_rfl) (by kernel_rfl)) (by kernel_rfl) (by kernel_rfl))) ?_
  intro W base args ds gs before hval0 hW _ _ hL _
  have hval : ∀ (j : Nat) t v, Tryd.f3.params[j]? = some t → args[j]? = some v → Value.okWide Tryd.prog W .any base t v := hval0
  have hW' := hW
  obtain ⟨p, q, hA0, hV, rfl, hfz, hnd⟩ := hW
  obtain ⟨rfl, rfl⟩ := trodVars_none hV
  rw [List.append_nil] at hW'
  have hAk : DataW.TrodAll enc Tryd.prog W 0 (fun _ => true) true Tryd.f3.params.toList args.toList ds p := hA0
  have hA := hAk
  rw [Tryd.params3] at hA hval
  obtain ⟨v0, v1, d0, d1, p0, p1, rfl, rfl, rfl, h0, h1⟩ := trodAll_two hA
  obtain ⟨i, rfl, rfl, rfl, wi⟩ := open_int Tryd.underlying3 (hval 0 3 v0 rfl rfl) h0
  have hs0 := of_laid hL
  have hcalls : Ends W i v1 := by
    obtain ⟨a1, len1, cap1, rfl⟩ := okWide_slice Tryd.underlying22 (hval 1 22 v1 rfl rfl)
    obtain ⟨fuel, h1⟩ := h1
    rcases open_ints Tryd.underlying22 Tryd.underlying30 (by kernel_rfl) h1 with ⟨hc, _⟩ | ⟨a, len, cap, zs, hc, _, hlc, _, hlen, _, hcell, hwf⟩
    · have hc' : Value.slice a1 len1 cap1 = .slice none 0 0 := by simpa [Value.cells] using hc
      rw [hc']
      exact ends_nil hs0 i
    · have hc' : Value.slice a1 len1 cap1 = .slice (some a) len cap := by simpa [Value.cells] using hc
      rw [hc']
      by_cases h0 : len = 0
      · subst h0
        exact ends_zero hs0 i a cap
      · have hlen' : zs.length = cap := hlen
        obtain ⟨b, off, rfl, hat⟩ := ints_at hcell (by omega)
        exact ends_some hs0 i (by omega) hlc hlen' hwf hat
  refine hcalls.mono fun e W' ⟨he, hw⟩ => ?_
  subst he
  exact ⟨_, rfl, post_law laidOut (by kernel_rfl) (by kernel_rfl) Tryd.underlying4 hW' hAk hw rfl rfl rfl rfl⟩

theorem bitsAll_holds : Rows.BitsAllSaid :=
  OpenClaim.holds_of_wide 3 Tryd.f3 rfl rfl rfl rfl rfl rfl rfl ⟨rfl, rfl, rfl, rfl, rfl⟩ rfl rfl rfl rfl rfl (by kernel_rfl) Tryd.func3 (by kernel_rfl)
    (of_decide_eq_true (by kernel_rfl)) (by unfold Func.isWrapper; first | (rw [if_pos (by decide +kernel)]; kernel_rfl) | (rw [if_neg (by decide +kernel)]; exact ⟨rfl, rfl⟩))
    (fun os started H enc _ => bitsAll_lifted os started H enc)

theorem bitsAll_card : Rows.BitsAllCardSaid :=
  Claim7.holds_tied_plain_at .later [] [.data] true (true, "551fd8b9a845b4db93ecbcb78f470db0e958c106e55ac1fd3f9b0625f596cb11") false
    bitsAll_holds (fun _ h => by cases h) (by kernel_rfl) (fun _ h => by cases h) bitsAll_row_tie rfl ⟨rfl, rfl⟩ (by kernel_rfl) rfl
    (fun f fn hf hfn => by
      obtain rfl : f = 3 := Option.some.inj ((show Tryd.prog.funcNamed "sluicegate/sluicegatelaw04.BitsAll" = some 3 by kernel_rfl).symm.trans hf) |>.symm
      obtain rfl : fn = Tryd.f3 := (Option.some.inj (Tryd.func3.symm.trans hfn)).symm
      exact ⟨by kernel_rfl, fun j t ht => by
        rw [Tryd.params3] at ht
        have h3 : t = 3 ∨ t = 22 := by
          rcases j with _ | _ | j
          · left; simpa using ht.symm
          · right; simpa using ht.symm
          · simp at ht
        rcases h3 with rfl | rfl
        · exact (show Tryd.prog.wantsStandIn 3 = false by kernel_rfl)
        · exact (show Tryd.prog.wantsStandIn 22 = false by kernel_rfl)⟩)
    (by kernel_rfl)
#print axioms bitsAll_card
end Go.Proofs.YtiecjbgefkelfaaDoor
