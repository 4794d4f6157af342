/-
  'sluicegatelaw35.DeskWords': for every input the law returns true; each argument reads behind the call as it read before. Condition: the listed table holds what the program's text lays (tied).
-/
import Derived.Test.YtjgionikigpdmaaGreatDoorCards
import Derived.Test.YtjgionikigpdmaaGreatDoorTie
import Derived.Test.YtjgionikigpdmaaGreatDoorWdRun
import Derived.Test.YtjgionikigpdmaaGreatDoorFacts
import Derived.ChangeMaps5
import Derived.Lay
import Derived.SevenTiedAt
import Derived.LaidMore
import Derived.OpenShut
import Derived.Stop.Joined
import Derived.Lib.SmallJoins
namespace Go.Proofs.YtjgionikigpdmaaGreatDoor
open Go.ChangeMaps Go.ChangeShapes Go.WideShapes Go.ChangeAt Go.WideMaps Go.WideElems Go.RowKit Go.Ab Go.Joins
set_option linter.unusedVariables false
set_option linter.unusedSimpArgs false

theorem own : ownKnob Tryz.prog.godebug = none := by kernel_rfl
theorem laidOut : laidOutB Tryz.prog = true := by kernel_rfl
theorem gTab : Tryz.prog.globalNamed "math/bits.deBruijn64tab" = some 7 := by kernel_rfl
theorem tTab : (Tryz.prog.globals[7]?).map (·.type) = some 338 := by kernel_rfl

def laidTab : List (String × DataW Unit) := [("math/bits.deBruijn32tab", Rows.laid_math_bits_deBruijn32tab), ("math/bits.deBruijn64tab", Rows.laid_math_bits_deBruijn64tab), ("internal/strconv.uint64pow10", Rows.laid_internal_strconv_uint64pow10), ("unicode/utf8.acceptRanges", Rows.laid_unicode_utf8_acceptRanges), ("strconv.ErrRange", Rows.laid_strconv_ErrRange), ("strconv.ErrSyntax", Rows.laid_strconv_ErrSyntax), ("unicode/utf8.first", Rows.laid_unicode_utf8_first)]

theorem memG_get {g : Nat} {B : ABlk} (h : memG.get g = some B) : g = 7 ∧ B = .ro (tabInts.map (AV.int .u8)) := by
  have hm := memOf_get h
  simp only [linG, List.mem_singleton, Prod.mk.injEq] at hm
  exact hm

theorem memG_ro (α : Nat) : memG.own α = false := by
  unfold AMem.own
  cases h : memG.get α with
  | none => rfl
  | some B => obtain ⟨_, rfl⟩ := memG_get h; rfl

theorem of_laid {W : World} (h : laidMetH Tryz.prog laidTab W) : Sim (rhoG 8) memG W := by
  rw [MakeChecks.laidMetH_plain _ _ _ (by kernel_rfl)] at h
  obtain ⟨ps, ⟨_, _, _, _, _, _, _, _, _, _, ⟨g0, t0, cs0, f0, p0, q0, hg0, ht0, hv0, hd0, _, _⟩, _⟩, _, _⟩ := h
  obtain rfl := Option.some.inj (gTab.symm.trans hg0)
  obtain rfl := Option.some.inj (tTab.symm.trans ht0)
  have hcs := ints_of_trod (ns := tabInts) Tryz.underlying338 Tryz.underlying5 (by kernel_rfl) (by kernel_rfl) hd0
  have hlt : 7 < W.heap.size := by
    unfold World.var? at hv0
    rw [hg0] at hv0
    simp only [Option.bind_some] at hv0
    cases q : W.heap[7]? with
    | none => rw [q] at hv0; cases hv0
    | some o => exact (Array.getElem?_eq_some_iff.1 q).1
  refine Sim.start (M := memG) hlt fun g B hB => ?_
  obtain ⟨rfl, rfl⟩ := memG_get hB
  exact ⟨by decide, rfl, BlkR.table hg0 hv0 hcs⟩

theorem glob0 : GlobR Tryz.prog (rhoG 8) := fun g hg => by
  have hg2 := Nat.lt_of_lt_of_le hg gN_le
  rw [globs] at hg2
  unfold rhoG
  rw [if_pos hg2]

set_option maxRecDepth 100000 in
theorem deskWords_lifted (os : Os) (started : os.Started) (H : Type) (enc : TypeId × Value → H) :
    ReturnsInHanded {} Tryz.checked os 3 .any (fun w args => (Rows.deskWordsSpec.pre enc Tryz.prog Tryz.f3 [] false w args ∧ laidMetH Tryz.prog laidTab w) ∧ sizedMet enc Tryz.prog Tryz.f3 (OpenSpec.ofChange Rows.deskWordsSpec) false w args)
      (Rows.deskWordsSpec.post enc Tryz.prog Tryz.f3 false true false false) := by
  refine returnsInHanded_of_change_and (C := Tryz.checked) (X := fun w _ => laidMetH Tryz.prog laidTab w) (fun _ _ _ hh h => h.of_heap hh) own started (by kernel_rfl) Tryz.func3
    (ChangeSpec.witness_shaped (enc := enc) (C := Tryz.checked) (os := os) (X := fun w _ => laidMetH Tryz.prog laidTab w) false (World.laidAll Tryz.prog os laidTab) #[.string ⟨#[]⟩, .string ⟨#[]⟩] 8 (World.laidAll_os _ _ _) (World.shaped_of_ZipB (by kernel_rfl) (by kernel_rfl)) (by kernel_rfl) (by kernel_rfl) (by kernel_rfl)
      (by rw [MakeChecks.laidMetH_plain _ _ _ (by kernel_rfl)]; exact laidMet_laidAll _ (by kernel_rfl) (by kernel_rfl))) ?_
  intro W base args ds gs before hval0 hW _ _ hL _
  have hval : ∀ (j : Nat) t v, Tryz.f3.params[j]? = some t → args[j]? = some v → Value.okWide Tryz.prog W .any base t v := hval0
  have hW' := hW
  obtain ⟨p, q, hA0, hV, rfl, hfz, hnd⟩ := hW
  obtain ⟨rfl, rfl⟩ := trodVars_none hV
  rw [List.append_nil] at hW'
  have hAk : DataW.TrodAll enc Tryz.prog W 0 (fun _ => true) true Tryz.f3.params.toList args.toList ds p := hA0
  have hA := hAk
  rw [Tryz.params3] at hA hval
  obtain ⟨v0, v1, d0, d1, p0, p1, rfl, rfl, rfl, h0, h1⟩ := trodAll_two hA
  obtain ⟨s1, rfl, rfl, rfl, _⟩ := open_string Tryz.underlying9 (hval 0 9 v0 rfl rfl) h0
  obtain ⟨s2, rfl, rfl, rfl, _⟩ := open_string Tryz.underlying9 (hval 1 9 v1 rfl rfl) h1
  have hargs : VL (rhoG 8) [.str s1.data.toList, .str s2.data.toList] [.string s1, .string s2] := VL.cons (.str _) (VL.cons (.str _) (VL.nil _))
  obtain ⟨n, hn⟩ := law_runs s1.data.toList s2.data.toList
  refine (calls_true (n := n) (f := 3) mixedS hkW_ok hn (of_laid hL) glob0 hargs memG_ro).mono fun e W' ⟨he, hw⟩ => ?_
  subst he
  exact ⟨_, rfl, post_law laidOut (by kernel_rfl) (by kernel_rfl) Tryz.underlying4 hW' hAk hw rfl rfl rfl rfl⟩

theorem deskWords_holds : Rows.DeskWordsSaid :=
  OpenClaim.holds_of_wide 3 Tryz.f3 rfl rfl rfl rfl rfl rfl rfl ⟨rfl, rfl, rfl, rfl, rfl⟩ rfl rfl rfl rfl rfl (by kernel_rfl) Tryz.func3 j0
    (of_decide_eq_true (by kernel_rfl)) (by unfold Func.isWrapper; first | (rw [if_pos (by decide +kernel)]; kernel_rfl) | (rw [if_neg (by decide +kernel)]; exact ⟨rfl, rfl⟩))
    (fun os started H enc _ => deskWords_lifted os started H enc)

theorem looksF : true = Tryz.prog.looks [] := by kernel_rfl
theorem goesF : false = Rows.deskWordsRow.goesBy Tryz.prog := by kernel_rfl
theorem standF : Tryz.prog.wantsStandIn 9 = false := by kernel_rfl
theorem textF : Rows.deskWordsRow.wfByText (OpenSpec.ofChange Rows.deskWordsSpec) = true := by kernel_rfl
theorem mainF : Tryz.prog.mainIs = some (true, "9615aa8e1a088a5756b249e6b68a572a71b4ed1b722d2b3fa47315e911e58de9".toList) := by kernel_rfl
theorem numberF : Tryz.prog.funcNamed "sluicegate/sluicegatelaw35.DeskWords" = some 3 := by kernel_rfl

theorem deskWords_card : Rows.DeskWordsCardSaid :=
  Claim7.holds_tied_plain_at .later [] [.data, .data, .data, .data, .sentinel, .sentinel, .pinned] true (true, "9615aa8e1a088a5756b249e6b68a572a71b4ed1b722d2b3fa47315e911e58de9") true
    deskWords_holds (fun _ h => by cases h) textF (fun _ h => by cases h) deskWords_row_tie rfl ⟨rfl, rfl⟩ mainF rfl
    (fun f fn hf hfn => by
      obtain rfl : f = 3 := Option.some.inj (numberF.symm.trans hf) |>.symm
      obtain rfl : fn = Tryz.f3 := (Option.some.inj (Tryz.func3.symm.trans hfn)).symm
      exact ⟨looksF, fun j t ht => by
        rw [Tryz.params3] at ht
        have h3 : t = 9 := by
          rcases j with _ | _ | j
          · simpa using ht.symm
          · simpa using ht.symm
          · simp at ht
        subst h3
        exact standF⟩)
    goesF
#print axioms deskWords_card
end Go.Proofs.YtjgionikigpdmaaGreatDoor
