/-
  'sluicegatelaw40.IndexNobody', where what it reads is of bulk at most 1048576: the law returns true; each argument reads behind the call as it read before. Condition: the listed table holds what the program's text lays (tied).
-/
import Derived.Test.YtccmopkjkmpaaaaGreatDoorCards
import Derived.Test.YtccmopkjkmpaaaaGreatDoorTie
import Derived.Test.YtccmopkjkmpaaaaGreatDoorIxRun
import Derived.Test.YtccmopkjkmpaaaaGreatDoorFacts
import Derived.ChangeMaps5
import Derived.Lay
import Derived.JoinedCond
import Derived.SevenTiedAt
import Derived.LaidMore
import Derived.OpenShut
import Derived.Stop.Joined
import Derived.Lib.SmallJoins
namespace Go.Proofs.YtccmopkjkmpaaaaGreatDoor
open Go.ChangeMaps Go.ChangeShapes Go.WideShapes Go.ChangeAt Go.WideMaps Go.WideElems Go.RowKit Go.Ab Go.Joins
set_option linter.unusedVariables false
set_option linter.unusedSimpArgs false

theorem own : ownKnob Tryz.prog.godebug = none := by kernel_rfl
theorem laidOut : laidOutB Tryz.prog = true := by kernel_rfl
theorem gTab : Tryz.prog.globalNamed "math/bits.deBruijn64tab" = some 3 := by kernel_rfl
theorem tTab : (Tryz.prog.globals[3]?).map (·.type) = some 390 := by kernel_rfl

def laidTab : List (String × DataW Unit) := [("math/bits.deBruijn64tab", Rows.laid_math_bits_deBruijn64tab), ("unicode/utf8.acceptRanges", Rows.laid_unicode_utf8_acceptRanges), ("unicode/utf8.first", Rows.laid_unicode_utf8_first)]

theorem memG_get {g : Nat} {B : ABlk} (h : memG.get g = some B) : g = 3 ∧ B = .ro (tabInts.map (AV.int .u8)) := by
  have hm := memOf_get h
  simp only [linG, List.mem_singleton, Prod.mk.injEq] at hm
  exact hm

theorem memG_ro (α : Nat) : memG.own α = false := by
  unfold AMem.own
  cases h : memG.get α with
  | none => rfl
  | some B => obtain ⟨_, rfl⟩ := memG_get h; rfl

theorem of_laid {W : World} (h : laidMetH Tryz.prog laidTab W) : Sim (rhoG 4) memG W := by
  rw [MakeChecks.laidMetH_plain _ _ _ (by kernel_rfl)] at h
  obtain ⟨ps, ⟨g0, t0, cs0, f0, p0, q0, hg0, ht0, hv0, hd0, _, _⟩, _, _⟩ := h
  obtain rfl := Option.some.inj (gTab.symm.trans hg0)
  obtain rfl := Option.some.inj (tTab.symm.trans ht0)
  have hcs := ints_of_trod (ns := tabInts) Tryz.underlying390 Tryz.underlying5 (by kernel_rfl) (by kernel_rfl) hd0
  have hlt : 3 < W.heap.size := by
    unfold World.var? at hv0
    rw [hg0] at hv0
    simp only [Option.bind_some] at hv0
    cases q : W.heap[3]? with
    | none => rw [q] at hv0; cases hv0
    | some o => exact (Array.getElem?_eq_some_iff.1 q).1
  refine Sim.start (M := memG) hlt fun g B hB => ?_
  obtain ⟨rfl, rfl⟩ := memG_get hB
  exact ⟨by decide, rfl, BlkR.table hg0 hv0 hcs⟩

theorem glob0 : GlobR Tryz.prog (rhoG 4) := fun g hg => by
  have hg2 := Nat.lt_of_lt_of_le hg gN_le
  rw [globs] at hg2
  unfold rhoG
  rw [if_pos hg2]

abbrev specU : OpenSpec := Rows.OpenSpec.upto Rows.indexNobodySpec

theorem of_cond_and {H : Type} {enc : TypeId × Value → H} {a : Assume} {C : Checked} {os : Os} {f : FuncId} {fn : Func} {s : OpenSpec} {k : (H : Type) → List (DataW H) → Bool} (hk : s.cond = some k) {F : Stop.Interp} {conds : List PathCond} {apart fresh handsOn again : Bool} {X : World → Array Value → Prop}
    (hX : ∀ (w w' : World) (args : Array Value), w.heap = w'.heap → X w args → X w' args)
    (own : ownKnob C.prog.godebug = none) (started : os.Started) (noInit : C.prog.inits.idxOf? f = none) (hfn : C.prog.funcs[f]? = some fn)
    (witness : ∃ (w : World) (tape : Tape) (i : Input), w.os = os ∧ (w.forCall tape i).Shaped C.prog ∧ i.vars = [] ∧ Input.okWide C.prog (w.forCall tape i) .any w.heap.size f i ∧
      ((s.pre enc C.prog fn conds apart (w.forCall tape i).memory i.args ∧ X (w.forCall tape i).memory i.args) ∧ sizedMet enc C.prog fn s apart (w.forCall tape i).memory i.args) ∧ a.holds C.prog (lone (Frame.enter C.prog f i.args .normal) [] (w.forCall tape i)))
    (contract : ∀ (W : World) (base : Nat) (args : Array Value) (ds gs : List (DataW H)) (before : List MemPlace),
      (∀ (j : Nat) t v, fn.params[j]? = some t → args[j]? = some v → Value.okWide C.prog W .any base t v) →
      DataW.Whole enc C.prog fn.params.toList s.vars apart W args.toList ds gs before → k H (ds ++ gs) = true → X W args →
      Calls C.prog f args W fun e W' => ∃ v, e = .returned v ∧ (s.at F).post enc C.prog fn apart fresh handsOn again W args v W') :
    ReturnsInHanded a C os f .any (fun w args => (s.pre enc C.prog fn conds apart w args ∧ X w args) ∧ sizedMet enc C.prog fn s apart w args) ((s.at F).post enc C.prog fn apart fresh handsOn again) := by
  refine returnsInHanded_of_calls own started noInit witness ?_
  intro w tape i _ _ _ hok hpre hholds
  obtain ⟨_, _, _, fn', hfn', _, _, _, _, hval⟩ := hok
  have e : fn' = fn := Option.some.inj (hfn'.symm.trans hfn)
  subst e
  obtain ⟨⟨hp, hx⟩, hz⟩ := hpre
  obtain ⟨ds, gs, before, hw, hc, hkk⟩ := (OpenSpec.pre_some hk conds apart _ _).1 hp
  have hw' := DataW.Whole.of_heap (w' := w.forCall tape i) (by rfl) hw
  refine (contract (w.forCall tape i) w.heap.size i.args ds gs before hval hw' hkk (hX _ _ _ (by rfl) hx)).mono fun e W' ⟨v, he, hp⟩ => ?_
  subst he
  exact ChangeSpec.post_blind hp

set_option maxRecDepth 100000 in
theorem indexNobodyUpto_lifted (os : Os) (started : os.Started) (H : Type) (enc : TypeId × Value → H) (F : Stop.Interp) :
    ReturnsInHanded {} Tryz.checked os 3 .any (fun w args => (specU.pre enc Tryz.prog Tryz.f3 [] false w args ∧ laidMetH Tryz.prog laidTab w) ∧ sizedMet enc Tryz.prog Tryz.f3 specU false w args)
      ((specU.at F).post enc Tryz.prog Tryz.f3 false true false false) := by
  have hx0 : laidMetH Tryz.prog laidTab ((World.laidAll Tryz.prog os laidTab).forCall (fun _ _ => 0) ⟨#[], #[.string ⟨#[]⟩, .string ⟨#[]⟩], []⟩).memory := by
    rw [MakeChecks.laidMetH_plain _ _ _ (by kernel_rfl)]; exact laidMet_laidAll _ (by kernel_rfl) (by kernel_rfl)
  have hwh : DataW.whole enc Tryz.prog ((World.laidAll Tryz.prog os laidTab).forCall (fun _ _ => 0) ⟨#[], #[.string ⟨#[]⟩, .string ⟨#[]⟩], []⟩).memory Tryz.f3.params.toList specU.vars false [.string ⟨#[]⟩, .string ⟨#[]⟩] 8 = some ([.lit (.string []), .lit (.string [])], [], []) := by kernel_rfl
  have hok : Input.okWideB Tryz.prog ((World.laidAll Tryz.prog os laidTab).forCall (fun _ _ => 0) ⟨#[], #[.string ⟨#[]⟩, .string ⟨#[]⟩], []⟩) 3 ⟨#[], #[.string ⟨#[]⟩, .string ⟨#[]⟩], []⟩ = true := by kernel_rfl
  refine of_cond_and (C := Tryz.checked) (s := specU) (k := Rows.uptoSmall) rfl (X := fun w _ => laidMetH Tryz.prog laidTab w) (fun _ _ _ hh h => h.of_heap hh) own started (by kernel_rfl) Tryz.func3
    ⟨World.laidAll Tryz.prog os laidTab, fun _ _ => 0, ⟨#[], #[.string ⟨#[]⟩, .string ⟨#[]⟩], []⟩, World.laidAll_os _ _ _, World.shaped_of_ZipB (by kernel_rfl) (by kernel_rfl), rfl, (Input.okWide_of_okWideB hok).2,
      ⟨⟨(OpenSpec.pre_some (s := specU) (k := Rows.uptoSmall) rfl [] false _ _).2 ⟨_, _, _, DataW.Whole_of_whole hwh, rfl, by kernel_rfl⟩, hx0⟩, sizedMet_of_sizedB (s := Rows.indexNobodySpec) (fuel := 8) (by kernel_rfl)⟩, by
        simp only [Assume.holds]
        exact ⟨by simp, by simp, by simp, by simp, by simp⟩⟩ ?_
  intro W base args ds gs before hval0 hW hkk hL
  have hval : ∀ (j : Nat) t v, Tryz.f3.params[j]? = some t → args[j]? = some v → Value.okWide Tryz.prog W .any base t v := hval0
  have hW' := hW
  obtain ⟨p, q, hA0, hV, rfl, hfz, hnd⟩ := hW
  obtain ⟨rfl, rfl⟩ := trodVars_none hV
  rw [List.append_nil] at hW'
  have hAk : DataW.TrodAll enc Tryz.prog W 0 (fun _ => true) true Tryz.f3.params.toList args.toList ds p := hA0
  have hA := hAk
  rw [Tryz.params3] at hA hval
  obtain ⟨v0, v1, d0, d1, p0, p1, rfl, rfl, rfl, h0, h1⟩ := trodAll_two hA
  obtain ⟨s1, rfl, rfl, rfl, _⟩ := open_string Tryz.underlying9 (hval 0 9 v0 rfl rfl) h0
  obtain ⟨s2, rfl, rfl, rfl, _⟩ := open_string Tryz.underlying9 (hval 1 9 v1 rfl rfl) h1
  have hlen : s2.data.toList.length ≤ 2000000 := by
    simp only [Rows.uptoSmall, List.append_nil, Rows.uptoBulkAll, Rows.uptoBulk, decide_eq_true_eq] at hkk
    omega
  have hargs : VL (rhoG 4) [.str s1.data.toList, .str s2.data.toList] [.string s1, .string s2] := VL.cons (.str _) (VL.cons (.str _) (VL.nil _))
  refine (calls_true (n := 2000000 + 203) (f := 3) mixedS hkX_ok (law_runs s1.data.toList s2.data.toList hlen 2000000) (of_laid hL) glob0 hargs memG_ro).mono fun e W' ⟨he, hw⟩ => ?_
  subst he
  exact ⟨_, rfl, post_law (s := Rows.indexNobodySpec) laidOut (by kernel_rfl) (by kernel_rfl) Tryz.underlying4 hW' hAk hw rfl rfl rfl rfl⟩

theorem indexNobodyUpto_holds : Rows.IndexNobodyUptoSaid :=
  OpenClaim.holds_of_cond 3 Tryz.f3 rfl rfl rfl rfl rfl rfl rfl ⟨rfl, rfl, rfl, rfl, rfl⟩ rfl rfl rfl rfl rfl (by kernel_rfl) Tryz.func3 j0
    (of_decide_eq_true (by kernel_rfl)) (by unfold Func.isWrapper; first | (rw [if_pos (by decide +kernel)]; kernel_rfl) | (rw [if_neg (by decide +kernel)]; exact ⟨rfl, rfl⟩))
    (fun os started H enc _ F => indexNobodyUpto_lifted os started H enc F)

theorem looksF : false = Tryz.prog.looks [] := by kernel_rfl
theorem goesF : false = Rows.indexNobodyUptoRow.goesBy Tryz.prog := by kernel_rfl
theorem standF : Tryz.prog.wantsStandIn 9 = false := by kernel_rfl
theorem textF : Rows.indexNobodyUptoRow.wfByText specU = true := by kernel_rfl
theorem mainF : Tryz.prog.mainIs = some (true, "f068d7d6ea0bff62681f3d6f0378534538f5edbdb96fabbbbb6c555518f9c15e".toList) := by kernel_rfl
theorem numberF : Tryz.prog.funcNamed "sluicegate/sluicegatelaw40.IndexNobody" = some 3 := by kernel_rfl

theorem indexNobodyUpto_card : Rows.IndexNobodyUptoCardSaid :=
  Claim7.holds_tied_plain_at .later [] [.data, .data, .pinned] true (true, "f068d7d6ea0bff62681f3d6f0378534538f5edbdb96fabbbbb6c555518f9c15e") false
    indexNobodyUpto_holds (fun _ h => by cases h) textF (fun _ h => by cases h) indexNobodyUpto_row_tie rfl ⟨rfl, rfl⟩ mainF rfl
    (fun f fn hf hfn => by
      obtain rfl : f = 3 := Option.some.inj (numberF.symm.trans hf) |>.symm
      obtain rfl : fn = Tryz.f3 := (Option.some.inj (Tryz.func3.symm.trans hfn)).symm
      exact ⟨looksF, fun j t ht => by
        rw [Tryz.params3] at ht
        have h3 : t = 9 := by
          rcases j with _ | _ | j
          · simpa using ht.symm
          · simpa using ht.symm
          · simp at ht
        subst h3
        exact standF⟩)
    goesF
#print axioms indexNobodyUpto_card
end Go.Proofs.YtccmopkjkmpaaaaGreatDoor
