/-
  'sluicegatelaw26.MountNobody': for every input the law returns true; each argument reads behind the call as it read before. Condition: the listed table holds what the program's text lays (tied).
-/
import Derived.Test.YtagkbhmlombnjaaGreatDoorCards
import Derived.Test.YtagkbhmlombnjaaGreatDoorTie
import Derived.Test.YtagkbhmlombnjaaGreatDoorCut8
import Derived.ChangeMaps5
namespace Go.Proofs.YtagkbhmlombnjaaGreatDoor
open Go.ChangeMaps Go.ChangeShapes Go.WideShapes Go.ChangeAt Go.WideMaps Go.WideElems Go.RowKit Go.Ab
set_option linter.unusedVariables false
set_option linter.unusedSimpArgs false

theorem own : ownKnob Tryz.prog.godebug = none := by kernel_rfl
theorem globs : Tryz.prog.globals.size = 2 := by kernel_rfl
theorem gTab : Tryz.prog.globalNamed "math/bits.deBruijn64tab" = some 1 := by kernel_rfl
theorem tTab : (Tryz.prog.globals[1]?).map (·.type) = some 316 := by kernel_rfl

def laidTab : List (String × DataW Unit) := [("math/bits.deBruijn64tab", Rows.laid_math_bits_deBruijn64tab)]

theorem door_met (os : Os) (args : Array Value) : laidMetH Tryz.prog laidTab ((World.doorLaid Tryz.prog 400 os).forCall (fun _ _ => 0) ⟨#[], args, []⟩).memory :=
  laidMetH_of_parts3 (fuel := 8) (laidMet_of_run' 8 (by kernel_rfl) (by kernel_rfl)) (by kernel_rfl) (by kernel_rfl)

def tabInts : List Int := [0, 1, 56, 2, 57, 49, 28, 3, 61, 58, 42, 50, 38, 29, 17, 4, 62, 47, 59, 36, 45, 43, 51, 22, 53, 39, 33, 30, 24, 18, 12, 5, 63, 55, 48, 27, 60, 41, 37, 16, 46, 35, 44, 21, 52, 32, 23, 11, 54, 26, 40, 15, 34, 20, 31, 10, 25, 14, 19, 9, 13, 8, 7, 6]

/-- the memory at the start: the table alone, read only -/
def mem0 : AMem := (⟨1, .nil⟩ : AMem).new (.ro (tabInts.map (AV.int .u8)))

theorem mem0_get {g : Nat} {B : ABlk} (h : mem0.get g = some B) : g = 1 ∧ B = .ro (tabInts.map (AV.int .u8)) := by
  unfold mem0 at h
  rw [AMem.get_new] at h
  by_cases q : g = 1
  · rw [if_pos q] at h; cases h; exact ⟨q, rfl⟩
  · rw [if_neg q] at h
    have : (Tri.nil : Tri ABlk).get g = none := Tri.get_nil g
    unfold AMem.get at h
    rw [this] at h; cases h

theorem mem0_ro (α : Nat) : mem0.own α = false := by
  unfold AMem.own
  cases h : mem0.get α with
  | none => rfl
  | some B => obtain ⟨_, rfl⟩ := mem0_get h; rfl

theorem of_laid {W : World} (h : laidMetH Tryz.prog laidTab W) : Sim (rhoG 2) mem0 W := by
  rw [MakeChecks.laidMetH_plain _ _ _ (by kernel_rfl)] at h
  obtain ⟨ps, ⟨g0, t0, cs0, f0, p0, q0, hg0, ht0, hv0, hd0, _, _⟩, _, _⟩ := h
  obtain rfl := Option.some.inj (gTab.symm.trans hg0)
  obtain rfl := Option.some.inj (tTab.symm.trans ht0)
  have hcs := ints_of_trod (ns := tabInts) Tryz.underlying316 Tryz.underlying5 (by kernel_rfl) (by kernel_rfl) hd0
  have hlt : 1 < W.heap.size := by
    unfold World.var? at hv0
    rw [hg0] at hv0
    simp only [Option.bind_some] at hv0
    cases q : W.heap[1]? with
    | none => rw [q] at hv0; cases hv0
    | some o => exact (Array.getElem?_eq_some_iff.1 q).1
  refine Sim.start (M := mem0) hlt fun g B hB => ?_
  obtain ⟨rfl, rfl⟩ := mem0_get hB
  exact ⟨by decide, rfl, BlkR.table hg0 hv0 hcs⟩

theorem glob0 : GlobR Tryz.prog (rhoG 2) := fun g hg => by
  rw [globs] at hg
  unfold rhoG
  rw [if_pos hg]

theorem nobody_runs (key : List UInt8) : isT (acall Tryz.prog hk8 400 3 [.str key] mem0) = true := by kernel_rfl

set_option maxRecDepth 100000 in
theorem mountNobody_lifted (os : Os) (started : os.Started) (H : Type) (enc : TypeId × Value → H) :
    ReturnsInHanded {} Tryz.checked os 3 .any (fun w args => (Rows.mountNobodySpec.pre enc Tryz.prog Tryz.f3 [] false w args ∧ laidMetH Tryz.prog laidTab w) ∧ sizedMet enc Tryz.prog Tryz.f3 (OpenSpec.ofChange Rows.mountNobodySpec) false w args)
      (Rows.mountNobodySpec.post enc Tryz.prog Tryz.f3 false true false false) := by
  refine returnsInHanded_of_change_and (C := Tryz.checked) (X := fun w _ => laidMetH Tryz.prog laidTab w) (fun _ _ _ hh h => h.of_heap hh) own started (by kernel_rfl) Tryz.func3
    (ChangeSpec.witness_shaped (enc := enc) (C := Tryz.checked) (os := os) (X := fun w _ => laidMetH Tryz.prog laidTab w) false (World.doorLaid Tryz.prog 400 os) #[.string ⟨#[]⟩] 8 rfl (World.shaped_of_RefB (by kernel_rfl) (by kernel_rfl)) (by kernel_rfl) (by kernel_rfl) (by kernel_rfl) (door_met os _)) ?_
  intro W base args ds gs before hval0 hW _ _ hL _
  have hval : ∀ (j : Nat) t v, Tryz.f3.params[j]? = some t → args[j]? = some v → Value.okWide Tryz.prog W .any base t v := hval0
  have hW' := hW
  obtain ⟨p, q, hA0, hV, rfl, hfz, hnd⟩ := hW
  have hA : DataW.TrodAll enc Tryz.prog W 0 (fun _ => true) true Tryz.f3.params.toList args.toList ds p := hA0
  rw [Tryz.params3] at hA hval
  obtain ⟨v0, d0, rfl, rfl, h0⟩ := trodAll_one hA
  obtain ⟨rfl, rfl⟩ := trodVars_none hV
  obtain ⟨key, rfl, rfl, rfl, wk⟩ := open_string Tryz.underlying9 (hval 0 9 v0 rfl rfl) h0
  clear hA0 hval0
  simp only [List.append_nil] at hW'
  have hargs : VL (rhoG 2) [.str key.data.toList] [.string key] := VL.cons (.str _) (VL.nil _)
  refine (calls_true (n := 400) (f := 3) mixedS hk8_ok (nobody_runs key.data.toList) (of_laid hL) glob0 hargs mem0_ro).mono fun e W' ⟨he, hw⟩ => ?_
  subst he
  exact ⟨_, rfl, post_of_below (pa := []) (pv := []) hW' hw (fun _ _ _ => trodAll_mk1 (shut_bool Tryz.underlying4 _)) (fun sp _ => trodAll_mk1 (shut_string Tryz.underlying9 wk)) (fun _ _ => rfl) rfl
    (ok_one (by kernel_rfl) rfl (okWide_bool_mk Tryz.underlying4 _))⟩

theorem mountNobody_holds : Rows.MountNobodySaid :=
  OpenClaim.holds_of_wide 3 Tryz.f3 rfl rfl rfl rfl rfl rfl rfl ⟨rfl, rfl, rfl, rfl, rfl⟩ rfl rfl rfl rfl rfl (by kernel_rfl) Tryz.func3 (by kernel_rfl)
    (of_decide_eq_true (by kernel_rfl)) (by unfold Func.isWrapper; first | (rw [if_pos (by decide +kernel)]; kernel_rfl) | (rw [if_neg (by decide +kernel)]; exact ⟨rfl, rfl⟩))
    (fun os started H enc _ => mountNobody_lifted os started H enc)

theorem mountNobody_card : Rows.MountNobodyCardSaid :=
  Claim7.holds_tied_plain_at .later [] [.data] true (true, "4ac95c2203cbe8a79f265d12d19b0eae035b30beb95afb089a651df3911e21f1") false
    mountNobody_holds (fun _ h => by cases h) (by kernel_rfl) (fun _ h => by cases h) mountNobody_row_tie rfl ⟨rfl, rfl⟩ (by kernel_rfl) rfl
    (fun f fn hf hfn => by
      obtain rfl : f = 3 := Option.some.inj ((show Tryz.prog.funcNamed "sluicegate/sluicegatelaw26.MountNobody" = some 3 by kernel_rfl).symm.trans hf) |>.symm
      obtain rfl : fn = Tryz.f3 := (Option.some.inj (Tryz.func3.symm.trans hfn)).symm
      exact ⟨by kernel_rfl, fun j t ht => by
        rw [Tryz.params3] at ht
        have h3 : t = 9 := by
          rcases j with _ | j
          · simpa using ht.symm
          · simp at ht
        subst h3
        exact (show Tryz.prog.wantsStandIn 9 = false by kernel_rfl)⟩)
    (by kernel_rfl)
#print axioms mountNobody_card
end Go.Proofs.YtagkbhmlombnjaaGreatDoor
