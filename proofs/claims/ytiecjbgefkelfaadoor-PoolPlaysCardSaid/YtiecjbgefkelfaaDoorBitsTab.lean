/-
  The seat's start: the table, the hook for chapter 4's example.
-/
import Derived.Test.YtiecjbgefkelfaaDoorCards
import Derived.Test.YtiecjbgefkelfaaDoorBitsAllRun
import Derived.Test.YtiecjbgefkelfaaDoorAbLaw
namespace Go.Proofs.YtiecjbgefkelfaaDoor
open Go.ChangeShapes Go.WideShapes Go.ChangeAt Go.WideMaps Go.WideElems Go.RowKit Go.Ab

theorem own : ownKnob Tryd.prog.godebug = none := by kernel_rfl
theorem mixed : Tryd.prog.follows .mixedOrders = true := by kernel_rfl
theorem laidOut : laidOutB Tryd.prog = true := by kernel_rfl
theorem oneGlobal : Tryd.prog.globals.size = 1 := by kernel_rfl
theorem gTab : Tryd.prog.globalNamed "math/bits.deBruijn64tab" = some 0 := by kernel_rfl
theorem tTab : (Tryd.prog.globals[0]?).map (·.type) = some 84 := by kernel_rfl

def laidTab : List (String × DataW Unit) := [("math/bits.deBruijn64tab", Rows.laid_math_bits_deBruijn64tab)]

theorem mem0_get {g : Nat} {B : ABlk} (h : mem0.get g = some B) : g = 0 ∧ B = .ro (tabInts.map (AV.int .u8)) := by
  unfold mem0 at h
  rw [AMem.get_new] at h
  by_cases q : g = 0
  · rw [if_pos q] at h; cases h; exact ⟨q, rfl⟩
  · rw [if_neg q] at h
    have : (Tri.nil : Tri ABlk).get g = none := Tri.get_nil g
    unfold AMem.get at h
    rw [this] at h; cases h

theorem mem0_ro (α : Nat) : mem0.own α = false := by
  unfold AMem.own
  cases h : mem0.get α with
  | none => rfl
  | some B => obtain ⟨_, rfl⟩ := mem0_get h; rfl

theorem of_laid {W : World} (h : laidMetH Tryd.prog laidTab W) : Sim (rhoG 1) mem0 W := by
  rw [MakeChecks.laidMetH_plain _ _ _ (by kernel_rfl)] at h
  obtain ⟨ps, ⟨g0, t0, cs0, f0, p0, q0, hg0, ht0, hv0, hd0, _, _⟩, _, _⟩ := h
  obtain rfl := Option.some.inj (gTab.symm.trans hg0)
  obtain rfl := Option.some.inj (tTab.symm.trans ht0)
  have hcs := ints_of_trod (ns := tabInts) Tryd.underlying84 Tryd.underlying5 (by kernel_rfl) (by kernel_rfl) hd0
  have hlt : 0 < W.heap.size := by
    unfold World.var? at hv0
    rw [hg0] at hv0
    simp only [Option.bind_some] at hv0
    cases q : W.heap[0]? with
    | none => rw [q] at hv0; cases hv0
    | some o => exact (Array.getElem?_eq_some_iff.1 q).1
  refine Sim.start (M := mem0) hlt fun g B hB => ?_
  obtain ⟨rfl, rfl⟩ := mem0_get hB
  exact ⟨Nat.zero_lt_one, rfl, BlkR.table hg0 hv0 hcs⟩

theorem glob0 : GlobR Tryd.prog (rhoG 1) := fun g hg => by
  rw [oneGlobal] at hg
  unfold rhoG
  rw [if_pos hg]

theorem awake_of {f : FuncId} (h : isT (acall Tryd.prog noH 200 f [] mem0) = true) : ∃ M', acall Tryd.prog noH 200 f [] mem0 = some (.bool true, M') := by
  cases e : acall Tryd.prog noH 200 f [] mem0 with
  | none => rw [e] at h; cases h
  | some r =>
    obtain ⟨v, M'⟩ := r
    rw [e] at h
    unfold isT at h
    split at h
    · rename_i q; cases q; exact ⟨M', rfl⟩
    · cases h

theorem awake04 : isT (acall Tryd.prog noH 200 9 [] mem0) = true := by kernel_rfl
theorem awake07 : isT (acall Tryd.prog noH 200 30 [] mem0) = true := by kernel_rfl

theorem hookOk : HookOk Tryd.prog HK :=
  pureHook_ok mixed (n := 200) (fun f hf => by
    rcases List.mem_cons.1 hf with rfl | hf
    · exact awake_of awake04
    · rcases List.mem_cons.1 hf with rfl | hf
      · exact awake_of awake07
      · cases hf) rfl (by rw [oneGlobal]; exact Nat.le_refl _)

theorem roots_of {M : AMem} (h1 : 1 ≤ M.next) (h0 : M.get 0 = some (.ro (tabInts.map (AV.int .u8)))) : Roots mem0 M := by
  refine ⟨h1, fun α B e => ?_, fun α B e => ?_⟩
  · obtain ⟨rfl, rfl⟩ := mem0_get e; exact h0
  · obtain ⟨rfl, rfl⟩ := mem0_get e; exact ⟨Nat.zero_lt_one, _, rfl, by decide⟩

theorem memE_ro (α : Nat) : (mem0.new (.ro [])).own α = false := by
  unfold AMem.own
  rw [AMem.get_new]
  by_cases q : α = mem0.next
  · rw [if_pos q]; rfl
  · rw [if_neg q]; exact mem0_ro α

theorem mem0_zero : mem0.get 0 = some (.ro (tabInts.map (AV.int .u8))) := rfl

end Go.Proofs.YtiecjbgefkelfaaDoor
