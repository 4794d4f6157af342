/-
  Laws over the evaluator: arguments that are slices, and what reads behind the call as it read before.
-/
import Derived.Test.YtccmopkjkmpaaaaGreatDoorAbSym
import Derived.ChangeSlices
import Derived.Carry
namespace Go.Ab
open Go.ChangeShapes Go.WideShapes Go.ChangeAt Go.RowKit
set_option linter.unusedSimpArgs false
set_option linter.unusedVariables false

theorem args_stay {H : Type} {enc : TypeId × Value → H} {P : Program} (hl : laidOutB P = true) {W W' : World} (hb : Below W.heap.size W W') {sp : Nat → Bool} :
    ∀ {ts : List TypeId} {vs : List Value} {ds : List (DataW H)} {ps : List MemPlace}, (ts.all fun t => P.readableRec t && decide (t < P.types.size)) = true → DataW.TrodAll enc P W 0 (fun _ => true) true ts vs ds ps →
      (∀ x ∈ ps, x.block < W.heap.size) → (∀ x ∈ ps, sp x.block = true) → DataW.TrodAll enc P W' 0 sp true ts vs ds ps
  | [], [], [], _, _, h, _, _ => h
  | _ :: _, _ :: _, _ :: _, _, hT, ⟨p, q, h1, h2, e⟩, hlt, hs => by
    rw [List.all_cons, Bool.and_eq_true, Bool.and_eq_true, decide_eq_true_eq] at hT
    exact ⟨p, q, WideElems.Trod_stays hl hT.1.1 hT.1.2 h1 (fun x hx => hb.same (hlt x (by rw [e]; exact List.mem_append_left _ hx))) (fun x hx => hs x (by rw [e]; exact List.mem_append_left _ hx)),
      args_stay hl hb hT.2 h2 (fun x hx => hlt x (by rw [e]; exact List.mem_append_right _ hx)) (fun x hx => hs x (by rw [e]; exact List.mem_append_right _ hx)), e⟩

/-- the row's end of a law that answers true and turns nothing -/
theorem post_law {H : Type} {enc : TypeId × Value → H} {P : Program} {f : Func} {s : ChangeSpec} {apart fresh handsOn again : Bool} {W W' : World} {args : Array Value} {ds gs : List (DataW H)} {before : List MemPlace}
    (hl : laidOutB P = true) (hT : (f.params.toList.all fun t => P.readableRec t && decide (t < P.types.size)) = true) {tb : TypeId} (hrt : f.resultTypes = #[tb]) (htb : P.underlying tb = some .bool)
    (hW : DataW.Whole enc P f.params.toList s.vars apart W args.toList ds gs before) (hA : DataW.TrodAll enc P W 0 (fun _ => true) true f.params.toList args.toList ds before) (hb : Below W.heap.size W W') (hvs : s.vars = [])
    (hres : (s.fn H (ds ++ gs)).results = [.lit (.bool true)]) (hargs : (s.fn H (ds ++ gs)).args = ds) (hvars : (s.fn H (ds ++ gs)).vars = []) :
    s.post enc P f apart fresh handsOn again W args (.bool true) W' := by
  refine post_of_below (pa := before) (pv := []) hW hb (fun _ _ _ => ?_) (fun sp hsp => ?_) (fun sp _ => ?_) (by simp) (ok_one hrt rfl (okWide_bool_mk htb _))
  · rw [hres, hrt]; exact trodAll_mk1 (shut_bool htb _)
  · rw [hargs]; exact args_stay hl hb hT hA hW.lt hsp
  · rw [hvs, hvars]; rfl

/-- cells that came in -/
theorem ro_of_cells {w : World} {b off : Nat} {vs : List Value} (hne : 0 < vs.length) (h : ∀ i (hi : i < vs.length), w.cell? ⟨b, off + i, none⟩ = some vs[i]) :
    ∃ (C : List Value) (e : TypeId) (fz : Nat × Nat), w.heap[b]? = some (.cells C.toArray e fz) ∧ (C.drop off).take vs.length = vs := by
  have h0 := h 0 hne
  unfold World.cell? at h0
  split at h0
  · rename_i c e fz hb
    refine ⟨c.toList, e, fz, by simpa using hb, ?_⟩
    apply List.ext_getElem?
    intro i
    rw [List.getElem?_take]
    by_cases hi : i < vs.length
    · rw [if_pos hi, List.getElem?_drop, List.getElem?_eq_getElem hi, ← h i hi]
      have := cell_of_list (w := w) (g := b) (C := c.toList) (e := e) (fz := fz) (by simpa using hb) (off + i)
      rw [this]
    · rw [if_neg hi, List.getElem?_eq_none (by omega)]
  · cases h0

/-- a memory without own blocks, and a row that came in -/
theorem Sim.addRo {ρ : Loc} {M : AMem} {w : World} (s : Sim ρ M w) (hro : ∀ α, M.own α = false) {b off : Nat} {c : List AV} {vs : List Value} (hv : VL ρ c vs) (hne : 0 < vs.length) (h : ∀ i (hi : i < vs.length), w.cell? ⟨b, off + i, none⟩ = some vs[i]) :
    Sim (ρ.upd M.next ⟨b, off, 0, 0⟩) (M.new (.ro c)) w ∧ (∀ α, (M.new (.ro c)).own α = false) ∧ ρ.le (ρ.upd M.next ⟨b, off, 0, 0⟩) := by
  obtain ⟨C, e, fz, hC, hd⟩ := ro_of_cells hne h
  have hb : b < w.heap.size := (Array.getElem?_eq_some_iff.1 hC).1
  have hle : ρ.le (ρ.upd M.next ⟨b, off, 0, 0⟩) := Loc.le_upd ρ _ _ s.none_next
  have hown : ∀ α, (M.new (.ro c)).own α = false := fun α => by
    unfold AMem.own
    rw [AMem.get_new]
    by_cases q : α = M.next
    · rw [if_pos q]; rfl
    · rw [if_neg q]; exact hro α
  refine ⟨⟨fun α l hl => ?_, fun α l hl => ?_, fun α l B hl hB => ?_, fun α β l k _ _ _ _ ho => ?_, fun α hα => ?_⟩, hown, hle⟩
  · by_cases q : α = M.next
    · rw [q, AMem.next_new]; omega
    · rw [Loc.upd_ne _ _ q] at hl
      have := s.dom α l hl
      rw [AMem.next_new]; omega
  · by_cases q : α = M.next
    · subst q; rw [Loc.upd_same] at hl; cases hl; exact hb
    · rw [Loc.upd_ne _ _ q] at hl; exact s.inb α l hl
  · rw [AMem.get_new] at hB
    by_cases q : α = M.next
    · subst q
      rw [if_pos rfl] at hB; cases hB
      rw [Loc.upd_same] at hl; cases hl
      refine .ro c _ C e fz hC ?_ rfl
      show VL _ c ((C.drop off).take c.length)
      rw [hv.1, hd]
      exact hv.mono hle
    · rw [if_neg q] at hB
      rw [Loc.upd_ne _ _ q] at hl
      exact BlkR.mono hle rfl (s.blk α l B hl hB)
  · rw [hown] at ho; cases ho
  · rw [AMem.next_new] at hα
    rw [AMem.get_new, if_neg (by omega)]
    exact s.wf α (by omega)
end Go.Ab
