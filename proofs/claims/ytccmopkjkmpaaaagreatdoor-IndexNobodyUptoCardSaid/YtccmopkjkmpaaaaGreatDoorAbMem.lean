/-
  Memory under the simulation: loads, stores, new blocks, killed blocks.
-/
import Derived.Test.YtccmopkjkmpaaaaGreatDoorAbSim
import Derived.Laws.Tables
import Derived.Laws.Entries
import Derived.Laws.Cells
import Derived.Laws.CopyRow
import Derived.ChangeKeysEq
namespace Go.Ab

def Loc.upd (ρ : Loc) (α : Nat) (l : Pl) : Loc := fun β => if β = α then some l else ρ β

theorem Loc.upd_same (ρ : Loc) (α : Nat) (l : Pl) : ρ.upd α l α = some l := if_pos rfl
theorem Loc.upd_ne (ρ : Loc) {α β : Nat} (l : Pl) (h : β ≠ α) : ρ.upd α l β = ρ β := if_neg h
theorem Loc.le_upd (ρ : Loc) (α : Nat) (l : Pl) (h : ρ α = none) : ρ.le (ρ.upd α l) := fun β k e => by
  by_cases hb : β = α
  · subst hb; rw [h] at e; cases e
  · rw [Loc.upd_ne ρ l hb]; exact e

theorem BlkR.mono {ρ ρ' : Loc} (h : ρ.le ρ') {w w' : World} {B : ABlk} {l : Pl} (hw : w'.heap[l.b]? = w.heap[l.b]?) (hb : BlkR ρ w B l) : BlkR ρ' w' B l := by
  cases hb with
  | cells c sz cl _ C e fz h1 h2 h3 h4 h5 => exact .cells c sz cl l C e fz (hw.trans h1) (h2.mono h) h3 h4 h5
  | ro c _ C e fz h1 h2 h3 => exact .ro c l C e fz (hw.trans h1) (h2.mono h) h3
  | map es clock _ ES h1 h2 h3 => exact .map es clock l ES (hw.trans h1) h2 fun i e E he hE => let ⟨a, b, c⟩ := h3 i e E he hE; ⟨a.mono h, b.mono h, c⟩

/-! ### small changes of the abstract memory alone -/
theorem AMem.own_get {M : AMem} {α : Nat} {B : ABlk} (h : M.get α = some B) : M.own α = B.own := by simp [AMem.own, h]

theorem Sim.lt {ρ : Loc} {M : AMem} {w : World} (s : Sim ρ M w) {α : Nat} {B : ABlk} (h : M.get α = some B) : α < M.next := by
  rcases Nat.lt_or_ge α M.next with h' | h'
  · exact h'
  · rw [s.wf α h'] at h; cases h

theorem Sim.none_next {ρ : Loc} {M : AMem} {w : World} (s : Sim ρ M w) : ρ M.next = none := by
  cases h : ρ M.next with
  | none => rfl
  | some l => exact absurd (s.dom _ _ h) (Nat.lt_irrefl _)

theorem Sim.kill {ρ : Loc} {M : AMem} {w : World} (s : Sim ρ M w) (α : Nat) : Sim ρ (M.kill α) w := by
  refine ⟨s.dom, s.inb, fun β l B h hb => ?_, fun β γ l k hne h1 h2 h3 h4 => ?_, fun β hb => ?_⟩
  · rw [AMem.get_kill] at hb
    by_cases e : β = α
    · rw [if_pos e] at hb; cases hb
    · rw [if_neg e] at hb; exact s.blk β l B h hb
  · simp only [AMem.own, AMem.get_kill] at h4 ⊢
    by_cases e : γ = α
    · rw [if_pos e]
    · rw [if_neg e]
      by_cases e' : β = α
      · rw [if_pos e'] at h4; cases h4
      · rw [if_neg e'] at h4; exact s.sep β γ l k hne h1 h2 h3 h4
  · rw [AMem.get_kill]; split
    · rfl
    · exact s.wf β hb

theorem Ext.kill {ρ : Loc} {M : AMem} {w : World} (α : Nat) : Ext ρ M w ρ (M.kill α) w := by
  refine ⟨Loc.le_refl ρ, Nat.le_refl _, Nat.le_refl _, rfl, rfl, rfl, fun β l _ h => ?_, fun β l h1 h2 => (by rw [h1] at h2; cases h2), fun _ _ _ => rfl⟩
  simp only [AMem.own, AMem.get_kill] at h ⊢
  by_cases e : β = α
  · rw [if_pos e] at h; cases h
  · rw [if_neg e] at h; exact h

/-- a new number that lies nowhere yet -/
theorem Sim.more {ρ : Loc} {M : AMem} {w : World} (s : Sim ρ M w) (B : ABlk) : Sim ρ (M.new B) w := by
  refine ⟨fun α l h => Nat.lt_succ_of_lt (s.dom α l h), s.inb, fun β l D h hb => ?_, fun β γ l k hne h1 h2 h3 h4 => ?_, fun β hb => ?_⟩
  · rw [AMem.get_new, if_neg (Nat.ne_of_lt (s.dom β l h))] at hb
    exact s.blk β l D h hb
  · simp only [AMem.own, AMem.get_new] at h4 ⊢
    rw [if_neg (Nat.ne_of_lt (s.dom γ k h2))]
    rw [if_neg (Nat.ne_of_lt (s.dom β l h1))] at h4
    exact s.sep β γ l k hne h1 h2 h3 h4
  · have hb' : M.next + 1 ≤ β := hb
    rw [AMem.get_new, if_neg (by omega)]
    exact s.wf β (by omega)

theorem Ext.more {ρ : Loc} {M : AMem} {w : World} (s : Sim ρ M w) (B : ABlk) : Ext ρ M w ρ (M.new B) w := by
  refine ⟨Loc.le_refl ρ, Nat.le_succ _, Nat.le_refl _, rfl, rfl, rfl, fun β l h h' => ?_, fun β l h1 h2 => (by rw [h1] at h2; cases h2), fun _ _ _ => rfl⟩
  simp only [AMem.own, AMem.get_new] at h' ⊢
  rw [if_neg (Nat.ne_of_lt (s.dom β l h))] at h'
  exact h'

/-! ### a new block of the world -/
theorem heap_alloc_lt (w : World) (o : Obj) (k : Nat) (h : k < w.heap.size) : (w.alloc o).heap[k]? = w.heap[k]? := RowKit.Below.heap_alloc w o k h

/-- a number that lies nowhere yet gets its place: the new block -/
theorem Sim.place {ρ : Loc} {M : AMem} {w : World} (s : Sim ρ M w) {α : Nat} {B : ABlk} {o : Obj} {l : Pl} (hg : M.get α = some B) (hn : ρ α = none) (hl : l.b = w.heap.size)
    (hb : BlkR (ρ.upd α l) (w.alloc o) B l) : Sim (ρ.upd α l) M (w.alloc o) := by
  have hle := Loc.le_upd ρ α l hn
  refine ⟨fun β k h => ?_, fun β k h => ?_, fun β k D h hd => ?_, fun β γ k m hne h1 h2 h3 h4 => ?_, s.wf⟩
  · by_cases e : β = α
    · subst e; exact s.lt hg
    · rw [Loc.upd_ne ρ l e] at h; exact s.dom β k h
  · rw [World.size_alloc]
    by_cases e : β = α
    · subst e; rw [Loc.upd_same] at h; cases h; omega
    · rw [Loc.upd_ne ρ l e] at h; have := s.inb β k h; omega
  · by_cases e : β = α
    · subst e; rw [Loc.upd_same] at h; cases h; rw [hg] at hd; cases hd; exact hb
    · rw [Loc.upd_ne ρ l e] at h
      exact (s.blk β k D h hd).mono hle (heap_alloc_lt w o _ (s.inb β k h))
  · by_cases e : β = α
    · have e' : γ ≠ α := fun h => hne (e.trans h.symm)
      rw [e, Loc.upd_same] at h1; cases h1
      rw [Loc.upd_ne ρ l e'] at h2
      have := s.inb γ m h2; omega
    · rw [Loc.upd_ne ρ l e] at h1
      by_cases e' : γ = α
      · rw [e', Loc.upd_same] at h2; cases h2
        have := s.inb β k h1; omega
      · rw [Loc.upd_ne ρ l e'] at h2
        exact s.sep β γ k m hne h1 h2 h3 h4

theorem Ext.place {ρ : Loc} {M : AMem} {w : World} {α : Nat} {o : Obj} {l : Pl} (hn : ρ α = none) (hl : l.b = w.heap.size) (hα : M.next ≤ α) : Ext ρ M w (ρ.upd α l) M (w.alloc o) := by
  refine ⟨Loc.le_upd ρ α l hn, Nat.le_refl _, by simp, rfl, rfl, rfl, fun _ _ _ h => h, fun β k h1 h2 => ?_, fun b hb _ => heap_alloc_lt w o b hb⟩
  by_cases e : β = α
  · subst e; rw [Loc.upd_same] at h2; cases h2; exact ⟨hα, .inl (by omega)⟩
  · rw [Loc.upd_ne ρ l e, h1] at h2; cases h2

/-- a new block, in both -/
theorem Sim.alloc {ρ : Loc} {M : AMem} {w : World} (s : Sim ρ M w) {B : ABlk} {o : Obj} {l : Pl} (hl : l.b = w.heap.size)
    (hb : BlkR (ρ.upd M.next l) (w.alloc o) B l) : Sim (ρ.upd M.next l) (M.new B) (w.alloc o) ∧ Ext ρ M w (ρ.upd M.next l) (M.new B) (w.alloc o) := by
  have h1 := (s.more B).place (α := M.next) (B := B) (o := o) (l := l) (by rw [AMem.get_new, if_pos rfl]) s.none_next hl hb
  refine ⟨h1, ?_⟩
  have h2 : Ext ρ M w ρ (M.new B) w := Ext.more s B
  refine ⟨Loc.le_upd ρ _ l s.none_next, Nat.le_succ _, by simp, rfl, rfl, rfl, h2.muts, fun β k e1 e2 => ?_, fun b hb _ => heap_alloc_lt w o b hb⟩
  by_cases e : β = M.next
  · subst e; rw [Loc.upd_same] at e2; cases e2; exact ⟨Nat.le_refl _, .inl (by omega)⟩
  · rw [Loc.upd_ne ρ l e, e1] at e2; cases e2

theorem BlkR.newCells {ρ : Loc} {w : World} {xs : List AV} {C : List Value} (sz : Nat) (cl : Cl) (e : TypeId) (l : Pl) (hcl : ∀ t, cl = .of t → e = t) (hclz : ∀ t n, cl = .fz t n → e = t) (hl : l.b = w.heap.size) (hp : l.p = 0)
    (hv : VL ρ xs (C.take xs.length)) (hs : sz ≠ 0 → l.sz = sz ∧ l.lim ≤ C.length ∧ xs.length ≤ l.lim ∧ Spare C xs.length l.lim) : BlkR ρ (w.alloc (.cells C.toArray e)) (.cells xs sz cl) l := by
  refine .cells xs sz cl l C e (0, 0) ?_ ?_ ?_ ⟨fun _ => rfl, fun t ht => ⟨hcl t ht, fun _ => hp⟩, fun t n ht => ⟨hclz t n ht, .inl rfl⟩⟩ ?_
  · rw [hl]; exact heap_alloc_new w _
  · rw [hp, List.drop_zero]; exact hv
  · intro j _ _; simp
  · intro h; rw [hp, Nat.zero_add, Nat.zero_add]; exact hs h

/-! ### a block that is written -/
theorem Sim.set {ρ : Loc} {M : AMem} {w w' : World} (s : Sim ρ M w) {α : Nat} {B B' : ABlk} {l : Pl} (hρ : ρ α = some l) (hg : M.get α = some B) (ho : B.own = true)
    (hsz : w'.heap.size = w.heap.size) (hk : ∀ b, b ≠ l.b → w'.heap[b]? = w.heap[b]?) (hb : BlkR ρ w' B' l) : Sim ρ (M.set α B') w' := by
  have hoth : ∀ β k D, ρ β = some k → M.get β = some D → β ≠ α → k.b ≠ l.b := fun β k D h hd hne e => by
    have := s.sep α β l k (Ne.symm hne) hρ h e.symm (by rw [AMem.own_get hg]; exact ho)
    rw [this] at hd; cases hd
  refine ⟨s.dom, fun β k h => by rw [hsz]; exact s.inb β k h, fun β k D h hd => ?_, fun β γ k m hne h1 h2 h3 h4 => ?_, fun β hb' => ?_⟩
  · rw [AMem.get_set] at hd
    by_cases e : β = α
    · rw [if_pos e] at hd; cases hd; subst e; rw [hρ] at h; cases h; exact hb
    · rw [if_neg e] at hd
      exact (s.blk β k D h hd).mono (Loc.le_refl ρ) (hk _ (hoth β k D h hd e))
  · simp only [AMem.own, AMem.get_set] at h4 ⊢
    by_cases e : γ = α
    · -- γ = α: β owns a block at α's place
      exfalso
      subst e
      have hbn : β ≠ γ := hne
      rw [if_neg hbn] at h4
      have := s.sep β γ k m hne h1 h2 h3 h4
      rw [hg] at this; cases this
    · rw [if_neg e]
      by_cases e' : β = α
      · subst e'
        exact s.sep β γ k m hne h1 h2 h3 (by rw [AMem.own_get hg]; exact ho)
      · rw [if_neg e'] at h4
        exact s.sep β γ k m hne h1 h2 h3 h4
  · rw [AMem.get_set]
    have := s.lt hg
    rw [if_neg (by have : M.next ≤ β := hb'; omega)]
    exact s.wf β hb'

theorem Ext.set {ρ : Loc} {M : AMem} {w w' : World} {α : Nat} {B B' : ABlk} {l : Pl} (hρ : ρ α = some l) (hg : M.get α = some B) (ho : B.own = true)
    (hsz : w'.heap.size = w.heap.size) (hos : w'.os = w.os) (ht : w'.tape = w.tape) (hou : w'.output = w.output) (hk : ∀ b, b ≠ l.b → w'.heap[b]? = w.heap[b]?) : Ext ρ M w ρ (M.set α B') w' := by
  refine ⟨Loc.le_refl ρ, Nat.le_refl _, by omega, hos, ht, hou, fun β k h h' => ?_, fun β k h1 h2 => (by rw [h1] at h2; cases h2), fun b _ hm => hk b fun e => ?_⟩
  · simp only [AMem.own, AMem.get_set] at h'
    by_cases e : β = α
    · subst e; rw [AMem.own_get hg]; exact ho
    · rw [if_neg e] at h'; exact h'
  · have := hm α l hρ e.symm
    rw [AMem.own_get hg, ho] at this; cases this

/-! ### draws -/
theorem Sim.drew {ρ : Loc} {M : AMem} {w : World} (s : Sim ρ M w) (n : Nat) : Sim ρ M { w with drawn := n } :=
  ⟨s.dom, s.inb, fun α l B h hb => BlkR.mono (w := w) (w' := { w with drawn := n }) (Loc.le_refl ρ) rfl (s.blk α l B h hb), s.sep, s.wf⟩
theorem Ext.drew {ρ : Loc} {M : AMem} {w : World} (n : Nat) : Ext ρ M w ρ M { w with drawn := n } :=
  ⟨Loc.le_refl ρ, Nat.le_refl _, Nat.le_refl _, rfl, rfl, rfl, fun _ _ _ h => h, fun α l h1 h2 => (by rw [h1] at h2; cases h2), fun _ _ _ => rfl⟩

/-! ### rows of cells -/
/-- what is known of a row that may be read -/
theorem Sim.row {ρ : Loc} {M : AMem} {w : World} (s : Sim ρ M w) {α : Nat} {c : List AV} {l : Pl} (hρ : ρ α = some l) (hr : M.row α = some c) :
    ∃ (C : List Value) (e : TypeId) (fz : Nat × Nat), w.heap[l.b]? = some (.cells C.toArray e fz) ∧ VL ρ c ((C.drop l.p).take c.length) := by
  unfold AMem.row at hr
  split at hr
  · rename_i c' sz cl hg
    cases hr
    cases s.blk α l _ hρ hg with
    | cells _ _ _ _ C e fz h1 h2 h3 h4 h5 => exact ⟨C, e, fz, h1, h2⟩
  · rename_i c' hg
    cases hr
    cases s.blk α l _ hρ hg with
    | ro _ _ C e fz h1 h2 _ => exact ⟨C, e, fz, h1, h2⟩
  · cases hr

theorem cell_of_list {w : World} {g : Nat} {C : List Value} {e : TypeId} {fz : Nat × Nat} (h : w.heap[g]? = some (.cells C.toArray e fz)) (i : Nat) : w.cell? ⟨g, i, none⟩ = C[i]? := by
  simp [World.cell?, h]

theorem VL.len {ρ : Loc} {c : List AV} {C : List Value} {p : Nat} (h : VL ρ c ((C.drop p).take c.length)) : c.length ≤ C.length - p := by
  have := h.1
  simp at this
  omega

theorem VL.at {ρ : Loc} {c : List AV} {C : List Value} {p : Nat} (h : VL ρ c ((C.drop p).take c.length)) {i : Nat} {x : AV} (hx : c[i]? = some x) : ∃ y, C[p + i]? = some y ∧ VR ρ x y := by
  obtain ⟨y, hy, hv⟩ := h.get hx
  refine ⟨y, ?_, hv⟩
  rw [List.getElem?_take] at hy
  split at hy
  · rwa [List.getElem?_drop] at hy
  · cases hy

theorem add_none (b o i : Nat) : (⟨b, o, none⟩ : Addr).add i = ⟨b, o + i, none⟩ := by
  unfold Addr.add
  split
  · rename_i h; subst h; rfl
  · rfl

/-- cells from a place on, read -/
theorem run_cellsFrom {P : Program} {ρ : Loc} {M : AMem} {w : World} (s : Sim ρ M w) {α o n : Nat} {l : Pl} {vs : List AV} (hρ : ρ α = some l) (h : cellsFrom M (α, o) n = some vs) :
    vs.length = n ∧ ∃ ys : List Value, VL ρ vs ys ∧ ys.length = n ∧ (loadCells ⟨l.b, l.p + o, none⟩ n).run P w = .ok ys.toArray w := by
  unfold cellsFrom at h
  split at h
  · rename_i c hr
    split at h
    · rename_i hle
      cases h
      obtain ⟨C, e, fz, hC, hv⟩ := s.row hρ hr
      have hlen := hv.len
      have hle' : o + n ≤ c.length := hle
      have hn : ((c.drop o).take n).length = n := by simp; omega
      refine ⟨hn, ((C.drop (l.p + o)).take n), ?_, ?_, ?_⟩
      · have h1 := (hv.drop o).take n
        have e1 : List.take n (List.drop o (List.take c.length (List.drop l.p C))) = (C.drop (l.p + o)).take n := by
          rw [List.drop_take, List.take_take, List.drop_drop, Nat.min_eq_left (by omega)]
        rw [e1] at h1
        exact h1
      · simp; omega
      · have hl : ((C.drop (l.p + o)).take n).length = n := by simp; omega
        have := run_loadCells_list (P := P) w ⟨l.b, l.p + o, none⟩ ((C.drop (l.p + o)).take n) (fun j v hj => by
          rw [add_none, cell_of_list hC]
          rw [List.getElem?_take] at hj
          split at hj
          · rwa [List.getElem?_drop] at hj
          · cases hj)
        rw [hl] at this
        exact this
    · cases h
  · cases h

theorem run_isAgg {P : Program} {t : TypeId} {u : TypeDesc} (h : P.underlying t = some u) (w : World) : (isAgg t).run P w = .ok (isAggT P t) w := by
  unfold isAgg isAggT
  rw [Sem.run_bind, run_underlying h, Result.andThen_ok, h]
  cases u <;> rfl

theorem run_size {P : Program} {t : TypeId} {i : TypeInfo} (h : P.info? t = some i) (w : World) : (sizeOf t).run P w = .ok i.size w := by
  unfold sizeOf
  rw [Sem.run_bind, run_typeInfo w h]; rfl

/-- a variable, read -/
theorem run_loadA {P : Program} {ρ : Loc} {M : AMem} {w : World} (s : Sim ρ M w) {t : TypeId} {α o : Nat} {l : Pl} {v : AV} (hρ : ρ α = some l) (h : loadA P M t (α, o) = some v) :
    ∃ x, (loadVar t ⟨l.b, l.p + o, none⟩).run P w = .ok x w ∧ VR ρ v x := by
  unfold loadA at h
  split at h
  · rename_i c hr
    unfold partA at h
    split at h
    · rename_i u i hu hi
      unfold loadVar
      rw [Sem.run_bind, run_isAgg hu, Result.andThen_ok]
      split at h
      · rename_i hagg
        split at h
        · rename_i hle
          cases h
          have hcf : cellsFrom M (α, o) i.size = some ((c.drop o).take i.size) := by
            unfold cellsFrom
            rw [show M.row (α, o).1 = some c from hr]
            simp only
            rw [if_pos hle]
          obtain ⟨_, ys, hys, _, hrun⟩ := run_cellsFrom (P := P) s hρ hcf
          refine ⟨.agg ys.toArray, ?_, hys.agg⟩
          rw [hagg]
          simp only [if_true, Sem.run_bind, run_size hi, Result.andThen_ok, hrun]
          rfl
        · cases h
      · rename_i hagg
        obtain ⟨C, e, fz, hC, hv⟩ := s.row hρ hr
        obtain ⟨y, hy, hvy⟩ := hv.at h
        refine ⟨y, ?_, hvy⟩
        have hf : isAggT P t = false := by simpa using hagg
        rw [hf]
        simp only [Bool.false_eq_true, if_false, run_load, cell_of_list hC]
        have e1 : C[l.p + o]? = some y := by simpa [Nat.add_assoc] using hy
        rw [e1]
    · cases h
  · cases h

/-! ### stores -/
theorem getElem?_splice {α : Type} (l : List α) (o : Nat) (vs : List α) (h : o + vs.length ≤ l.length) (i : Nat) :
    (l.take o ++ vs ++ l.drop (o + vs.length))[i]? = if i < o then l[i]? else if i < o + vs.length then vs[i - o]? else l[i]? := by
  have hto : (l.take o).length = o := by simp; omega
  by_cases h1 : i < o
  · rw [if_pos h1, List.append_assoc, List.getElem?_append_left (by omega), List.getElem?_take, if_pos h1]
  · rw [if_neg h1]
    by_cases h2 : i < o + vs.length
    · rw [if_pos h2, List.getElem?_append_left (by simp; omega), List.getElem?_append_right (by omega), hto]
    · rw [if_neg h2, List.getElem?_append_right (by simp; omega), List.getElem?_drop]
      congr 1
      simp; omega

theorem length_splice {α : Type} (l : List α) (o : Nat) (vs : List α) (h : o + vs.length ≤ l.length) : (l.take o ++ vs ++ l.drop (o + vs.length)).length = l.length := by
  simp; omega

theorem VL.splice {ρ : Loc} {c vs : List AV} {C ys : List Value} {p o : Nat} (h : VL ρ c ((C.drop p).take c.length)) (hv : VL ρ vs ys) (ho : o + vs.length ≤ c.length) (hp : p + c.length ≤ C.length) :
    VL ρ (c.take o ++ vs ++ c.drop (o + vs.length)) (((C.take (p + o) ++ ys ++ C.drop (p + o + ys.length)).drop p).take c.length) := by
  have hl := hv.1
  refine ⟨by rw [length_splice c o vs ho]; simp; omega, fun i x y hx hy => ?_⟩
  rw [getElem?_splice c o vs ho] at hx
  rw [List.getElem?_take] at hy
  split at hy
  case isFalse => cases hy
  rename_i hi
  rw [List.getElem?_drop, getElem?_splice C (p + o) ys (by omega)] at hy
  by_cases h1 : i < o
  · rw [if_pos h1] at hx
    rw [if_pos (by omega)] at hy
    obtain ⟨y', hy', hv'⟩ := h.at hx
    rw [hy'] at hy; cases hy; exact hv'
  · rw [if_neg h1] at hx
    rw [if_neg (by omega)] at hy
    by_cases h2 : i < o + vs.length
    · rw [if_pos h2] at hx
      rw [if_pos (by omega)] at hy
      have : p + i - (p + o) = i - o := by omega
      rw [this] at hy
      exact hv.2 _ _ _ hx hy
    · rw [if_neg h2] at hx
      rw [if_neg (by omega)] at hy
      obtain ⟨y', hy', hv'⟩ := h.at hx
      rw [hy'] at hy; cases hy; exact hv'

theorem run_storeCells_un {P : Program} (g o : Nat) (t : TypeId) (fz : Nat × Nat) : ∀ (vs : List Value) (i : Nat) (cur : Array Value) (w : World), w.heap[g]? = some (.cells cur t fz) → o + i + vs.length ≤ cur.size →
    (∀ v ∈ vs, v.oneCell' = true) → (∀ j, o + i ≤ j → j < o + i + vs.length → ¬(fz.1 ≤ j ∧ j < fz.2)) →
    (storeCells ⟨g, o, none⟩ vs i).run P w = .ok () (w.setRow g (cur.toList.take (o + i) ++ vs ++ cur.toList.drop (o + i + vs.length)).toArray)
  | [], i, cur, w, hg, _, _, _ => by
    simp only [storeCells, List.append_nil, List.length_nil, Nat.add_zero, List.take_append_drop, Array.toArray_toList]
    rw [setRow_self w g cur t fz hg]
    rfl
  | v :: rest, i, cur, w, hg, hl, h1, hfz => by
    have hi : o + i < cur.size := by simp at hl; omega
    have hadd : (⟨g, o, none⟩ : Addr).add i = ⟨g, o + i, none⟩ := add_none g o i
    have hcell : w.cell? ⟨g, o + i, none⟩ = some cur[o + i] := by simp [World.cell?, hg, hi]
    have hfro : w.frozen? ⟨g, o + i, none⟩ = false := by
      have := hfz (o + i) (Nat.le_refl _) (by simp)
      simp [World.frozen?, hg]
      omega
    have hst : (store ((⟨g, o, none⟩ : Addr).add i) v).run P w = .ok () (w.setRow g (cur.setIfInBounds (o + i) v)) := by
      rw [hadd, run_store P w _ v _ (h1 v (by simp)), hcell]
      simp [hfro, setCell_eq_setRow w g (o + i) cur t fz v hg]
    have ih := run_storeCells_un (P := P) g o t fz rest (i + 1) (cur.setIfInBounds (o + i) v) (w.setRow g (cur.setIfInBounds (o + i) v)) (setRow_heap w g cur _ t _ hg) (by simp at hl ⊢; omega)
      (fun x hx => h1 x (by simp [hx])) (fun j a b => hfz j (by omega) (by simp; omega))
    simp only [storeCells, Sem.run_bind, hst, Result.andThen_ok, ih, setRow_setRow]
    congr 3
    have e := list_seg_step cur.toList (o + i) v rest (by simp at hl ⊢; omega)
    simpa [Array.toList_setIfInBounds, Nat.add_assoc] using e

theorem all_flat {ρ : Loc} {vs : List AV} {ys : List Value} (h : VL ρ vs ys) (hf : vs.all flatA = true) : ∀ y ∈ ys, y.oneCell' = true := by
  intro y hy
  obtain ⟨i, hi, e⟩ := List.mem_iff_getElem.1 hy
  have hi' : i < vs.length := by rw [h.1]; exact hi
  exact (h.2 i vs[i] y (List.getElem?_eq_getElem hi') (by rw [List.getElem?_eq_getElem hi, e])).flat (List.all_eq_true.1 hf _ (List.getElem_mem hi'))

/-- cells written into an own row -/
theorem run_putAt {P : Program} {ρ : Loc} {M : AMem} {w : World} (s : Sim ρ M w) {α o sz : Nat} {cl : Cl} {l : Pl} {c c' vs : List AV} {ys : List Value} (hρ : ρ α = some l) (hg : M.get α = some (.cells c sz cl))
    (hp : putAt c o vs = some c') (hz : cl.fzn ≤ o) (hv : VL ρ vs ys) (hf : vs.all flatA = true) :
    ∃ w', (storeCells ⟨l.b, l.p + o, none⟩ ys).run P w = .ok () w' ∧ Sim ρ (M.set α (.cells c' sz cl)) w' ∧ Ext ρ M w ρ (M.set α (.cells c' sz cl)) w' := by
  unfold putAt at hp
  split at hp
  case isFalse => cases hp
  rename_i hle
  cases hp
  cases s.blk α l _ hρ hg with
  | cells _ _ _ _ C e fz h1 h2 h3 h4 h5 =>
    have hlen := h2.len
    have hys := hv.1
    by_cases hnil : l.p + c.length ≤ C.length
    · have hb : l.p + o + ys.length ≤ C.length := by omega
      have hrun := run_storeCells_un (P := P) l.b (l.p + o) e fz ys 0 C.toArray w h1 (by simpa using hb) (all_flat hv hf) (fun j a b => h3 j (by omega) (by omega))
      simp only [Nat.add_zero] at hrun
      refine ⟨_, hrun, ?_, ?_⟩
      · refine s.set hρ hg rfl (by simp [World.setRow]) (fun b hb => setRow_other w l.b b _ hb) ?_
        refine .cells _ sz cl l (C.take (l.p + o) ++ ys ++ C.drop (l.p + o + ys.length)) e fz (setRow_heap w l.b _ _ e fz h1) ?_ ?_ h4 ?_
        · rw [length_splice c o vs hle]
          exact h2.splice hv hle hnil
        · rw [length_splice C (l.p + o) ys hb]; exact h3
        · rw [length_splice C (l.p + o) ys hb, length_splice c o vs hle]
          intro hsz
          obtain ⟨q1, q2, q3, q4⟩ := h5 hsz
          refine ⟨q1, q2, q3, fun j v hj1 hj2 hv' => ?_⟩
          rw [getElem?_splice C (l.p + o) ys hb, if_neg (by omega), if_neg (by omega)] at hv'
          exact q4 j v hj1 hj2 hv'
      · exact Ext.set hρ hg rfl (by simp [World.setRow]) rfl rfl rfl (fun b hb => setRow_other w l.b b _ hb)
    · -- the row is empty: nothing is written
      have hc0 : c.length = 0 := by omega
      have hv0 : vs = [] := List.eq_nil_of_length_eq_zero (by omega)
      subst hv0
      have hy0 : ys = [] := List.eq_nil_of_length_eq_zero (by simpa using hys.symm)
      subst hy0
      have hcn : c = [] := List.eq_nil_of_length_eq_zero hc0
      subst hcn
      refine ⟨w, rfl, ?_, ?_⟩
      · refine s.set hρ hg rfl rfl (fun _ _ => rfl) ?_
        simp only [List.take_nil, List.append_nil, List.drop_nil]
        exact .cells [] sz cl l C e fz h1 h2 h3 h4 h5
      · exact Ext.set hρ hg rfl rfl rfl rfl rfl (fun _ _ => rfl)

theorem needB_two {β : Type} {b : Bool} {k : Option β} {r : β} (h : needB b k = some r) : b = true ∧ k = some r := by
  cases b with
  | true => exact ⟨rfl, h⟩
  | false => cases h

/-- a variable, written -/
theorem run_storeA {P : Program} {ρ : Loc} {M M' : AMem} {w : World} (s : Sim ρ M w) {t : TypeId} {α o : Nat} {l : Pl} {v : AV} {x : Value} (hρ : ρ α = some l) (h : storeA P M t (α, o) v = some M') (hv : VR ρ v x) :
    ∃ w', (storeVar t ⟨l.b, l.p + o, none⟩ x).run P w = .ok () w' ∧ Sim ρ M' w' ∧ Ext ρ M w ρ M' w' := by
  unfold storeA at h
  split at h
  · rename_i c sz cl hg
    split at h
    · rename_i u i hu hi
      split at h
      · rename_i hc
        split at h
        · rename_i c' hp
          obtain ⟨hz, h⟩ := needB_two h
          cases h
          obtain ⟨w', hrun, hs', he⟩ := run_putAt (P := P) s hρ hg hp (Nat.le_of_ble_eq_true hz) hv.cells hc.2
          refine ⟨w', ?_, hs', he⟩
          unfold storeVar
          rw [Sem.run_bind, run_size hi, Result.andThen_ok]
          have hsz : x.cells.size = i.size := by have := hv.cells.1; simpa [hc.1] using this.symm
          simp only [hsz, ne_eq, not_true_eq_false, if_false]
          exact hrun
        · cases h
      · cases h
    · cases h
  · cases h
end Go.Ab
