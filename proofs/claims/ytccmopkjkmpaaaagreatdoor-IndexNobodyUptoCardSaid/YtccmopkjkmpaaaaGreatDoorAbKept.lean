/-
  A call that leaves the blocks that it was given as they were: its own blocks are forgotten.
-/
import Derived.Test.YtccmopkjkmpaaaaGreatDoorAbCut
import Derived.Test.YtccmopkjkmpaaaaGreatDoorAbIns
namespace Go.Ab
set_option linter.unusedVariables false
set_option linter.unusedSimpArgs false

theorem VR.back {ρ ρ' : Loc} (hle : ρ.le ρ') {x : AV} {u : Value} (h : VR ρ x u) : ∀ {u' : Value}, VR ρ' x u' → VR ρ x u' := by
  induction h with
  | bool b => intro u' h'; cases h'; exact .bool b
  | int k n => intro u' h'; cases h'; exact .int k n
  | str s => intro u' h'; rw [h'.str_inv]; exact VR.str_mk _
  | pnil => intro u' h'; rw [h'.ptr_none_inv]; exact .pnil
  | ptr α o l e =>
    intro u' h'
    obtain ⟨l', e', rfl⟩ := h'.ptr_inv
    obtain rfl := Option.some.inj ((hle _ _ e).symm.trans e')
    exact .ptr α o l e
  | slnil => intro u' h'; cases h'; exact .slnil
  | sl α o n c l cap e h1 h2 =>
    intro u' h'
    generalize hx : AV.slice (some (α, o)) n c = x at h'
    cases h' with
    | sl α' o' n' c' l' cap' e' h1' h2' =>
      cases hx
      obtain rfl := Option.some.inj ((hle _ _ e).symm.trans e')
      exact .sl _ _ _ _ _ _ e h1' h2'
    | sl0 y c' a' cap' h2' => cases hx; exact .sl0 _ _ _ _ h2'
    | _ => cases hx
  | sl0 y c a cap h2 =>
    intro u' h'
    generalize hx : AV.slice (some y) 0 c = x at h'
    cases h' with
    | sl α' o' n' c' l' cap' e' h1' h2' =>
      cases hx
      rcases h2 with ⟨rfl, h3⟩ | ⟨rfl, rfl⟩
      · exact .sl0 _ none _ cap' (.inl ⟨rfl, h3⟩)
      · rcases h2' with h4 | ⟨h4, _⟩
        · cases h4; exact .sl0 _ (some 0) _ 0 (.inr ⟨rfl, rfl⟩)
        · cases h4
    | sl0 y' c' a' cap' h2' => cases hx; exact .sl0 _ _ _ _ h2'
    | _ => cases hx
  | mnil => intro u' h'; rw [h'.map_none_inv]; exact .mnil
  | map α l e =>
    intro u' h'
    obtain ⟨l', e', rfl⟩ := h'.map_inv
    obtain rfl := Option.some.inj ((hle _ _ e).symm.trans e')
    exact .map α l e
  | func fn xs cs ys ds h1 h2 _ _ ih1 ih2 =>
    intro u' h'
    obtain ⟨ys', ds', rfl, k1, k2⟩ := h'.func_inv
    refine .func fn xs cs ys' ds' k1.1 k2.1 (fun i x y hx hy => ?_) (fun i x y hx hy => ?_)
    · have hi : i < xs.length := (List.getElem?_eq_some_iff.1 hx).1
      exact ih1 i x (ys[i]'(by omega)) hx (List.getElem?_eq_getElem (by omega)) (k1.2 i x y hx hy)
    · have hi : i < cs.length := (List.getElem?_eq_some_iff.1 hx).1
      exact ih2 i x (ds[i]'(by omega)) hx (List.getElem?_eq_getElem (by omega)) (k2.2 i x y hx hy)
  | nilFunc => intro u' h'; rw [h'.nilFunc_inv]; exact .nilFunc
  | iface t v u _ ih =>
    intro u' h'
    obtain ⟨u2, rfl, h2⟩ := h'.iface_inv
    exact .iface t v u2 (ih h2)
  | nilIface => intro u' h'; rw [h'.nilIface_inv]; exact .nilIface
  | agg xs ys h1 _ ih =>
    intro u' h'
    obtain ⟨ys', rfl, k1⟩ := h'.agg_inv
    refine .agg xs ys' k1.1 fun i x y hx hy => ?_
    have hi : i < xs.length := (List.getElem?_eq_some_iff.1 hx).1
    exact ih i x (ys[i]'(by omega)) hx (List.getElem?_eq_getElem (by omega)) (k1.2 i x y hx hy)
  | tup xs ys h1 _ ih =>
    intro u' h'
    obtain ⟨ys', rfl, k1⟩ := h'.tup_inv
    refine .tup xs ys' k1.1 fun i x y hx hy => ?_
    have hi : i < xs.length := (List.getElem?_eq_some_iff.1 hx).1
    exact ih i x (ys[i]'(by omega)) hx (List.getElem?_eq_getElem (by omega)) (k1.2 i x y hx hy)

theorem VL.back {ρ ρ' : Loc} (hle : ρ.le ρ') {xs : List AV} {ys ys' : List Value} (h : VL ρ xs ys) (h' : VL ρ' xs ys') : VL ρ xs ys' := by
  refine ⟨h'.1, fun i x y hx hy => ?_⟩
  have hi : i < xs.length := (List.getElem?_eq_some_iff.1 hx).1
  have h1 := h.1
  exact VR.back hle (h.2 i x (ys[i]'(by omega)) hx (List.getElem?_eq_getElem (by omega))) (h'.2 i x y hx hy)

theorem BlkR.back {ρ ρ' : Loc} (hle : ρ.le ρ') {w w' : World} {B : ABlk} {l : Pl} (h : BlkR ρ w B l) (h' : BlkR ρ' w' B l) : BlkR ρ w' B l := by
  cases h' with
  | cells c sz cl _ C e fz h1 h2 h3 h4 h5 =>
    cases h with
    | cells _ _ _ _ C0 e0 fz0 k1 k2 k3 k4 k5 => exact .cells c sz cl l C e fz h1 (VL.back hle k2 h2) h3 h4 h5
  | ro c _ C e fz h1 h2 h3 =>
    cases h with
    | ro _ _ C0 e0 fz0 k1 k2 k3 => exact .ro c l C e fz h1 (VL.back hle k2 h2) h3
  | map es clock _ ES h1 h2 h3 =>
    cases h with
    | map _ _ _ ES0 k1 k2 k3 =>
      refine .map es clock l ES h1 h2 fun i e E he hE => ?_
      have hi : i < es.length := (List.getElem?_eq_some_iff.1 he).1
      obtain ⟨a1, a2, a3⟩ := h3 i e E he hE
      obtain ⟨b1, b2, b3⟩ := k3 i e (ES0[i]'(by omega)) he (List.getElem?_eq_getElem (by omega))
      exact ⟨VR.back hle b1 a1, VR.back hle b2 a2, a3⟩

/-- M2 is M, but for blocks of closed cells; M' has M2's blocks, and more -/
structure Kept (M M' M2 : AMem) : Prop where
  next : M2.next = M.next
  same : ∀ α, α < M.next → M'.get α = M2.get α
  blk : ∀ α, M2.get α = M.get α ∨ ∃ c sz cl c0 sz0 cl0, M2.get α = some (.cells c sz cl) ∧ c.all closedA = true ∧ M.get α = some (.cells c0 sz0 cl0)

theorem Kept.own {M M' M2 : AMem} (h : Kept M M' M2) (α : Nat) : M2.own α = M.own α := by
  unfold AMem.own
  rcases h.blk α with e | ⟨c, sz, cl, c0, sz0, cl0, e1, _, e2⟩
  · rw [e]
  · rw [e1, e2]; rfl

theorem Kept.none {M M' M2 : AMem} (h : Kept M M' M2) {α : Nat} (e : M.get α = none) : M2.get α = none := by
  rcases h.blk α with e1 | ⟨c, sz, cl, c0, sz0, cl0, e1, _, e2⟩
  · rw [e1, e]
  · rw [e2] at e; cases e

/-- a call that keeps what it was given, but for closed blocks, is answered so: its own blocks are forgotten -/
theorem kept_call {P : Program} (hm : P.follows .mixedOrders = true) {hook : Hook} (hh : HookOk P hook) {n : Nat} {f : FuncId} {args : List AV} {v : AV} {M M' M2 : AMem}
    (h : acall P hook n f args M = some (v, M')) (hk : Kept M M' M2) (hc : ∀ {ρ ρ' : Loc} {x : Value}, VR ρ v x → VR ρ' v x)
    {ρ : Loc} {w : World} {vs : List Value} (s : Sim ρ M w) (hg : GlobR P ρ) (hv : VL ρ args vs) :
    Calls P f vs.toArray w (fun e w' => ∃ ρ' x, e = .returned x ∧ VR ρ' v x ∧ Sim ρ' M2 w' ∧ Ext ρ M w ρ' M2 w') := by
  refine (acall_sound hm hh n f args M _ _ h ρ w vs s hg hv).mono ?_
  rintro e w' ⟨ρ', x, rfl, hx, s', he⟩
  refine ⟨ρ, x, rfl, hc hx, ⟨fun α l hl => by rw [hk.next]; exact s.dom α l hl, fun α l hl => Nat.lt_of_lt_of_le (s.inb α l hl) he.size, fun α l B hl hB => ?_, fun α β l k hne h1 h2 h3 h4 => hk.none (s.sep α β l k hne h1 h2 h3 (by rw [← hk.own]; exact h4)), fun α hα => hk.none (s.wf α (by rw [← hk.next]; exact hα))⟩,
    ⟨Loc.le_refl ρ, Nat.le_of_eq hk.next.symm, he.size, he.os, he.tape, he.output, fun α l _ ho => by rw [← hk.own]; exact ho, fun α l h1 h2 => (by rw [h1] at h2; cases h2), fun b hb hno => he.keep b hb hno⟩⟩
  have hα := s.dom α l hl
  have hb := s'.blk α l B (he.sub _ _ hl) (by rw [hk.same α hα]; exact hB)
  rcases hk.blk α with e1 | ⟨c, sz, cl, c0, sz0, cl0, e1, hcl, e2⟩
  · exact BlkR.back he.sub (s.blk α l B hl (by rw [← e1]; exact hB)) hb
  · rw [e1] at hB
    cases hB
    exact BlkR.closedCells hcl hb
end Go.Ab
