/-
  What single operations come to, under the simulation: append and copy.
-/
import Derived.Test.YtccmopkjkmpaaaaGreatDoorAbOpsG
namespace Go.Ab
set_option linter.unusedSimpArgs false
set_option linter.unusedVariables false

section
variable {P : Program} {o : Oper} {a : Act} {ρ : Loc} {M : AMem} {w : World} {β : Type} {r : β}

theorem VL.strBytes (t : List UInt8) : VL ρ (strOfBytes t) (t.map fun b => Value.int .u8 b.toNat) := by
  induction t with
  | nil => exact VL.nil ρ
  | cons b t ih => exact VL.cons (.int _ _) ih

theorem srcLen_sound {x : AV} {x' : Value} {n : Nat} (hx : VR ρ x x') (h : srcLen x = some n) : (Builtin.lenOf x').run P w = .ok n w := by
  unfold srcLen at h
  split at h
  · cases h; obtain ⟨ad, cap, rfl, _⟩ := hx.slice_inv; rfl
  · cases h; rw [hx.str_inv]; simp [Builtin.lenOf, ByteArray.size]
  · cases h

/-- the source's cells, in every world that has this memory -/
theorem srcCells_sound {size n : Nat} {x : AV} {x' : Value} {vs : List AV} (hx : VR ρ x x') (h : srcCells M size n x = some vs) :
    vs.length = n * size ∧ ∀ w, Sim ρ M w → ∃ ys : List Value, VL ρ vs ys ∧ ys.length = n * size ∧ (Builtin.firstCells size n x').run P w = .ok ys.toArray w := by
  unfold srcCells at h
  split at h
  · rename_i p len c
    obtain ⟨α, q⟩ := p
    obtain ⟨ad, cap, rfl, hn, _, h2⟩ := hx.slice_inv
    obtain ⟨y, rfl, hq⟩ := h2 α q rfl
    split at h
    · rename_i hle
      split at h
      · rename_i e; subst e; cases h
        exact ⟨by simp, fun w _ => ⟨[], VL.nil ρ, by simp, by simp [Builtin.firstCells, loadCells, loadCellsFrom]⟩⟩
      · rename_i e
        rcases hq with ⟨l, hl, rfl, _⟩ | ⟨e', _⟩
        · have hlen : vs.length = n * size := by
            unfold cellsFrom at h
            split at h
            · split at h
              · rename_i hle; cases h
                have : q + n * size ≤ _ := hle
                simp; omega
              · cases h
            · cases h
          refine ⟨hlen, fun w s => ?_⟩
          obtain ⟨_, ys, h1, h2, h3⟩ := run_cellsFrom (P := P) s hl h
          exact ⟨ys, h1, h2, h3⟩
        · omega
    · cases h
  · rename_i len c
    split at h
    · rename_i e; subst e; cases h
      obtain ⟨ad, cap, rfl, hn, h1, _⟩ := hx.slice_inv
      obtain ⟨rfl, _⟩ := h1 rfl
      exact ⟨by simp, fun w _ => ⟨[], VL.nil ρ, by simp, by simp [Builtin.firstCells]⟩⟩
    · cases h
  · rename_i t
    split at h
    · rename_i hc
      cases h
      obtain ⟨hc1, rfl⟩ := hc
      rw [hx.str_inv]
      refine ⟨by simp [strOfBytes]; omega, fun w _ => ⟨_, VL.strBytes (t.take n), by simp; omega, ?_⟩⟩
      simp only [Builtin.firstCells, Sem.run_pure]
      congr 1
      apply Array.ext'
      simp
    · cases h
  · cases h

/-! ### a row that goes on in its spare room: its block is killed, and a new number lies there -/
theorem Sim.moved {w' : World} (s : Sim ρ M w) {α : Nat} {B B' : ABlk} {l l' : Pl} (hl : ρ α = some l) (hg : M.get α = some B) (ho : B.own = true) (hl' : l'.b = l.b)
    (hsz : w'.heap.size = w.heap.size) (hk : ∀ b : Nat, b ≠ l.b → w'.heap[b]? = w.heap[b]?) (hb : ∀ σ : Loc, ρ.le σ → BlkR σ w' B' l') (ho' : B'.own = true) (hos : w'.os = w.os) (ht : w'.tape = w.tape) (hou : w'.output = w.output) :
    Sim (ρ.upd M.next l') ((M.kill α).new B') w' ∧ Ext ρ M w (ρ.upd M.next l') ((M.kill α).new B') w' := by
  have hle := Loc.le_upd ρ M.next l' s.none_next
  have hα : α < M.next := s.lt hg
  have hoth : ∀ β k, ρ β = some k → β ≠ α → k.b = l.b → M.get β = none := fun β k h hne e => s.sep α β l k (Ne.symm hne) hl h e.symm (by rw [AMem.own_get hg]; exact ho)
  have hget : ∀ β, ((M.kill α).new B').get β = if β = M.next then some B' else if β = α then none else M.get β := fun β => by
    rw [AMem.get_new, AMem.get_kill]; rfl
  refine ⟨⟨fun β k h => ?_, fun β k h => ?_, fun β k D h hd => ?_, fun β γ k m hne h1 h2 h3 h4 => ?_, fun β hb' => ?_⟩, ?_⟩
  · show β < M.next + 1
    by_cases e : β = M.next
    · omega
    · rw [Loc.upd_ne ρ l' e] at h; have := s.dom β k h; omega
  · rw [hsz]
    by_cases e : β = M.next
    · subst e; rw [Loc.upd_same] at h; cases h; rw [hl']; exact s.inb α l hl
    · rw [Loc.upd_ne ρ l' e] at h; exact s.inb β k h
  · rw [hget] at hd
    by_cases e : β = M.next
    · rw [if_pos e] at hd; cases hd
      subst e; rw [Loc.upd_same] at h; cases h
      exact hb _ hle
    · rw [if_neg e] at hd
      rw [Loc.upd_ne ρ l' e] at h
      by_cases e' : β = α
      · rw [if_pos e'] at hd; cases hd
      · rw [if_neg e'] at hd
        have hne : k.b ≠ l.b := fun h' => by rw [hoth β k h e' h'] at hd; cases hd
        exact (s.blk β k D h hd).mono hle (hk _ hne)
  · simp only [AMem.own, hget] at h4 ⊢
    by_cases e : β = M.next
    · have e' : γ ≠ M.next := fun h => hne (e.trans h.symm)
      rw [if_neg e']
      rw [e, Loc.upd_same] at h1; cases h1
      rw [Loc.upd_ne ρ l' e'] at h2
      by_cases e2 : γ = α
      · rw [if_pos e2]
      · rw [if_neg e2]; exact hoth γ m h2 e2 (by omega)
    · rw [if_neg e] at h4
      rw [Loc.upd_ne ρ l' e] at h1
      by_cases e1 : β = α
      · rw [if_pos e1] at h4; cases h4
      · rw [if_neg e1] at h4
        by_cases e' : γ = M.next
        · exfalso
          rw [e', Loc.upd_same] at h2; cases h2
          have := hoth β k h1 e1 (by omega)
          rw [this] at h4; cases h4
        · rw [if_neg e']
          rw [Loc.upd_ne ρ l' e'] at h2
          by_cases e2 : γ = α
          · rw [if_pos e2]
          · rw [if_neg e2]; exact s.sep β γ k m hne h1 h2 h3 h4
  · have hb'' : M.next + 1 ≤ β := hb'
    rw [hget, if_neg (by omega), if_neg (by omega)]
    exact s.wf β (by omega)
  · refine ⟨hle, Nat.le_succ _, by omega, hos, ht, hou, fun β k h h' => ?_, fun β k e1 e2 => ?_, fun b hb' hm => hk b fun e => ?_⟩
    · have hβ := s.dom β k h
      simp only [AMem.own, hget] at h'
      rw [if_neg (by omega)] at h'
      by_cases e : β = α
      · rw [if_pos e] at h'; cases h'
      · rw [if_neg e] at h'; exact h'
    · by_cases e : β = M.next
      · subst e; rw [Loc.upd_same] at e2; cases e2
        exact ⟨Nat.le_refl _, .inr ⟨α, l, hl, hl'.symm, by rw [AMem.own_get hg]; exact ho⟩⟩
      · rw [Loc.upd_ne ρ l' e, e1] at e2; cases e2
    · have := hm α l hl e.symm
      rw [AMem.own_get hg, ho] at this; cases this

/-- a new row of what was and what is new -/
theorem grown_row (s : Sim ρ M w) {M1 : AMem} (hM1 : Sim ρ M1 w) (he1 : Ext ρ M w ρ M1 w) (hn1 : M1.next = M.next) {old new : List AV} {os ns : List Value} (ho : VL ρ old os) (hn : VL ρ new ns) {len n size cap : Nat} (hlo : os.length = len * size) (hln : ns.length = n * size)
    (hcap : len + n ≤ cap) (cl : Cl) (e : TypeId) (hcl : ∀ t, cl = .of t → e = t) (hclz : ∀ t n, cl = .fz t n → e = t) (rest : List Value) (hrest : rest.length = (cap - (len + n)) * size) (hrig : ∀ v ∈ rest, ∃ x : AV, ∀ σ : Loc, VR σ x v) (hsz : size ≠ 0) (d : Nat) :
    ∃ ρ', VR ρ' (.slice (some (M.next, 0)) (len + n) none) (.slice (some ⟨w.heap.size, 0, none⟩) (len + n) cap) ∧ Sim ρ' (M1.new (.cells (old ++ new) size cl)) (({ w with drawn := d } : World).alloc (.cells (os ++ ns ++ rest).toArray e)) ∧
      Ext ρ M w ρ' (M1.new (.cells (old ++ new) size cl)) (({ w with drawn := d } : World).alloc (.cells (os ++ ns ++ rest).toArray e)) := by
  have htot : (os ++ ns ++ rest).length = cap * size := by
    simp only [List.length_append, hlo, hln, hrest]
    rw [← Nat.add_mul, ← Nat.add_mul]; congr 1; omega
  let l : Pl := ⟨w.heap.size, 0, size, cap * size⟩
  have h0 : Sim ρ M1 ({ w with drawn := d } : World) := hM1.drew d
  have hv : VL (ρ.upd M1.next l) (old ++ new) ((os ++ ns ++ rest).take (old ++ new).length) := by
    have h1 := ho.append hn
    have : (os ++ ns ++ rest).take (old ++ new).length = os ++ ns := by rw [h1.1]; exact List.take_left
    rw [this]
    exact h1.mono (Loc.le_upd ρ _ l hM1.none_next)
  obtain ⟨h1, h2⟩ := h0.alloc (B := .cells (old ++ new) size cl) (o := .cells (os ++ ns ++ rest).toArray e) (l := l) rfl (BlkR.newCells size cl e l hcl hclz rfl rfl hv (fun _ => ⟨rfl, by simp only [l]; omega, by have h1 := ho.append hn; have h2 := h1.1; rw [h2]; rw [List.length_append] at htot; simp only [l]; omega, fun j v hj1 hj2 hv' => by
      have h1 := (ho.append hn).1
      rw [h1] at hj1
      rw [List.getElem?_append_right hj1] at hv'
      exact hrig v (List.mem_of_getElem? hv')⟩))
  refine ⟨ρ.upd M1.next l, ?_, h1, ?_⟩
  · rw [← hn1]
    exact .sl M1.next 0 (len + n) none l cap (Loc.upd_same ρ _ l) hcap (.inr ⟨rfl, .inr (by simp [l])⟩)
  · exact he1.trans ((Ext.drew d).trans h2)

theorem cap_of {base : Option (Nat × Nat)} {len c : Nat} {ad : Option Addr} {cap' : Nat} (hx : VR ρ (.slice base len (some c)) (.slice ad len cap')) : cap' = c := by
  cases hx with
  | slnil => rfl
  | sl α o n _ l cap e h1 h2 => rcases h2 with h2 | ⟨h2, _⟩ <;> cases h2; rfl
  | sl0 x _ a cap h1 => rcases h1 with ⟨h1, _⟩ | ⟨h1, h2⟩ <;> cases h1; exact h2

theorem rigid_zeros {z : AV} {z' : Value} (hzv : ∀ ρ : Loc, VR ρ z z') (k : Nat) : ∀ v ∈ (Builtin.zeroCells z'.cells k).toList, ∃ x : AV, ∀ σ : Loc, VR σ x v := by
  intro v hv
  obtain ⟨i, hi⟩ := List.mem_iff_getElem?.1 hv
  have h0 := rep_sound ((hzv (fun _ => none)).cells) k
  have hil : i < (repA z.cells k).length := by
    rw [h0.1]
    exact (List.getElem?_eq_some_iff.1 hi).1
  refine ⟨(repA z.cells k)[i], fun σ => ?_⟩
  exact (rep_sound ((hzv σ).cells) k).2 i _ v (List.getElem?_eq_getElem hil) hi

/-- what append does, once its source is known -/
theorem growA_sound (s : Sim ρ M w) {e : TypeId} {cl0 : Cl} (hcl0 : ∀ t, cl0 = .of t → e = t) (hcl0z : ∀ t n, cl0 = .fz t n → e = t) {ie : TypeInfo} {base : Option (Nat × Nat)} {len : Nat} {cap : Option Nat} {n : Nat} {new : List AV} {res : SlT} {M' : AMem} {s' : Value}
    (hie : P.info? e = some ie) (hsz : ie.size ≠ 0) (hs : VR ρ (.slice base len cap) s') (hnl : new.length = n * ie.size) (hb : (len + n) * ie.bytes ≤ roomA)
    (app : Sem (Array Value)) (happ : ∀ w, Sim ρ M w → ∃ ys : List Value, VL ρ new ys ∧ ys.length = n * ie.size ∧ app.run P w = .ok ys.toArray w) {z' : Value} (hz' : ∀ w, (zeroValue e).run P w = .ok z' w) (hzl : z'.cells.size = ie.size) (hrig : ∀ k, ∀ v ∈ (Builtin.zeroCells z'.cells k).toList, ∃ x : AV, ∀ σ : Loc, VR σ x v)
    (h : growA M e cl0 ie.size base len cap n new = some (res, M')) :
    ∃ ad sCap, s' = .slice ad len sCap ∧
      ((len + n ≤ sCap ∧ ∃ ys : List Value, app.run P w = .ok ys.toArray w ∧ ∃ w', ((match ad with | some a => storeCells (a.add (len * ie.size)) ys | none => pure ()) : Sem Unit).run P w = .ok () w' ∧
          ∃ ρ', VR ρ' (.slice res.1 res.2.1 res.2.2) (.slice ad (len + n) sCap) ∧ Sim ρ' M' w' ∧ Ext ρ M w ρ' M' w') ∨
       (sCap < len + n ∧ ∃ os ys : List Value, (Builtin.firstCells ie.size len s').run P w.drew = .ok os.toArray w.drew ∧ app.run P w.drew = .ok ys.toArray w.drew ∧
          ∀ nc, len + n ≤ nc → ∃ ρ', VR ρ' (.slice res.1 res.2.1 res.2.2) (.slice (some ⟨w.heap.size, 0, none⟩) (len + n) nc) ∧
            Sim ρ' M' (w.drew.alloc (.cells (os.toArray ++ ys.toArray ++ Builtin.zeroCells z'.cells (nc - (len + n))) e)) ∧ Ext ρ M w ρ' M' (w.drew.alloc (.cells (os.toArray ++ ys.toArray ++ Builtin.zeroCells z'.cells (nc - (len + n))) e)))) := by
  obtain ⟨ad, sCap, rfl, hn, h1, h2⟩ := hs.slice_inv
  refine ⟨ad, sCap, rfl, ?_⟩
  obtain ⟨ys, hys, hyl, hyr⟩ := happ w s
  have hdrew : Sim ρ M w.drew := s.drew _
  unfold growA at h
  split at h
  · -- nothing new
    rename_i e0
    subst e0
    have hy0 : ys = [] := List.eq_nil_of_length_eq_zero (by omega)
    subst hy0
    refine .inl ⟨by omega, [], hyr, w, by cases ad <;> rfl, ρ, ?_, ?_⟩
    all_goals
      split at h
      · split at h
        · cases h
          first | exact hs | exact ⟨s, Ext.refl ρ M w⟩
        · cases h
      · cases h
        first | exact hs | exact ⟨s, Ext.refl ρ M w⟩
  · rename_i hn0
    split at h
    · rename_i c
      have hcc : sCap = c := cap_of hs
      subst hcc
      split at h
      · rename_i hroom
        split at h
        · cases h
        · rename_i p
          obtain ⟨α, q⟩ := p
          obtain ⟨x, rfl, hq⟩ := h2 α q rfl
          rcases hq with ⟨l, hl, rfl, _⟩ | ⟨e1, h3⟩
          · split at h
            · rename_i cs sz cl hg
              split at h
              · rename_i hfl
                split at h
                · rename_i cs' hput
                  obtain ⟨hz, h⟩ := needB_two h
                  cases h
                  obtain ⟨w', hrun, hs', he'⟩ := run_putAt (P := P) s hl hg hput (Nat.le_of_ble_eq_true hz) hys hfl
                  refine .inl ⟨hroom, ys, hyr, w', ?_, ρ, ?_, hs', he'⟩
                  · simp only [add_place]; exact hrun
                  · exact .sl α q (len + n) (some sCap) l sCap hl hroom (.inl rfl)
                · cases h
              · cases h
            · cases h
          · rcases h3 with h3 | ⟨h3, h4⟩
            · exact absurd h3.1 (by simp)
            · omega
      · rename_i hroom
        split at h
        · rename_i old hold
          cases h
          obtain ⟨_, hold'⟩ := srcCells_sound (P := P) hs hold
          obtain ⟨os, ho1, ho2, ho3⟩ := hold' w.drew hdrew
          obtain ⟨ys', hy1, hy2, hy3⟩ := happ w.drew hdrew
          refine .inr ⟨by omega, os, ys', ho3, hy3, fun nc hnc => ?_⟩
          obtain ⟨ρ', a1, a2, a3⟩ := grown_row s s (Ext.refl ρ M w) rfl ho1 hy1 ho2 hy2 hnc cl0 e hcl0 hcl0z (Builtin.zeroCells z'.cells (nc - (len + n))).toList (by simp [size_zeroCells, hzl]) (hrig _) hsz (w.drawn + 1)
          have earr : (os ++ ys' ++ (Builtin.zeroCells z'.cells (nc - (len + n))).toList).toArray = os.toArray ++ ys'.toArray ++ Builtin.zeroCells z'.cells (nc - (len + n)) := by apply Array.ext'; simp
          rw [earr] at a2 a3
          exact ⟨ρ', a1, a2, a3⟩
        · cases h
    · split at h
      · cases h
      · rename_i p
        obtain ⟨α, q⟩ := p
        obtain ⟨x, rfl, hq⟩ := h2 α q rfl
        split at h
        · rename_i cs sz cl hg
          split at h
          · rename_i hc
            obtain ⟨hlen, rfl, hfl⟩ := hc
            split at h
            · -- within what is known
              rename_i cs' hput
              obtain ⟨hz, h⟩ := needB_two h
              cases h
              rcases hq with ⟨l, hl, rfl, h3⟩ | ⟨e1, h3⟩
              · have h3 : l.sz = 0 ∨ q + sCap * l.sz = l.lim := by rcases h3 with h3 | ⟨_, h3⟩; exact absurd h3 (by simp); exact h3
                have hb5 : l.sz = ie.size ∧ cs.length ≤ l.lim := by
                  cases s.blk α l _ hl hg with
                  | cells _ _ _ _ C e' fz b1 b2 b3 b4 b5 => exact ⟨(b5 hsz).1, (b5 hsz).2.2.1⟩
                rw [hb5.1] at h3
                have h3 : q + sCap * ie.size = l.lim := by rcases h3 with h3 | h3; exact absurd h3 hsz; exact h3
                have hfit : q + len * ie.size + new.length ≤ cs.length := by
                  unfold putAt at hput
                  split at hput
                  · assumption
                  · cases hput
                have hroom : len + n ≤ sCap := by
                  have : (len + n) * ie.size ≤ sCap * ie.size := by rw [Nat.add_mul]; omega
                  exact Nat.le_of_mul_le_mul_right this (Nat.pos_of_ne_zero hsz)
                obtain ⟨w', hrun, hs', he'⟩ := run_putAt (P := P) s hl hg hput (Nat.le_of_ble_eq_true hz) hys hfl
                refine .inl ⟨hroom, ys, hyr, w', ?_, ρ, ?_, hs', he'⟩
                · simp only [add_place]; exact hrun
                · exact .sl α q (len + n) none l sCap hl hroom (.inr ⟨rfl, .inr (by rw [hb5.1]; exact h3)⟩)
              · exfalso
                rcases h3 with ⟨_, h3, _⟩ | ⟨h3, _⟩
                · rcases hlen with h | h
                  · omega
                  · exact h h3
                · cases h3
            rename_i hnone
            split at h
            · rename_i old hold
              obtain ⟨hgz, h⟩ := needB_two h
              rw [Bool.and_eq_true] at hgz
              have hzle : cl.fzn ≤ q + len * ie.size := Nat.le_of_ble_eq_true hgz.2
              have hgr : (∀ t k, cl = .fz t k → t = e ∧ q = 0) ∧ True := ⟨fun t k hc => by
                have h1 := hgz.1
                rw [hc] at h1
                simp only [Cl.grows, Bool.and_eq_true] at h1
                exact ⟨Nat.eq_of_beq_eq_true h1.1, Nat.eq_of_beq_eq_true h1.2⟩, trivial⟩
              cases h
              rcases hq with ⟨l, hl, rfl, h3⟩ | ⟨e1, h3'⟩
              · have h3 : l.sz = 0 ∨ q + sCap * l.sz = l.lim := by rcases h3 with h3 | ⟨_, h3⟩; exact absurd h3 (by simp); exact h3
                obtain ⟨holdl, hold'⟩ := srcCells_sound (P := P) hs hold
                by_cases hroom : len + n ≤ sCap
                · -- in place
                  obtain ⟨os, ho1, ho2, ho3⟩ := hold' w s
                  cases s.blk α l _ hl hg with
                  | cells _ _ _ _ C e' fz b1 b2 b3 b4 b5 =>
                    obtain ⟨hlsz, hlim, hcl', _⟩ := b5 hsz
                    have hbeyond : cs.length < q + len * ie.size + new.length := by
                      rcases Nat.lt_or_ge cs.length (q + len * ie.size + new.length) with h' | h'
                      · exact h'
                      · unfold putAt at hnone; rw [if_pos h'] at hnone; cases hnone
                    rw [hlsz] at h3
                    have h3 : q + sCap * ie.size = l.lim := by rcases h3 with h3 | h3; exact absurd h3 hsz; exact h3
                    have hmul : (len + n) * ie.size ≤ sCap * ie.size := Nat.mul_le_mul_right _ hroom
                    rw [Nat.add_mul] at hmul
                    have hin : l.p + (q + len * ie.size) + ys.length ≤ C.length := by omega
                    have hrun := run_storeCells_un (P := P) l.b (l.p + (q + len * ie.size)) e' fz ys 0 C.toArray w b1 (by simpa using hin) (all_flat hys hfl) (fun j a b => b3 j (by omega) (by omega))
                    simp only [Nat.add_zero] at hrun
                    let l' : Pl := ⟨l.b, l.p + q, ie.size, l.lim - q⟩
                    have hspl := length_splice C (l.p + (q + len * ie.size)) ys hin
                    have hv : VL ρ (old ++ new) (((C.take (l.p + (q + len * ie.size)) ++ ys ++ C.drop (l.p + (q + len * ie.size) + ys.length)).drop (l.p + q)).take (old ++ new).length) := by
                      have hoc : os = (C.drop (l.p + q)).take (len * ie.size) := by
                        have hx1 : (Builtin.firstCells ie.size len (.slice (some ⟨l.b, l.p + q, none⟩) len sCap)).run P w = .ok ((C.drop (l.p + q)).take (len * ie.size)).toArray w := by
                          refine run_firstCells_some w ie.size len _ len sCap _ (by simp; omega) fun j v hj => ?_
                          rw [add_none, cell_of_list b1]
                          rw [List.getElem?_take] at hj
                          split at hj
                          · rwa [List.getElem?_drop] at hj
                          · cases hj
                        rw [hx1] at ho3
                        injection ho3 with e1 _
                        have := congrArg Array.toList e1
                        simpa using this.symm
                      have hlen1 : (old ++ new).length = len * ie.size + n * ie.size := by simp [holdl, hnl]
                      have hlst : ((C.take (l.p + (q + len * ie.size)) ++ ys ++ C.drop (l.p + (q + len * ie.size) + ys.length)).drop (l.p + q)).take (old ++ new).length = os ++ ys := by
                        rw [hlen1, hoc]
                        apply List.ext_getElem?
                        intro i
                        rw [List.getElem?_take, List.getElem?_drop, getElem?_splice C _ ys hin]
                        by_cases i1 : i < len * ie.size
                        · rw [if_pos (by omega), if_pos (by omega), List.getElem?_append_left (by simp; omega), List.getElem?_take, if_pos i1, List.getElem?_drop]
                        · rw [if_neg (show ¬ l.p + q + i < l.p + (q + len * ie.size) by omega), List.getElem?_append_right (by simp; omega)]
                          have hl1 : ((C.drop (l.p + q)).take (len * ie.size)).length = len * ie.size := by simp; omega
                          rw [hl1]
                          by_cases i2 : i < len * ie.size + n * ie.size
                          · rw [if_pos i2, if_pos (by omega)]; congr 1; omega
                          · rw [if_neg i2, List.getElem?_eq_none (by omega)]
                      rw [hlst]
                      exact ho1.append hys
                    obtain ⟨m1, m2⟩ := s.moved (B' := .cells (old ++ new) ie.size (cl.re e)) (l' := l') (w' := w.setRow l.b (C.take (l.p + (q + len * ie.size)) ++ ys ++ C.drop (l.p + (q + len * ie.size) + ys.length)).toArray) hl hg rfl rfl (by simp [World.setRow]) (fun b hb => setRow_other w l.b b _ hb)
                      (fun σ hσ => .cells _ ie.size (cl.re e) l' _ e' fz (setRow_heap w l.b _ _ e' fz b1) (hv.mono hσ) (by rw [hspl]; intro j a b; exact b3 j (by rw [Cl.re_fzn] at a; simp only [l'] at a; omega) b) (b4.re hsz (fun t k hc => by simp only [l', (hgr.1 t k hc).2, Nat.add_zero])) (fun _ => ⟨rfl, by rw [hspl]; simp only [l']; omega, by simp only [l', List.length_append, holdl, hnl]; omega, fun j v hj1 hj2 hv' => by
                        simp only [l', List.length_append, holdl, hnl] at hj1 hj2
                        have hyl' := hys.1
                        rw [getElem?_splice C _ ys hin, if_neg (by omega), if_neg (by omega)] at hv'
                        exact (b5 hsz).2.2.2 j v (by omega) (by omega) hv'⟩)) rfl rfl rfl rfl
                    refine .inl ⟨hroom, ys, hyr, _, ?_, _, ?_, m1, m2⟩
                    · simp only [add_place]; exact hrun
                    · have := VR.sl (ρ := ρ.upd M.next l') M.next 0 (len + n) none l' sCap (Loc.upd_same ρ _ l') hroom (.inr ⟨rfl, .inr (by simp only [l']; omega)⟩)
                      simpa [l'] using this
                · -- a new row
                  obtain ⟨os, ho1, ho2, ho3⟩ := hold' w.drew hdrew
                  obtain ⟨ys', hy1, hy2, hy3⟩ := happ w.drew hdrew
                  refine .inr ⟨by omega, os, ys', ho3, hy3, fun nc hnc => ?_⟩
                  obtain ⟨ρ', a1, a2, a3⟩ := grown_row s (s.kill α) (Ext.kill α) rfl ho1 hy1 ho2 hy2 hnc (cl.re e) e (fun t ht => (Cl.re_of ht).2) (fun t k ht => (hgr.1 t k (Cl.re_fz ht)).1.symm) (Builtin.zeroCells z'.cells (nc - (len + n))).toList (by simp [size_zeroCells, hzl]) (hrig _) hsz (w.drawn + 1)
                  have earr : (os ++ ys' ++ (Builtin.zeroCells z'.cells (nc - (len + n))).toList).toArray = os.toArray ++ ys'.toArray ++ Builtin.zeroCells z'.cells (nc - (len + n)) := by apply Array.ext'; simp
                  rw [earr] at a2 a3
                  exact ⟨ρ', a1, a2, a3⟩
              · exfalso
                rcases h3' with ⟨_, h3, _⟩ | ⟨h3, _⟩
                · rcases hlen with h | h
                  · omega
                  · exact h h3
                · cases h3
            · cases h
          · cases h
        · cases h

theorem nextcap_ok {len n cap bytes : Nat} (h : cap < len + n) (hb : (len + n) * bytes ≤ roomA) : ¬ (Builtin.nextslicecap (len + n) cap * bytes > 2 ^ 48) := by
  have := growslice_fits h hb
  omega

theorem byteCl_of {e t : TypeId} (h : byteCl P e = .of t) : e = t := by
  unfold byteCl at h
  split at h
  · cases h; rfl
  · cases h

theorem byteCl_fz {e t : TypeId} {n : Nat} (h : byteCl P e = .fz t n) : False := by
  unfold byteCl at h
  split at h <;> cases h

theorem appendA_sound (s : Sim ρ M w) {st xt ty : TypeId} {base : Option (Nat × Nat)} {len : Nat} {cap : Option Nat} {x : AV} {res : SlT} {M' : AMem} {s' x' : Value} (ts : Array TypeId) (ht0 : ts[0]? = some st) (ht1 : ts[1]? = some xt)
    (hs : VR ρ (.slice base len cap) s') (hx : VR ρ x x') (h : appendA P M st xt base len cap x = some (res, M')) :
    ∃ ρ' w' u, (Builtin.append_ ts ty #[s', x']).run P w = .ok u w' ∧ VR ρ' (.slice res.1 res.2.1 res.2.2) u ∧ Sim ρ' M' w' ∧ Ext ρ M w ρ' M' w' := by
  have a0 : (#[s', x'] : Array Value)[0]? = some s' := rfl
  have a1 : (#[s', x'] : Array Value)[1]? = some x' := rfl
  unfold appendA at h
  split at h
  · rename_i e xu hst hxt
    split at h
    · rename_i ie z hie hz
      obtain ⟨i, z', hi, hz', hzr, hzv⟩ := zeroA_sound hz
      rw [hie] at hi; cases hi
      split at h
      · cases h
      · rename_i hc
        have hzl0 : z.cells.length = ie.size := by
          rcases Nat.decEq z.cells.length ie.size with h1 | h1
          · exact absurd (.inl h1) hc
          · exact h1
        have hsz : ie.size ≠ 0 := fun h1 => hc (.inr h1)
        have hzl : z'.cells.size = ie.size := by have := (hzv ρ).cells.1; simpa [hzl0] using this.symm
        split at h
        · rename_i n new hsrc
          split at h
          · rename_i hroom
            -- what is left to show, once the source is known
            have fin : ∀ (app : Sem (Array Value)), new.length = n * ie.size → (∀ w, Sim ρ M w → ∃ ys : List Value, VL ρ new ys ∧ ys.length = n * ie.size ∧ app.run P w = .ok ys.toArray w) →
                (∀ ad sCap w' ys, s' = .slice ad len sCap → len + n ≤ sCap → app.run P w = .ok (List.toArray ys) w → ((match ad with | some a => storeCells (a.add (len * ie.size)) ys | none => pure ()) : Sem Unit).run P w = .ok () w' →
                  (Builtin.append_ ts ty #[s', x']).run P w = .ok (.slice ad (len + n) sCap) w') →
                (∀ ad sCap os ys, s' = .slice ad len sCap → sCap < len + n → (Builtin.firstCells ie.size len s').run P w.drew = .ok (List.toArray os) w.drew → app.run P w.drew = .ok (List.toArray ys) w.drew →
                  ∃ nc, len + n ≤ nc ∧ (Builtin.append_ ts ty #[s', x']).run P w = .ok (.slice (some ⟨w.heap.size, 0, none⟩) (len + n) nc) (w.drew.alloc (.cells (os.toArray ++ ys.toArray ++ Builtin.zeroCells z'.cells (nc - (len + n))) e))) →
                ∃ ρ' w' u, (Builtin.append_ ts ty #[s', x']).run P w = .ok u w' ∧ VR ρ' (.slice res.1 res.2.1 res.2.2) u ∧ Sim ρ' M' w' ∧ Ext ρ M w ρ' M' w' := by
              intro app hnl happ hfit hgrow
              obtain ⟨ad, sCap, rfl, hcase⟩ := growA_sound (P := P) s (fun t ht => byteCl_of (P := P) ht) (fun t n ht => (byteCl_fz (P := P) ht).elim) hie hsz hs hnl hroom.1 app happ hzr hzl (rigid_zeros hzv) h
              rcases hcase with ⟨h1, ys, h2, w', h3, ρ', h4, h5, h6⟩ | ⟨h1, os, ys, h2, h3, h4⟩
              · exact ⟨ρ', w', _, hfit ad sCap w' ys rfl h1 h2 h3, h4, h5, h6⟩
              · obtain ⟨nc, hnc, hr⟩ := hgrow ad sCap os ys rfl h1 h2 h3
                obtain ⟨ρ', h5, h6, h7⟩ := h4 nc hnc
                exact ⟨ρ', _, _, hr, h5, h6, h7⟩
            have hforced : ∀ a b c, (Question.appendCap a b c).forced = false := fun _ _ _ => rfl
            have hgrowCap : ∀ need old, need ≤ (Question.appendCap need old e).cut (w.tape w.drawn (.appendCap need old e)) := fun need old => by simp [Question.cut]
            split at hsrc
            · -- append(x, make(..)...): noughts
              rename_i k kd nn
              split at hsrc
              · rename_i hnn
                simp only [Option.some.injEq, Prod.mk.injEq] at hsrc
                obtain ⟨rfl, rfl⟩ := hsrc
                obtain rfl := hx.int_inv
                have hwrap : IntKind.i64.wrap nn = nn := by simp [IntKind.wrap, IntKind.bits, IntKind.signed]; omega
                have hnn' : ((nn.toNat : Nat) : Int) = nn := Int.toNat_of_nonneg hnn.1
                have hno1 : ¬ nn < 0 := by omega
                have hno2 : ¬ (nn * (ie.bytes : Int) > 2 ^ 48) := by
                  have h2 : (nn.toNat * ie.bytes : Nat) ≤ (len + nn.toNat) * ie.bytes := Nat.mul_le_mul_right _ (Nat.le_add_left _ _)
                  have h3 : (((nn.toNat * ie.bytes : Nat)) : Int) ≤ (roomA : Int) := Int.ofNat_le.2 (Nat.le_trans h2 hroom.1)
                  rw [Int.natCast_mul, hnn'] at h3
                  have h4 : (roomA : Int) = 140737488355328 := rfl
                  omega
                have hrep := rep_sound (ρ := ρ) (hzv ρ).cells nn.toNat
                refine fin (if nn.toNat * ie.size = 0 then pure #[] else do pure (Builtin.zeroCells (← zeroValue e).cells nn.toNat)) (by rw [repA_length, hzl0]) (fun w _ => ?_) ?_ ?_
                · refine ⟨_, hrep, by simp [hzl], ?_⟩
                  by_cases h0 : nn.toNat * ie.size = 0
                  · rw [if_pos h0]
                    have : nn.toNat * z'.cells.size = 0 := by rw [hzl]; exact h0
                    simp [this]
                  · rw [if_neg h0]
                    simp only [Sem.run_bind, hzr, Result.andThen_ok, Sem.run_pure]
                    rfl
                · intro ad sCap w' ys hsl hle happ hst'
                  subst hsl
                  simp only [Builtin.append_, a0, a1, ht0, ht1, Sem.run_bind, run_underlying hst, run_underlying hxt, Result.andThen_ok, run_size hie, Sem.run_pure, if_true, _root_.Go.asInt, asIntOf, hwrap, if_neg hno1, run_typeInfo _ hie, if_neg hno2, Bool.not_true, Bool.false_eq_true, if_false]
                  rw [if_pos hle]
                  simp only [Sem.run_bind, happ, Result.andThen_ok]
                  cases ad with
                  | none =>
                    have : w' = w := by simpa [Sem.run] using hst'.symm
                    subst this
                    rfl
                  | some a =>
                    simp only at hst'
                    simp only [Sem.run_bind, hst', Result.andThen_ok, Sem.run_pure]
                · intro ad sCap os ys hsl hlt hold happ
                  subst hsl
                  refine ⟨_, hgrowCap (len + nn.toNat) sCap, ?_⟩
                  have hle : ¬ (len + nn.toNat ≤ sCap) := by omega
                  have h63 : ¬ (((len + nn.toNat : Nat) : Int) > IntKind.i64.max ∧ (True ∨ ie.bytes = 0)) := fun hh => by
                    have h1 := hh.1
                    have : IntKind.i64.max = 9223372036854775807 := rfl
                    rw [this] at h1
                    have h4 : len + nn.toNat ≤ 140737488355328 := hroom.2
                    omega
                  simp only [Builtin.append_, a0, a1, ht0, ht1, Sem.run_bind, run_underlying hst, run_underlying hxt, Result.andThen_ok, run_size hie, Sem.run_pure, if_true, _root_.Go.asInt, asIntOf, hwrap, if_neg hno1, run_typeInfo _ hie, if_neg hno2, Bool.not_true, Bool.false_eq_true, if_false]
                  rw [if_neg hle]
                  simp only [Sem.run_bind, run_typeInfo _ hie, Result.andThen_ok]
                  rw [if_neg h63]
                  simp only [Sem.run_bind, run_typeInfo _ hie, Result.andThen_ok]
                  rw [if_neg (nextcap_ok hlt hroom.1)]
                  simp only [Sem.run_bind, run_choose, hforced, Bool.false_eq_true, if_false, Result.andThen_ok, run_typeInfo _ hie, run_askRoom]
                  rw [show ({ w with drawn := w.drawn + 1 } : World) = w.drew from rfl, hold]
                  simp only [Result.andThen_ok, happ, hzr, newRow, Sem.run_bind, run_newObj, Sem.run_pure]
                  rfl
              · cases hsrc
            · cases hsrc
            · rename_i hni hni2
              simp only [Option.map_eq_some_iff, Prod.mk.injEq] at hsrc
              obtain ⟨n', hn', rfl, hsrc⟩ := hsrc
              obtain ⟨hnl, happ0⟩ := srcCells_sound (P := P) hx hsrc
              have hlenr : ∀ w, (Builtin.lenOf x').run P w = .ok n' w := fun w => srcLen_sound hx hn'
              have hmatch : (match xu with | .int _ => true | _ => false) = false := by
                cases xu with
                | int k => first | exact (hni _ rfl).elim | exact (hni2 _ rfl).elim
                | _ => rfl
              refine fin (Builtin.firstCells ie.size n' x') hnl happ0 ?_ ?_
              · intro ad sCap w' ys hsl hle happ hst'
                subst hsl
                simp only [Builtin.append_, a0, a1, ht0, ht1, Sem.run_bind, run_underlying hst, run_underlying hxt, Result.andThen_ok, run_size hie, Sem.run_pure, hmatch, Bool.false_eq_true, if_false, hlenr, Bool.not_false, if_true]
                rw [if_pos hle]
                simp only [Sem.run_bind, happ, Result.andThen_ok]
                cases ad with
                | none =>
                  have : w' = w := by simpa [Sem.run] using hst'.symm
                  subst this
                  rfl
                | some a =>
                  simp only at hst'
                  simp only [Sem.run_bind, hst', Result.andThen_ok, Sem.run_pure]
              · intro ad sCap os ys hsl hlt hold happ
                subst hsl
                refine ⟨_, hgrowCap (len + n') sCap, ?_⟩
                have hle : ¬ (len + n' ≤ sCap) := by omega
                have h63 : ¬ (((len + n' : Nat) : Int) > IntKind.i64.max ∧ (false = true ∨ ie.bytes = 0)) := fun hh => by
                  have h1 := hh.1
                  have : IntKind.i64.max = 9223372036854775807 := rfl
                  rw [this] at h1
                  have h4 : len + n' ≤ 140737488355328 := hroom.2
                  omega
                simp only [Builtin.append_, a0, a1, ht0, ht1, Sem.run_bind, run_underlying hst, run_underlying hxt, Result.andThen_ok, run_size hie, Sem.run_pure, hmatch, Bool.false_eq_true, if_false, hlenr, Bool.not_false, if_true]
                rw [if_neg hle]
                simp only [Sem.run_bind, run_typeInfo _ hie, Result.andThen_ok]
                simp only [Bool.false_eq_true] at h63
                rw [if_neg h63]
                simp only [Sem.run_bind, run_typeInfo _ hie, Result.andThen_ok]
                rw [if_neg (nextcap_ok hlt hroom.1)]
                simp only [Sem.run_bind, run_choose, hforced, Bool.false_eq_true, if_false, Result.andThen_ok, run_typeInfo _ hie, run_askRoom]
                rw [show ({ w with drawn := w.drawn + 1 } : World) = w.drew from rfl, hold]
                simp only [Result.andThen_ok, happ, hzr, newRow, Sem.run_bind, run_newObj, Sem.run_pure]
                rfl
          · cases h
        · cases h
    · cases h
  · cases h

theorem copyA_sound (s : Sim ρ M w) {st ty : TypeId} {base : Option (Nat × Nat)} {dl : Nat} {cap : Option Nat} {x : AV} {m : Nat} {M' : AMem} {d' x' : Value} (ts : Array TypeId) (ht0 : ts[0]? = some st)
    (hd : VR ρ (.slice base dl cap) d') (hx : VR ρ x x') (h : copyA P M st base dl x = some (m, M')) :
    ∃ w', (Builtin.copy_ ts ty #[d', x']).run P w = .ok (.int .i64 m) w' ∧ Sim ρ M' w' ∧ Ext ρ M w ρ M' w' := by
  have a0 : (#[d', x'] : Array Value)[0]? = some d' := rfl
  have a1 : (#[d', x'] : Array Value)[1]? = some x' := rfl
  obtain ⟨ad, cap', rfl, hn, h1, h2⟩ := hd.slice_inv
  unfold copyA at h
  split at h
  · rename_i e n hst hlen
    split at h
    · cases h
    · rename_i ie hie
      split at h
      · cases h
      · rename_i new hsrc
        have hlenr : (Builtin.lenOf x').run P w = .ok n w := srcLen_sound hx hlen
        obtain ⟨hnl, happ⟩ := srcCells_sound (P := P) hx hsrc
        obtain ⟨ys, hy1, hy2, hy3⟩ := happ w s
        have hrun : ∀ w', ((match ad with | some a => storeCells a ys | none => pure ()) : Sem Unit).run P w = .ok () w' →
            (Builtin.copy_ ts ty #[.slice ad dl cap', x']).run P w = .ok (.int .i64 (min n dl : Nat)) w' := fun w' hst' => by
          simp only [Builtin.copy_, ht0, a0, a1, Sem.run_bind, run_underlying hst, Result.andThen_ok, hlenr, run_size hie]
          rw [show Nat.min n dl = min n dl from rfl, hy3]
          simp only [Result.andThen_ok]
          cases ad with
          | none =>
            have : w' = w := by simpa [Sem.run] using hst'.symm
            subst this
            rfl
          | some a =>
            simp only at hst'
            simp only [Sem.run_bind, hst', Result.andThen_ok, Sem.run_pure]
            rfl
        split at h
        · split at h
          · rename_i e0
            cases h
            obtain ⟨rfl, rfl, _⟩ := h1 rfl
            refine ⟨w, ?_, s, Ext.refl ρ M w⟩
            have := hrun w rfl
            simpa using this
          · cases h
        · rename_i p
          obtain ⟨α, q⟩ := p
          obtain ⟨y, rfl, hq⟩ := h2 α q rfl
          split at h
          · rename_i e0
            cases h
            have hyn : ys = [] := List.eq_nil_of_length_eq_zero (by rw [hy2, e0]; simp)
            subst hyn
            refine ⟨w, ?_, s, Ext.refl ρ M w⟩
            have := hrun w rfl
            rw [e0] at this
            simpa using this
          · rename_i e0
            split at h
            · rename_i cs sz cl hg
              split at h
              · rename_i hfl
                split at h
                · rename_i cs' hput
                  obtain ⟨hz, h⟩ := needB_two h
                  cases h
                  rcases hq with ⟨l, hl, rfl, _⟩ | ⟨e1, _⟩
                  · obtain ⟨w', hr, hs', he'⟩ := run_putAt (P := P) s hl hg hput (Nat.le_of_ble_eq_true hz) hy1 hfl
                    exact ⟨w', hrun w' hr, hs', he'⟩
                  · omega
                · cases h
              · cases h
            · cases h
  · cases h

theorem clearA_sound (s : Sim ρ M w) {t ty : TypeId} {x : AV} {x' : Value} {M' : AMem} (ts : Array TypeId) (ht : ts[0]? = some t) (hx : VR ρ x x') (h : clearA P M t x = some M') :
    ∃ w', (Builtin.clear_ ts ty #[x']).run P w = .ok (.tuple #[]) w' ∧ Sim ρ M' w' ∧ Ext ρ M w ρ M' w' := by
  have a0 : (#[x'] : Array Value)[0]? = some x' := rfl
  unfold clearA at h
  split at h
  · rename_i kt et hu
    cases h
    obtain rfl := hx.map_none_inv
    refine ⟨w, ?_, s, Ext.refl ρ M w⟩
    simp only [Builtin.clear_, ht, a0, Sem.run_bind, run_underlying hu, Result.andThen_ok, Sem.run_pure]
  · rename_i kt et r hu
    split at h
    · rename_i es clock hg
      cases h
      obtain ⟨l, hl, rfl⟩ := hx.map_inv
      obtain ⟨ES, hE1, hE⟩ := s.map_of hl hg
      obtain ⟨h1, h2⟩ := s.setMap (es' := []) (ES' := []) (clock' := clock) hl hg ⟨rfl, fun i e E h => by simp at h⟩
      refine ⟨_, ?_, h1, h2⟩
      simp only [Builtin.clear_, ht, a0, Sem.run_bind, run_underlying hu, Result.andThen_ok, run_getMap hE1, run_setMap hE1, Sem.run_pure]
    · cases h
  · rename_i e b n c hu
    obtain ⟨ad, cap', rfl, hn, h1, h2⟩ := hx.slice_inv
    split at h
    · rename_i e0
      cases h
      subst e0
      refine ⟨w, ?_, s, Ext.refl ρ M w⟩
      cases ad <;> simp only [Builtin.clear_, ht, a0, Sem.run_bind, run_underlying hu, Result.andThen_ok, Sem.run_pure]
    · rename_i n0
      split at h
      · rename_i a ie z hie hz
        obtain ⟨α, q⟩ := a
        obtain ⟨i, z', hi, hz', hzr, hzv⟩ := zeroA_sound hz
        rw [hie] at hi; cases hi
        split at h
        · rename_i hsz
          split at h
          · rename_i cs sz cl hg
            split at h
            · rename_i hfl
              split at h
              · rename_i cs' hput
                obtain ⟨hz, h⟩ := needB_two h
                cases h
                obtain ⟨y, rfl, hq⟩ := h2 α q rfl
                rcases hq with ⟨l, hl, rfl, _⟩ | ⟨e1, _⟩
                · have hys := rep_sound (hzv ρ).cells n
                  obtain ⟨w', hr, hs', he'⟩ := run_putAt (P := P) s hl hg hput (Nat.le_of_ble_eq_true hz) hys hfl
                  refine ⟨w', ?_, hs', he'⟩
                  have hr' : (storeCells ⟨l.b, l.p + q, none⟩ (Builtin.zeroCells z'.cells n).toList).run P w = .ok () w' := hr
                  have hn' : n ≠ 0 := n0
                  simp only [Builtin.clear_, ht, a0, Sem.run_bind, run_underlying hu, Result.andThen_ok]
                  simp only [hzr, Result.andThen_ok, hr', Sem.run_pure]
                · exact absurd e1 n0
              · cases h
            · cases h
          · cases h
        · cases h
      · cases h
  · cases h
end
end Go.Ab
