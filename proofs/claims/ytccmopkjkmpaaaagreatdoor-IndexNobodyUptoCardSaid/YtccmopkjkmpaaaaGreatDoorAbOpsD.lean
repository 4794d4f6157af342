/-
  What single operations come to, under the simulation: signs, conversions, slices, lengths, assertions, maps.
-/
import Derived.Test.YtccmopkjkmpaaaaGreatDoorAbOpsC
import Derived.Maps.Own
import Derived.Laws.BytesString
import Derived.Lib.Builder
namespace Go.Ab
set_option linter.unusedSimpArgs false
set_option linter.unusedVariables false

section
variable {P : Program} {o : Oper} {a : Act} {ρ : Loc} {M : AMem} {w : World} {β : Type} {r : β}

/-- a string's bytes as cells -/
def strOfBytesV (s : List UInt8) : List Value := s.map fun b => .int .u8 b.toNat

theorem unK_sound {op : UnOp} {x : AV} {x' : Value} {kv : AV → Option β} (hx : VR ρ x x') (h : unK op x kv = some r) :
    ∃ v u, kv v = some r ∧ (Op.unary op x').run P w = .ok u w ∧ VR ρ v u := by
  unfold unK at h
  split at h
  · rw [hx.int_inv]; exact ⟨_, _, h, by simp [Op.unary, Op.intArith], .int _ _⟩
  · rw [hx.int_inv]; exact ⟨_, _, h, by simp [Op.unary, Op.intBits], .int _ _⟩
  · rw [hx.bool_inv]; exact ⟨_, _, h, by simp [Op.unary], .bool _⟩
  · cases h

/-! ### bytes and strings -/
theorem bytesOf_sound : ∀ {vs : List AV} {s : List UInt8} {ys : List Value}, bytesOf vs = some s → VL ρ vs ys → ∃ ns : List Int, ys = ns.map (Value.int .u8) ∧ s = ns.map fun n => UInt8.ofNat n.toNat := by
  intro vs
  induction vs with
  | nil => intro s ys h hv; simp only [bytesOf, Option.some.injEq] at h; subst h; rw [hv.list_nil]; exact ⟨[], rfl, rfl⟩
  | cons v vs ih =>
    intro s ys h hv
    obtain ⟨y, yt, rfl, hy, hyt⟩ := hv.list_cons
    unfold bytesOf at h
    split at h
    · rename_i e; cases e
    · rename_i n r e
      cases e
      simp only [Option.map_eq_some_iff] at h
      obtain ⟨s', hs', rfl⟩ := h
      obtain ⟨ns, e1, e2⟩ := ih hs' hyt
      rw [hy.int_inv]
      exact ⟨n :: ns, by simp [e1], by simp [e2]⟩
    · cases h

theorem foldl_push (ns : List Int) : ∀ acc : ByteArray, ns.foldl (fun r n => r.push (UInt8.ofNat n.toNat)) acc = ⟨(acc.data.toList ++ ns.map fun n => UInt8.ofNat n.toNat).toArray⟩ := by
  induction ns with
  | nil => intro acc; simp
  | cons n ns ih =>
    intro acc
    rw [List.foldl_cons, ih]
    simp [ByteArray.push]

theorem run_bytesStr (s : Sim ρ M w) {b : Option (Nat × Nat)} {n : Nat} {c : Option Nat} {x' : Value} {t : List UInt8} (h : bytesStr M b n = some t) (hx : VR ρ (.slice b n c) x') :
    (Conv.bytesToString x').run P w = .ok (.string ⟨t.toArray⟩) w := by
  obtain ⟨ad, cap, rfl, hn, h1, h2⟩ := hx.slice_inv
  unfold bytesStr at h
  split at h
  · obtain ⟨rfl, rfl, rfl, _⟩ := h1 rfl
    rw [if_pos rfl] at h
    cases h
    simp [Conv.bytesToString]; rfl
  · rename_i p
    obtain ⟨α, o⟩ := p
    obtain ⟨q, rfl, hq⟩ := h2 α o rfl
    split at h
    · rename_i e
      subst e
      cases h
      simp [Conv.bytesToString, loadCells, loadCellsFrom]; rfl
    · rename_i e
      rcases hq with ⟨l, hl, rfl, _⟩ | ⟨e', _⟩
      · simp only [Option.bind_eq_some_iff] at h
        obtain ⟨cs, hcs, hb⟩ := h
        obtain ⟨_, ys, hys, hlen, hrun⟩ := run_cellsFrom (P := P) s hl hcs
        obtain ⟨ns, rfl, rfl⟩ := bytesOf_sound hb hys
        rw [run_bytesToString w _ n cap ns hrun, foldl_push]
        simp
      · exact absurd e' e

/-- the row of bytes that []byte(s) makes -/
theorem stringToBytes_sound (s : Sim ρ M w) (e : TypeId) (t : List UInt8) :
    ∃ ρ' w' u, (Conv.stringToBytes e ⟨t.toArray⟩).run P w = .ok u w' ∧ VR ρ' (.slice (some (M.next, 0)) t.length none) u ∧ Sim ρ' (M.new (.cells (strOfBytes t) 1 .no)) w' ∧ Ext ρ M w ρ' (M.new (.cells (strOfBytes t) 1 .no)) w' := by
  generalize hq : (Question.appendCap t.length 0 e).cut (w.tape w.drawn (.appendCap t.length 0 e)) = cap
  have hcap : t.length ≤ cap := by rw [← hq]; simp [Question.cut]
  have hs : (⟨t.toArray⟩ : ByteArray).size = t.length := by simp [ByteArray.size]
  let C : List Value := strOfBytesV t ++ List.replicate (cap - t.length) (.int .u8 0)
  let w1 : World := { w with drawn := w.drawn + 1 }
  let w2 : World := (w1.alloc (.cells C.toArray e)).freeze ⟨w.heap.size, cap, none⟩ 1
  let l : Pl := ⟨w.heap.size, 0, 1, cap⟩
  have hC : C.length = cap := by simp [C, strOfBytesV]; omega
  have hheap : w2.heap[w.heap.size]? = some (.cells C.toArray e (cap, cap + 1)) := by
    simp only [w2, World.freeze]
    rw [if_neg (by decide)]
    simp only [Array.getElem?_modify, if_true]
    have := heap_alloc_new w1 (.cells C.toArray e)
    rw [show w1.heap.size = w.heap.size from rfl] at this
    rw [this]; simp
  have hoth : ∀ b, b ≠ w.heap.size → w2.heap[b]? = (w1.alloc (.cells C.toArray e)).heap[b]? := fun b hb => by
    simp only [w2, World.freeze]
    rw [if_neg (by decide)]
    simp only [Array.getElem?_modify]
    rw [if_neg (Ne.symm hb)]
  have hsz2 : w2.heap.size = w.heap.size + 1 := by
    simp only [w2, World.freeze]
    rw [if_neg (by decide)]
    simp [w1]
  have hv : VL (ρ.upd M.next l) (strOfBytes t) ((C.drop 0).take (strOfBytes t).length) := by
    refine ⟨by simp [strOfBytes, hC]; omega, fun i x y hx hy => ?_⟩
    have hi : i < t.length := by
      rcases Nat.lt_or_ge i t.length with h | h
      · exact h
      · rw [List.getElem?_eq_none (by simpa [strOfBytes] using h)] at hx; cases hx
    simp [strOfBytes, List.getElem?_eq_getElem hi] at hx
    simp [C, strOfBytesV, strOfBytes, List.getElem?_take, hi, List.getElem?_append_left, List.getElem?_eq_getElem hi] at hy
    subst hx; subst hy; exact .int _ _
  refine ⟨ρ.upd M.next l, w2, .slice (some ⟨w.heap.size, 0, none⟩) t.length cap, ?_, ?_, ?_, ?_⟩
  · have hsh : (w1.alloc (.cells C.toArray e)).shape? w.heap.size = some (e, C.length) := by
      have := heap_alloc_new w1 (.cells C.toArray e)
      rw [show w1.heap.size = w.heap.size from rfl] at this
      simp [World.shape?, this]
    have hforced : (Question.appendCap t.length 0 e).forced = false := rfl
    have hcells : ((⟨t.toArray⟩ : ByteArray).data.map fun b => Value.int .u8 b.toNat) ++ Array.replicate (cap - t.length) (.int .u8 0) = C.toArray := by
      apply Array.ext'
      simp [C, strOfBytesV]
    simp only [Conv.stringToBytes, hs, Sem.run_bind, run_choose, hforced, Bool.false_eq_true, if_false, Result.andThen_ok, hq, newRow, run_newObj, hcells, Sem.run_pure]
    show ((markStringish ⟨w.heap.size, 0, none⟩).run P (w1.alloc (.cells C.toArray e))).andThen _ = _
    simp only [markStringish, Sem.run_bind, run_shape, hsh, Result.andThen_ok, run_freeze, hC]
    rfl
  · exact .sl M.next 0 t.length none l cap (Loc.upd_same ρ _ l) hcap (.inr ⟨rfl, .inr (by simp [l])⟩)
  · have hb : BlkR (ρ.upd M.next l) w2 (.cells (strOfBytes t) 1 .no) l := by
      refine .cells _ 1 .no l C e (cap, cap + 1) hheap hv ?_ (ClR.no _ _ _ _) (fun _ => ⟨rfl, by simp [l, hC], by simp [strOfBytes, l]; omega, fun j v hj1 hj2 hv' => ⟨.int .u8 0, fun σ => by
        have e1 : (strOfBytes t).length = t.length := by simp [strOfBytes]
        have e2 : (strOfBytesV t).length = t.length := by simp [strOfBytesV]
        simp only [C] at hv'
        rw [List.getElem?_append_right (by rw [e2]; simp only [l] at hj1; omega), List.getElem?_replicate] at hv'
        split at hv'
        · cases hv'; exact .int _ _
        · cases hv'⟩⟩)
      intro j _ hj; simp; omega
    have h0 : Sim ρ M w1 := s.drew _
    have h1 := h0.alloc (B := .cells (strOfBytes t) 0 .no) (o := .cells C.toArray e) (l := l) rfl (BlkR.newCells 0 .no e l (fun t h => by cases h) (fun t n h => by cases h) rfl rfl (by simpa using hv) (by simp))
    have h2 := h1.1.set (α := M.next) (B := .cells (strOfBytes t) 0 .no) (B' := .cells (strOfBytes t) 1 .no) (w' := w2) (Loc.upd_same ρ _ l) (by rw [AMem.get_new, if_pos rfl]) rfl (by rw [hsz2]; simp [w1]) hoth hb
    refine ⟨h2.dom, h2.inb, fun α k B hk hB => ?_, fun α β k m a1 a2 a3 a4 a5 => ?_, fun β hb' => ?_⟩
    · rw [AMem.get_new] at hB
      by_cases e : α = M.next
      · rw [if_pos e] at hB
        exact h2.blk α k B hk (by rw [AMem.get_set, if_pos e]; exact hB)
      · rw [if_neg e] at hB
        exact h2.blk α k B hk (by rw [AMem.get_set, if_neg e, AMem.get_new, if_neg e]; exact hB)
    · have := h2.sep α β k m a1 a2 a3 a4
      simp only [AMem.own, AMem.get_set, AMem.get_new] at this a5 ⊢
      by_cases e : α = M.next
      · have e' : β ≠ M.next := fun h => a1 (e.trans h.symm)
        simp only [e, e', if_true, if_false] at this a5 ⊢
        exact this rfl
      · by_cases e' : β = M.next
        · simp only [e, e', if_true, if_false] at this a5 ⊢
          have := this a5
          simp at this
        · simp only [e, e', if_false] at this a5 ⊢
          exact this a5
    · have hb'' : M.next + 1 ≤ β := hb'
      rw [AMem.get_new, if_neg (by omega)]
      exact s.wf β (by omega)
  · refine ⟨Loc.le_upd ρ _ l s.none_next, Nat.le_succ _, by omega, ?_, ?_, ?_, (Ext.more s _).muts, fun β k e1 e2 => ?_, fun b hb _ => ?_⟩
    · simp only [w2, World.freeze]; rw [if_neg (by decide)]; rfl
    · simp only [w2, World.freeze]; rw [if_neg (by decide)]; rfl
    · simp only [w2, World.freeze]; rw [if_neg (by decide)]; rfl
    · by_cases e : β = M.next
      · subst e; rw [Loc.upd_same] at e2; cases e2; exact ⟨Nat.le_refl _, .inl (Nat.le_refl _)⟩
      · rw [Loc.upd_ne ρ l e, e1] at e2; cases e2
    · rw [hoth b (by omega)]
      exact heap_alloc_lt w1 _ b hb

theorem stringishA_sound (s : Sim ρ M w) {α o : Nat} {l : Pl} {M' : AMem} (hρ : ρ α = some l) (h : stringishA M α = some M') :
    ∃ w', (markStringish ⟨l.b, l.p + o, none⟩).run P w = .ok () w' ∧ Sim ρ M' w' ∧ Ext ρ M w ρ M' w' := by
  unfold stringishA at h
  split at h
  · rename_i c sz k hg
    split at h
    case h_2 => cases h
    rename_i hkb
    cases h
    have hb := s.blk α l _ hρ hg
    cases hb with
    | cells _ _ _ _ C e fz hC hv huf hcl hsz =>
      have hfz : fz.1 = fz.2 := hcl.1 hkb
      let w' := w.freeze ⟨l.b, C.length, none⟩ 1
      have hsh : w.shape? l.b = some (e, C.length) := by simp [World.shape?, hC]
      have hheap : w'.heap[l.b]? = some (.cells C.toArray e (C.length, C.length + 1)) := by
        simp only [w', World.freeze]
        rw [if_neg (by decide)]
        simp only [Array.getElem?_modify, if_true, hC, Option.map_some]
        obtain ⟨f1, f2⟩ := fz
        simp only at hfz
        subst hfz
        simp
      have hoth : ∀ b, b ≠ l.b → w'.heap[b]? = w.heap[b]? := fun b hb => by
        simp only [w', World.freeze]
        rw [if_neg (by decide)]
        simp only [Array.getElem?_modify]
        rw [if_neg (Ne.symm hb)]
      have hsize : w'.heap.size = w.heap.size := by
        simp only [w', World.freeze]
        rw [if_neg (by decide)]
        simp
      have hn : ∀ x : World, x = w' → x.os = w.os ∧ x.tape = w.tape ∧ x.output = w.output := fun x hx => by
        subst hx
        simp only [w', World.freeze]
        rw [if_neg (by decide)]
        exact ⟨rfl, rfl, rfl⟩
      refine ⟨w', ?_, s.set hρ hg rfl hsize hoth (.cells c sz .no l C e (C.length, C.length + 1) hheap hv (fun j _ hj => by simp; omega) (ClR.no _ _ _ _) hsz), Ext.set hρ hg rfl hsize (hn _ rfl).1 (hn _ rfl).2.1 (hn _ rfl).2.2 hoth⟩
      simp only [markStringish, Sem.run_bind, run_shape, hsh, Result.andThen_ok, run_freeze]
      rfl
  · cases h

/-- one variable of its own type lies at a row's begin -/
theorem liesAt_one {e : TypeId} (h0 : P.cellsOf e ≠ 0) {count : Nat} (h1 : 1 ≤ count) : liesAt P P.depth e count 0 e 1 = true := by
  have hd : P.depth = (2 * (P.types.size + Made.depth) + 1) + 1 := rfl
  rw [hd]
  simp only [liesAt, Bool.or_eq_true]
  left
  rw [hd]
  simp [rowAt, h0, h1, sameLayout]

theorem convK_sound (s : Sim ρ M w) {src dst : TypeId} {x : AV} {x' : Value} {kv : AV → AMem → Option β} (hx : VR ρ x x') (h : convK P M src dst x kv = some r) :
    ∃ v M' ρ' w' u, kv v M' = some r ∧ (convert src dst x').run P w = .ok u w' ∧ VR ρ' v u ∧ Sim ρ' M' w' ∧ Ext ρ M w ρ' M' w' ∧ ((P.underlying dst = some .string ∨ ∃ k, P.underlying dst = some (.int k)) → M' = M) := by
  unfold convK at h
  split at h
  · rename_i d k _ n h1 h2
    rw [hx.int_inv]
    exact ⟨_, M, ρ, w, _, h, by simp [convert, run_underlying h1, run_underlying h2, Conv.intToInt], .int _ _, s, Ext.refl ρ M w, fun _ => rfl⟩
  · rename_i d t h1 h2
    rw [hx.str_inv]
    refine ⟨_, M, ρ, w, .string ⟨t.toArray⟩, h, ?_, VR.str_mk _, s, Ext.refl ρ M w, fun _ => rfl⟩
    simp only [convert, Sem.run_bind, run_underlying h1, run_underlying h2, Result.andThen_ok]
    cases d <;> rfl
  · rename_i d e t h1 h2
    split at h
    · rename_i he
      rw [hx.str_inv]
      obtain ⟨ρ', w', u, h3, h4, h5, h6⟩ := stringToBytes_sound (P := P) s e t
      refine ⟨_, _, ρ', w', u, h, ?_, h4, h5, h6, fun hd => by rcases hd with hd | ⟨k, hd⟩ <;> (rw [h2] at hd; cases hd)⟩
      simp only [convert, Sem.run_bind, run_underlying h1, run_underlying h2, Result.andThen_ok]
      cases d <;> simp [run_underlying he, h3]
    · cases h
  · rename_i e a n c h1 h2
    split at h
    · rename_i he
      obtain ⟨t, ht, h⟩ := bindO_some h
      have hrun := run_bytesStr (P := P) s ht hx
      refine ⟨_, M, ρ, w, .string ⟨t.toArray⟩, h, ?_, VR.str_mk _, s, Ext.refl ρ M w, fun _ => rfl⟩
      obtain ⟨ad, cap, rfl, _⟩ := hx.slice_inv
      simp [convert, run_underlying h1, run_underlying h2, run_underlying he, hrun]
    · cases h
  · rename_i t h1 h2
    unfold toUnsK at h
    split at h
    · rw [hx.ptr_none_inv]
      exact ⟨_, M, ρ, w, _, h, by simp [convert, run_underlying h1, run_underlying h2, Conv.unsafePointer], .pnil, s, Ext.refl ρ M w, fun _ => rfl⟩
    case h_3 => cases h
    rename_i a
    obtain ⟨i, hi, h⟩ := bindO_some h
    obtain ⟨c, hc, h⟩ := bindO_some h
    obtain ⟨hq, hfin⟩ := sureB_some h
    simp only [Bool.and_eq_true, Bool.not_eq_true', Nat.blt_eq] at hq
    obtain ⟨α, q⟩ := a
    obtain ⟨l, hl, rfl⟩ := hx.ptr_inv
    obtain ⟨C, e, fz, hC, hv⟩ := s.row hl hc
    have hlen := hv.len
    have hi0 : i.size ≠ 0 := fun e' => by rw [e'] at hq; exact absurd hq.1 (by simp)
    refine ⟨_, M, ρ, w, _, hfin, Lib.run_to_unsafe (cells := C.length) w ⟨l.b, l.p + q, none⟩ h1 h2 hi hi0 (e := e) (by simp [World.shape?, hC]) ?_, hx, s, Ext.refl ρ M w, fun _ => rfl⟩
    show l.p + q < C.length
    have := hq.2
    simp only at this
    omega
  · rename_i u h1 h2
    unfold fromUnsK at h
    split at h
    · rw [hx.ptr_none_inv]
      exact ⟨_, M, ρ, w, _, h, by simp [convert, run_underlying h1, run_underlying h2, Conv.unsafePointer], .pnil, s, Ext.refl ρ M w, fun _ => rfl⟩
    case h_3 => cases h
    rename_i a
    split at h
    · rename_i c t hg
      obtain ⟨i, hi, h⟩ := bindO_some h
      obtain ⟨hq, hfin⟩ := sureB_some h
      simp only [Bool.and_eq_true, Bool.not_eq_true', Nat.ble_eq] at hq
      obtain ⟨q1, q2, q3, q4⟩ := hq
      obtain ⟨α, q⟩ := a
      obtain rfl := Nat.eq_of_beq_eq_true q1
      have q2 : q = 0 := Nat.eq_of_beq_eq_true q2
      subst q2
      have q3 : P.cellsOf t ≠ 0 := fun e' => by rw [e'] at q3; exact absurd q3 (by simp)
      obtain ⟨l, hl, rfl⟩ := hx.ptr_inv
      cases s.blk α l _ hl hg with
      | cells _ _ _ _ C e fz hC hv huf hcl hsz =>
        obtain ⟨he, hp⟩ := hcl.2.1 t rfl
        have hp := hp rfl
        subst he
        have hlen := hv.len
        rw [hp] at hlen
        refine ⟨_, M, ρ, w, _, hfin, Lib.run_from_unsafe (cells := C.length) w ⟨l.b, l.p + 0, none⟩ h1 h2 hi (e := e) (by simp [World.shape?, hC]) ?_, hx, s, Ext.refl ρ M w, fun _ => rfl⟩
        show liesAt P P.depth e (C.length / P.cellsOf e) (l.p + 0) e 1 = true
        rw [hp]
        exact liesAt_one q3 ((Nat.one_le_div_iff (Nat.pos_of_ne_zero q3)).2 (by omega))
    · cases h
  · rename_i d e a n c h1 h2
    split at h
    · rename_i he
      obtain ⟨hc, hq⟩ := sureB_some h
      simp only [Bool.and_eq_true, decide_eq_true_eq, Bool.not_eq_true'] at hc
      obtain ⟨hsd, hn⟩ := hc
      have hn' : n ≠ 0 := fun h => by rw [h] at hn; cases hn
      obtain ⟨M', hM, hfin⟩ := bindO_some hq
      clear h
      subst hsd
      have hx0 := hx
      cases hx with
      | sl α o _ _ l cap hl hle hcap =>
        obtain ⟨w', hrun, s', e'⟩ := stringishA_sound (P := P) (o := o) s hl hM
        refine ⟨_, M', ρ, w', _, hfin, ?_, hx0, s', e', fun hd => by rcases hd with hd | ⟨k, hd⟩ <;> (rw [h2] at hd; cases hd)⟩
        simp only [convert, Sem.run_bind, run_underlying h2, Result.andThen_ok, run_underlying he, beq_self_eq_true, hrun, Sem.run_pure]
      | sl0 => exact absurd rfl hn'
    · cases h
  · cases h
end
end Go.Ab
