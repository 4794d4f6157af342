/-
  Every operation, under the simulation.
-/
import Derived.Test.YtccmopkjkmpaaaaGreatDoorAbUns
import Derived.Lib.Bytealg
import Derived.Laws.Externs
import Derived.Lib.Overlaps
namespace Go.Ab
set_option linter.unusedSimpArgs false
set_option linter.unusedVariables false

section
variable {P : Program} {o : Oper} {a : Act} {ρ : Loc} {M : AMem} {w : World} {β : Type} {r : β} {nt : Nat} {fr : Fr}

theorem run_callFunc {f : FuncId} (h : entersA P f = true) (args : Array Value) : (callFunc f args).run P w = .ok (.enter f args) w := by
  unfold entersA at h
  split at h
  · rename_i fn hf
    simp only [Bool.and_eq_true, Bool.not_eq_true'] at h
    have hb : fn.body.isNone = false := by
      cases e : fn.body with
      | none => rw [e] at h; simp at h
      | some c => rfl
    simp only [callFunc, Sem.run_bind, run_program, Result.andThen_ok, hf, h.2, Bool.false_eq_true, if_false, hb, Sem.run_pure]
  · cases h

/-! ### functions without a body -/
theorem bget (l : List UInt8) (i : Nat) : (⟨l.toArray⟩ : ByteArray)[i]! = (l[i]?).getD default := by
  by_cases h : i < l.length
  · have hs : i < (⟨l.toArray⟩ : ByteArray).size := by simpa [ByteArray.size] using h
    rw [getElem!_pos (⟨l.toArray⟩ : ByteArray) i hs, List.getElem?_eq_getElem h]
    rfl
  · have hs : ¬ i < (⟨l.toArray⟩ : ByteArray).size := by simpa [ByteArray.size] using h
    rw [getElem!_neg (⟨l.toArray⟩ : ByteArray) i hs, List.getElem?_eq_none (by omega)]
    rfl

theorem bsize (l : List UInt8) : (⟨l.toArray⟩ : ByteArray).size = l.length := by simp [ByteArray.size]

/-- the comparison's first difference -/
theorem find_diff (a b : UInt8) (x y : List UInt8) (n : Nat) : ((List.range (n + 1)).find? fun i => (⟨(a :: x).toArray⟩ : ByteArray)[i]! != (⟨(b :: y).toArray⟩ : ByteArray)[i]!) = if (a != b) = true then some 0 else ((List.range n).find? fun i => (⟨x.toArray⟩ : ByteArray)[i]! != (⟨y.toArray⟩ : ByteArray)[i]!).map (· + 1) := by
  rw [List.range_succ_eq_map, List.find?_cons]
  have e0 : ((⟨(a :: x).toArray⟩ : ByteArray)[0]! != (⟨(b :: y).toArray⟩ : ByteArray)[0]!) = (a != b) := by rw [bget, bget]; rfl
  rw [e0]
  cases hab : a != b with
  | true => rfl
  | false =>
    rw [List.find?_map]
    have : ((fun i => (⟨(a :: x).toArray⟩ : ByteArray)[i]! != (⟨(b :: y).toArray⟩ : ByteArray)[i]!) ∘ Nat.succ) = fun i => (⟨x.toArray⟩ : ByteArray)[i]! != (⟨y.toArray⟩ : ByteArray)[i]! := by
      funext i
      simp only [Function.comp, bget, Nat.succ_eq_add_one, List.getElem?_cons_succ]
    rw [this]
    rfl

theorem cmp_cons (a b : UInt8) (x y : List UInt8) : Extern.BytealgCompare.cmp ⟨(a :: x).toArray⟩ ⟨(b :: y).toArray⟩ = if a < b then -1 else if b < a then 1 else Extern.BytealgCompare.cmp ⟨x.toArray⟩ ⟨y.toArray⟩ := by
  unfold Extern.BytealgCompare.cmp
  rw [bsize, bsize, bsize, bsize, List.length_cons, List.length_cons, show min (x.length + 1) (y.length + 1) = min x.length y.length + 1 by omega, find_diff]
  by_cases hab : a = b
  · subst hab
    have h1 : (a != a) = false := by simp
    have h2 : ¬ a < a := by simp [UInt8.lt_iff_toNat_lt]
    rw [h1, if_neg (by simp), if_neg h2, if_neg h2]
    cases h : (List.range (min x.length y.length)).find? fun i => (⟨x.toArray⟩ : ByteArray)[i]! != (⟨y.toArray⟩ : ByteArray)[i]! with
    | none =>
      simp only [Option.map_none, Nat.add_lt_add_iff_right, gt_iff_lt]
    | some i =>
      simp only [Option.map_some, bget, List.getElem?_cons_succ]
  · have h1 : (a != b) = true := by simp [hab]
    rw [h1, if_pos rfl]
    simp only [bget, List.getElem?_cons_zero, Option.getD_some]
    by_cases h2 : a < b
    · rw [if_pos h2, if_pos h2]
    · rw [if_neg h2, if_neg h2, if_pos]
      have : a.toNat ≠ b.toNat := fun h => hab (UInt8.toNat_inj.1 h)
      rw [UInt8.lt_iff_toNat_lt] at h2 ⊢
      omega

theorem cmpL_eq : ∀ x y : List UInt8, Extern.BytealgCompare.cmp ⟨x.toArray⟩ ⟨y.toArray⟩ = cmpL x y
  | [], [] => rfl
  | [], b :: y => rfl
  | a :: x, [] => rfl
  | a :: x, b :: y => by
    rw [cmp_cons, cmpL_eq x y]
    have e1 : Nat.blt a.toNat b.toNat = decide (a < b) := by rw [Bool.eq_iff_iff]; simp [UInt8.lt_iff_toNat_lt]
    have e2 : Nat.blt b.toNat a.toNat = decide (b < a) := by rw [Bool.eq_iff_iff]; simp [UInt8.lt_iff_toNat_lt]
    rw [cmpL, e1, e2]
    by_cases h1 : a < b
    · rw [if_pos h1, decide_eq_true h1]
    · rw [if_neg h1, decide_eq_false h1]
      by_cases h2 : b < a
      · rw [if_pos h2, decide_eq_true h2]
      · rw [if_neg h2, decide_eq_false h2]

theorem idxL_eq (c : UInt8) : ∀ (s : List UInt8) (k : Nat), idxL c.toNat s k = match (List.range s.length).find? fun i => (⟨s.toArray⟩ : ByteArray)[i]! == c with | some i => ((k + i : Nat) : Int) | none => -1
  | [], k => rfl
  | a :: s, k => by
    have e1 : Nat.beq a.toNat c.toNat = (a == c) := by rw [Bool.eq_iff_iff]; simp [UInt8.toNat_inj]
    rw [idxL, e1, List.length_cons, List.range_succ_eq_map, List.find?_cons]
    have e0 : ((⟨(a :: s).toArray⟩ : ByteArray)[0]! == c) = (a == c) := by rw [bget]; rfl
    rw [e0]
    cases hab : a == c with
    | true => rfl
    | false =>
      rw [List.find?_map]
      have : ((fun i => (⟨(a :: s).toArray⟩ : ByteArray)[i]! == c) ∘ Nat.succ) = fun i => (⟨s.toArray⟩ : ByteArray)[i]! == c := by
        funext i
        simp only [Function.comp, bget, Nat.succ_eq_add_one, List.getElem?_cons_succ]
      rw [this]
      have ih := idxL_eq c s (k + 1)
      simp only
      rw [ih]
      cases (List.range s.length).find? fun i => (⟨s.toArray⟩ : ByteArray)[i]! == c with
      | none => rfl
      | some i => simp only [Option.map_some]; congr 1; omega

theorem ext_name {fn : Func} {e : ExtF} (h : extOf fn = some e) : (fn.origin = "" ∧ ((e = .cmp ∧ fn.name = "internal/bytealg.abigen_runtime_cmpstring") ∨ (e = .idx ∧ fn.name = "internal/bytealg.IndexByteString") ∨ (e = .same ∧ fn.name = "internal/abi.NoEscape") ∨ (e = .cnt ∧ fn.name = "internal/bytealg.CountString") ∨ (e = .mk ∧ fn.name = "internal/bytealg.MakeNoZero"))) ∨
    (e = .ovl ∧ fn.origin = "slices.overlaps" ∧ noRow fn.name = true) := by
  unfold extOf at h
  split at h
  · rename_i h0
    refine .inl ⟨by simpa using h0, ?_⟩
    split at h
    · rename_i h1; cases h; exact .inl ⟨rfl, by simpa using h1⟩
    · split at h
      · rename_i h1; cases h; exact .inr (.inl ⟨rfl, by simpa using h1⟩)
      · split at h
        · rename_i h1; cases h; exact .inr (.inr (.inl ⟨rfl, by simpa using h1⟩))
        · split at h
          · rename_i h1; cases h; exact .inr (.inr (.inr (.inl ⟨rfl, by simpa using h1⟩)))
          · split at h
            · rename_i h1; cases h; exact .inr (.inr (.inr (.inr ⟨rfl, by simpa using h1⟩)))
            · cases h
  · split at h
    · rename_i h1
      cases h
      rw [Bool.and_eq_true] at h1
      exact .inr ⟨rfl, by simpa using h1.1, h1.2⟩
    · cases h

theorem find_ext {fn : Func} {n : String} {e : Array Value → Sem Value} (hn : fn.name = n) (ho : fn.origin = "")
    (h1 : Extern.allNextRows.lookup n = none) (h2 : Extern.allNextRows.lookup "" = none) (h3 : Extern.allGenericRows.lookup n = none) (h4 : Extern.allTypedRows.lookup n = none) (h5 : Extern.allRows.lookup n = some e) :
    Extern.findNext fn = none ∧ Extern.find fn = some e := by
  constructor
  · simp only [Extern.findNext, hn, ho, h1, h2, Option.map_none]; rfl
  · simp only [Extern.find, hn, ho, h3, h4, h5, Option.map_none]; rfl

theorem find_ovl {fn : Func} (ho : fn.origin = "slices.overlaps") (hn : noRow fn.name = true) : Extern.findNext fn = none ∧ Extern.find fn = some (Extern.SlicesOverlaps.overlaps fn.params fn.resultTypes) := by
  unfold noRow at hn
  simp only [Bool.and_eq_true, Option.isNone_iff_eq_none] at hn
  obtain ⟨_, n1, n2, n3, n4⟩ := hn
  have g1 : Extern.allNextRows.lookup "slices.overlaps" = none := by kernel_rfl
  have g2 : Extern.allGenericRows.lookup "slices.overlaps" = none := by kernel_rfl
  have g3 : Extern.allTypedRows.lookup "slices.overlaps" = some Extern.SlicesOverlaps.overlaps := by kernel_rfl
  constructor
  · simp only [Extern.findNext, ho, n1, g1, Option.map_none]; rfl
  · simp only [Extern.find, ho, n2, n3, n4, g2, g3, Option.map_none, Option.map_some]; rfl

theorem cleanA_sound (s : Sim ρ M w) {α : Nat} {l : Pl} (hl : ρ α = some l) (h : cleanA M α = true) : ∃ (C : Array Value) (e : TypeId) (fz : Nat × Nat), w.heap[l.b]? = some (.cells C e fz) ∧ fz.1 = fz.2 ∧ C.size ≠ 0 ∧ M.own α = true := by
  unfold cleanA at h
  split at h
  · rename_i x xs sz k hg
    cases s.blk α l _ hl hg with
    | cells _ _ _ _ C e fz h1 h2 h3 h4 h5 =>
      refine ⟨C.toArray, e, fz, h1, h4.1 h, ?_, by unfold AMem.own; rw [hg]; rfl⟩
      have := h2.1
      simp at this ⊢
      intro e'
      subst e'
      simp at this
  · cases h

theorem cntL_eq (c : UInt8) : ∀ s : List UInt8, cntL c.toNat s = Lib.countByte s c
  | [] => rfl
  | a :: s => by
    have e1 : Nat.beq a.toNat c.toNat = (a == c) := by rw [Bool.eq_iff_iff]; simp [UInt8.toNat_inj]
    unfold cntL Lib.countByte
    rw [e1, List.count_cons, cntL_eq c s]
    unfold Lib.countByte
    cases a == c <;> simp

theorem find_mk {fn : Func} (hn : fn.name = "internal/bytealg.MakeNoZero") (ho : fn.origin = "") : Extern.findNext fn = none ∧ Extern.find fn = some (Extern.BytealgMakeNoZero.makeNoZero fn.params fn.resultTypes) := by
  have g1 : Extern.allNextRows.lookup "internal/bytealg.MakeNoZero" = none := by kernel_rfl
  have g2 : Extern.allNextRows.lookup "" = none := by kernel_rfl
  have g3 : Extern.allGenericRows.lookup "internal/bytealg.MakeNoZero" = none := by kernel_rfl
  have g4 : Extern.allTypedRows.lookup "internal/bytealg.MakeNoZero" = some Extern.BytealgMakeNoZero.makeNoZero := by kernel_rfl
  constructor
  · simp only [Extern.findNext, hn, ho, g1, g2, Option.map_none]; rfl
  · simp only [Extern.find, hn, ho, g3, g4, Option.map_none, Option.map_some]; rfl

theorem extV_sound (s : Sim ρ M w) {f : FuncId} {fn : Func} (hf : P.funcs[f]? = some fn) (hb1 : fn.body.isNone = true) {e : ExtF} (he : extOf fn = some e) {args : List AV} {v : AV} {vs : List Value} (h : extV P M fn e args = some v) (hv : VL ρ args vs) : ∃ x, (callFunc f vs.toArray).run P w = .ok (.value x) w ∧ VR ρ v x := by
      rcases ext_name he with ⟨hb2, ⟨rfl, hn⟩ | ⟨rfl, hn⟩ | ⟨rfl, hn⟩ | ⟨rfl, hn⟩ | ⟨rfl, hn⟩⟩ | ⟨rfl, ho, hnr⟩
      · obtain ⟨g1, g2⟩ := find_ext (e := Extern.BytealgCompare.compare) hn hb2 (by kernel_rfl) (by kernel_rfl) (by kernel_rfl) (by kernel_rfl) (by kernel_rfl)
        unfold extV at h
        split at h
        · rename_i a b _
          cases h
          obtain ⟨y, yt, rfl, hy, hyt⟩ := hv.list_cons
          obtain ⟨z, zt, rfl, hz, hzt⟩ := hyt.list_cons
          obtain rfl := hzt.list_nil
          obtain rfl := hy.str_inv
          obtain rfl := hz.str_inv
          refine ⟨.int .i64 (Extern.BytealgCompare.cmp ⟨a.toArray⟩ ⟨b.toArray⟩), ?_, ?_⟩
          · rw [run_callFunc_extern hf (by rw [hn]; decide) hb1 g1 g2]
            rfl
          · rw [← cmpL_eq]
            exact .int _ _
        all_goals first | contradiction | cases h
      · obtain ⟨g1, g2⟩ := find_ext (e := Extern.BytealgIndexByte.indexByte) hn hb2 (by kernel_rfl) (by kernel_rfl) (by kernel_rfl) (by kernel_rfl) (by kernel_rfl)
        unfold extV at h
        split at h
        · contradiction
        · rename_i s' c _
          cases h
          obtain ⟨y, yt, rfl, hy, hyt⟩ := hv.list_cons
          obtain ⟨z, zt, rfl, hz, hzt⟩ := hyt.list_cons
          obtain rfl := hzt.list_nil
          obtain rfl := hy.str_inv
          obtain rfl := hz.int_inv
          refine ⟨.int .i64 (firstIdx ⟨s'.toArray⟩ c.toNat.toUInt8), ?_, ?_⟩
          · rw [run_callFunc_extern hf (by rw [hn]; decide) hb1 g1 g2, run_indexByte_string]
            rfl
          · have e1 : c.toNat % 256 = (c.toNat.toUInt8).toNat := by simp
            rw [e1, idxL_eq]
            unfold firstIdx
            rw [bsize]
            cases (List.range s'.length).find? fun i => (⟨s'.toArray⟩ : ByteArray)[i]! == c.toNat.toUInt8 with
            | none => exact .int _ _
            | some i => simp only [Nat.zero_add]; exact .int _ _
        all_goals first | contradiction | cases h
      · obtain ⟨g1, g2⟩ := find_ext (e := Extern.AbiNoEscape.same) hn hb2 (by kernel_rfl) (by kernel_rfl) (by kernel_rfl) (by kernel_rfl) (by kernel_rfl)
        unfold extV at h
        split at h
        · contradiction
        · contradiction
        · rename_i x _
          cases h
          obtain ⟨y, yt, rfl, hy, hyt⟩ := hv.list_cons
          obtain rfl := hyt.list_nil
          refine ⟨y, ?_, hy⟩
          rw [run_callFunc_extern hf (by rw [hn]; decide) hb1 g1 g2]
          rfl
        all_goals first | contradiction | cases h
      · obtain ⟨g1, g2⟩ := find_ext (e := Extern.BytealgCount.count) hn hb2 (by kernel_rfl) (by kernel_rfl) (by kernel_rfl) (by kernel_rfl) (by kernel_rfl)
        unfold extV at h
        split at h
        · contradiction
        · contradiction
        · contradiction
        · rename_i s' c _
          cases h
          obtain ⟨y, yt, rfl, hy, hyt⟩ := hv.list_cons
          obtain ⟨z, zt, rfl, hz, hzt⟩ := hyt.list_cons
          obtain rfl := hzt.list_nil
          obtain rfl := hy.str_inv
          obtain rfl := hz.int_inv
          refine ⟨.int .i64 (Lib.countByte s' c.toNat.toUInt8), ?_, ?_⟩
          · rw [run_callFunc_extern hf (by rw [hn]; decide) hb1 g1 g2]
            rw [show ([Value.string ⟨s'.toArray⟩, Value.int .u8 c].toArray : Array Value) = #[.string ⟨s'.toArray⟩, .int .u8 c] from rfl, Lib.run_countString]
            rfl
          · have e1 : c.toNat % 256 = (c.toNat.toUInt8).toNat := by simp
            rw [e1, cntL_eq]
            exact .int _ _
        all_goals first | contradiction | cases h
      · unfold extV at h
        split at h <;> first | contradiction | cases h
      · obtain ⟨g1, g2⟩ := find_ovl ho hnr
        unfold extV at h
        split at h
        · contradiction
        · contradiction
        · contradiction
        · contradiction
        · rename_i a la ca b lb cb _
          split at h
          · rename_i t u hp
            split at h
            · rename_i e hu
              split at h
              · rename_i hc
                cases h
                obtain ⟨α, oa⟩ := a
                obtain ⟨β, ob⟩ := b
                simp only [Bool.and_eq_true, Bool.not_eq_true'] at hc
                obtain ⟨hi, htu, hab, hca, hcb⟩ := hc
                have htu := Nat.eq_of_beq_eq_true htu
                subst htu
                have hne : α ≠ β := (by
                  intro e'
                  rw [e', Nat.beq_refl] at hab
                  cases hab)
                obtain ⟨y, yt, rfl, hy, hyt⟩ := hv.list_cons
                obtain ⟨z, zt, rfl, hz, hzt⟩ := hyt.list_cons
                obtain rfl := hzt.list_nil
                obtain ⟨ad, capA, rfl, _, _, k2⟩ := hy.slice_inv
                obtain ⟨bd, capB, rfl, _, _, m2⟩ := hz.slice_inv
                obtain ⟨xa, rfl, qa⟩ := k2 α oa rfl
                obtain ⟨xb, rfl, qb⟩ := m2 β ob rfl
                obtain ⟨l, hl, rfl, _⟩ : ∃ l, ρ α = some l ∧ xa = ⟨l.b, l.p + oa, none⟩ ∧ True := by
                  rcases qa with ⟨l, q1, q2, _⟩ | ⟨q1, _⟩
                  · exact ⟨l, q1, q2, trivial⟩
                  · cases q1
                obtain ⟨k, hk, rfl, _⟩ : ∃ l, ρ β = some l ∧ xb = ⟨l.b, l.p + ob, none⟩ ∧ True := by
                  rcases qb with ⟨l, q1, q2, _⟩ | ⟨q1, _⟩
                  · exact ⟨l, q1, q2, trivial⟩
                  · cases q1
                obtain ⟨C, eC, fC, hC, hfC, _, hoA⟩ := cleanA_sound s hl hca
                obtain ⟨D, eD, fD, hD, hfD, hDn, hoB⟩ := cleanA_sound s hk hcb
                have hbne : l.b ≠ k.b := fun e' => by
                  have := s.sep α β l k hne hl hk e' hoA
                  unfold AMem.own at hoB
                  rw [this] at hoB; cases hoB
                obtain ⟨ie, hie⟩ := Option.isSome_iff_exists.1 hi
                have hps : fn.params = #[t, t] := by
                  apply Array.ext'
                  rw [hp]
                refine ⟨.bool false, ?_, .bool _⟩
                rw [run_callFunc_extern hf (by
                  unfold noRow at hnr
                  rw [Bool.and_eq_true, Bool.not_eq_true'] at hnr
                  exact hnr.1) hb1 g1 g2]
                have hov : ∀ R, (Extern.SlicesOverlaps.overlaps #[t, t] R #[.slice (some ⟨l.b, l.p + oa, none⟩) (la + 1) capA, .slice (some ⟨k.b, k.p + ob, none⟩) (lb + 1) capB]).run P w = .ok (.bool false) w := fun R => by
                  rw [show Extern.SlicesOverlaps.overlaps #[t, t] R = Extern.SlicesOverlaps.overlaps #[t, t] #[0] from rfl]
                  exact Lib.run_overlaps_apart (P := P) w t 0 e hu ie.size (run_size hie) ⟨l.b, l.p + oa, none⟩ ⟨k.b, k.p + ob, none⟩ (la + 1) capA (lb + 1) capB hbne eC eD C.size D.size (by simp [World.shape?, hC]) (by simp [World.shape?, hD]) hDn (frozen_clean hC hfC _) (frozen_clean hC hfC _)
                rw [hps]
                have := hov fn.resultTypes
                rw [show ([Value.slice (some ⟨l.b, l.p + oa, none⟩) (la + 1) capA, Value.slice (some ⟨k.b, k.p + ob, none⟩) (lb + 1) capB].toArray : Array Value) = #[.slice (some ⟨l.b, l.p + oa, none⟩) (la + 1) capA, .slice (some ⟨k.b, k.p + ob, none⟩) (lb + 1) capB] from rfl, this]
                rfl
              · cases h
            · cases h
          · cases h
        · cases h

theorem extA_sound (s : Sim ρ M w) {f : FuncId} {args : List AV} {v : AV} {M' : AMem} {vs : List Value} (h : extA P M f args = some (v, M')) (hv : VL ρ args vs) : ∃ ρ' w' x, (callFunc f vs.toArray).run P w = .ok (.value x) w' ∧ VR ρ' v x ∧ Sim ρ' M' w' ∧ Ext ρ M w ρ' M' w' := by
  unfold extA at h
  split at h
  · cases h
  · rename_i fn hf
    split at h
    · rename_i hb1
      obtain ⟨e, he, h⟩ := Option.bind_eq_some_iff.1 h
      split at h
      · rcases ext_name he with ⟨hb2, ⟨e', _⟩ | ⟨e', _⟩ | ⟨e', _⟩ | ⟨e', _⟩ | ⟨_, hn⟩⟩ | ⟨e', _⟩
        · cases e'
        · cases e'
        · cases e'
        · cases e'
        · obtain ⟨g1, g2⟩ := find_mk hn hb2
          unfold mkNoZeroA at h
          split at h
          · rename_i n t hts _
            have hts : fn.resultTypes = #[t] := (by apply Array.ext'; rw [hts])
            split at h
            · rename_i e0 hu
              split at h
              · rename_i hle
                cases h
                obtain ⟨y, yt, rfl, hy, hyt⟩ := hv.list_cons
                obtain rfl := hyt.list_nil
                obtain rfl := hy.int_inv
                obtain ⟨ρ', w', u, h1, h2, h3, h4⟩ := mkNoZero_sound (P := P) s fn.params (t := t) hu (n := n) (Nat.le_of_ble_eq_true hle)
                refine ⟨ρ', w', u, ?_, h2, h3, h4⟩
                rw [run_callFunc_extern hf (by rw [hn]; decide) hb1 g1 g2]
                rw [hts, show ([Value.int .i64 (Int.ofNat (n + 1))].toArray : Array Value) = #[.int .i64 ((n + 1 : Nat) : Int)] from rfl, h1]
                rfl
              · cases h
            · cases h
          · cases h
        · cases e'
      · rw [Option.map_eq_some_iff] at h
        obtain ⟨v', hv', e'⟩ := h
        cases e'
        obtain ⟨x, h1, h2⟩ := extV_sound s hf hb1 he hv' hv
        exact ⟨ρ, w, x, h1, h2, s, Ext.refl ρ M w⟩
    · cases h

theorem run_method {t : TypeId} {name : String} {f : FuncId} {v : Value} (h : methodA P t name = some f) (n : Nat) : (method (n + 1) t v name).run P w = .ok (f, v) w := by
  unfold methodA at h
  split at h
  · cases h
  · rename_i i hi
    split at h
    · cases h
    · rename_i m hm
      split at h
      · rename_i hp
        have hpl : m.path.toList = [] := by simpa using hp
        split at h
        · rename_i f' e hmf hu
          cases h
          simp only [method, Sem.run_bind, run_typeInfo w hi, Result.andThen_ok, hm, hpl, follow, Sem.run_pure, hmf, hp, if_true, receiverAt, run_underlying hu, Place.get]
        · cases h
        · rename_i f' d hne hmf hu
          cases h
          simp only [method, Sem.run_bind, run_typeInfo w hi, Result.andThen_ok, hm, hpl, follow, Sem.run_pure, hmf, hp, if_true, receiverAt, run_underlying hu, Place.get]
        · cases h
      · cases h

theorem OR.of_opt {x : Option Operand} {vs : List AV} (hg : GlobR P ρ) (hf : FrR ρ nt fr a.tmps) (h : evL P fr x.toList = some vs) : OR ρ vs.head? (x.map a.eval) := by
  cases x with
  | none => simp only [Option.toList_none, evL, Option.some.injEq] at h; subst h; trivial
  | some x =>
    have := OR.of_list (evL_sound (a := a) hg hf h)
    simpa using this

theorem builtinK_sound (s : Sim ρ M w) {b : Builtin} {c : Call} {args : List AV} {vs : List Value} {kv : AV → AMem → Option β} (hc : c.callee = .builtin b) (hv : VL ρ args vs) (hvs : c.args.map a.eval = vs.toArray)
    (ho : o.op = .call c) (h : builtinK P M b c.argTypes.toList args kv = some r) : ∃ v M', kv v M' = some r ∧ OpV P o a ρ M w v M' ∧ (isEff P o = false → isAlloc o = false → M' = M) := by
  have hrun : ∀ {w' : World} {u : Value}, (builtin b c.argTypes o.type (c.args.map fun | .const _ => true | _ => false) vs.toArray).run P w = .ok (.value u) w' → (execOp a.eval o).run P w = .ok (.value u) w' := fun {w' u} e => by
    simp only [execOp, ho, resolve, hc, Sem.run_bind, Sem.run_pure, Result.andThen_ok, invoke, hvs]
    exact e
  have fin : ∀ {v : AV} {M' : AMem} {ρ' : Loc} {w' : World} {u : Value}, kv v M' = some r → (builtin b c.argTypes o.type (c.args.map fun | .const _ => true | _ => false) vs.toArray).run P w = .ok (.value u) w' → VR ρ' v u → Sim ρ' M' w' → Ext ρ M w ρ' M' w' → (isEff P o = false → isAlloc o = false → M' = M) →
      ∃ v M', kv v M' = some r ∧ OpV P o a ρ M w v M' ∧ (isEff P o = false → isAlloc o = false → M' = M) := fun h1 h2 h3 h4 h5 h6 => ⟨_, _, h1, ⟨_, _, _, _, hrun h2, .inl rfl, h3, h4, h5⟩, h6⟩
  have ts0 : ∀ {t : TypeId} {l : List TypeId}, c.argTypes.toList = t :: l → c.argTypes[0]? = some t := fun e => by
    rw [← Array.getElem?_toList, e]; rfl
  have ts1 : ∀ {t u : TypeId} {l : List TypeId}, c.argTypes.toList = t :: u :: l → c.argTypes[1]? = some u := fun e => by
    rw [← Array.getElem?_toList, e]; rfl
  unfold builtinK at h
  split at h
  · rename_i st xt b1 l1 c1 x hts
    obtain ⟨y, yt, rfl, hy, hyt⟩ := hv.list_cons
    obtain ⟨z, zt, rfl, hz, hzt⟩ := hyt.list_cons
    obtain rfl := hzt.list_nil
    replace h := bindO_some h
    obtain ⟨⟨res, M'⟩, hres, h⟩ := h
    obtain ⟨ρ', w', u, h1, h2, h3, h4⟩ := appendA_sound (P := P) (ty := o.type) s c.argTypes (ts0 hts) (ts1 hts) hy hz hres
    exact fin h (by simp only [builtin, Sem.run_bind, h1, Result.andThen_ok, Sem.run_pure]) h2 h3 h4 (fun h => by simp [isEff, ho, hc] at h)
  · rename_i st ts b1 l1 c1 x hts
    obtain ⟨y, yt, rfl, hy, hyt⟩ := hv.list_cons
    obtain ⟨z, zt, rfl, hz, hzt⟩ := hyt.list_cons
    obtain rfl := hzt.list_nil
    replace h := bindO_some h
    obtain ⟨⟨m, M'⟩, hres, h⟩ := h
    obtain ⟨w', h1, h3, h4⟩ := copyA_sound (P := P) (ty := o.type) s c.argTypes (ts0 hts) hy hz hres
    exact fin h (by simp only [builtin, Sem.run_bind, h1, Result.andThen_ok, Sem.run_pure]) (.int _ _) h3 h4 (fun h => by simp [isEff, ho, hc] at h)
  · rename_i t ts x hts
    obtain ⟨y, yt, rfl, hy, hyt⟩ := hv.list_cons
    obtain rfl := hyt.list_nil
    obtain ⟨v, u, h1, h2, h3⟩ := lenK_sound (P := P) (ty := o.type) s c.argTypes (ts0 hts) hy h
    exact fin h1 (by simp only [builtin, Sem.run_bind, h2, Result.andThen_ok, Sem.run_pure]) h3 s (Ext.refl ρ M w) (fun _ _ => rfl)
  · rename_i t ts b1 l1 c1 hts
    obtain ⟨y, yt, rfl, hy, hyt⟩ := hv.list_cons
    obtain rfl := hyt.list_nil
    split at h
    · rename_i e hu
      replace h := bindO_some h
      obtain ⟨n, rfl, h⟩ := h
      obtain ⟨ad, cap', rfl, _⟩ := hy.slice_inv
      obtain rfl := cap_of hy
      have a0 : (#[Value.slice ad l1 cap'] : Array Value)[0]? = some (.slice ad l1 cap') := rfl
      refine fin h (u := .int .i64 cap') ?_ (.int _ _) s (Ext.refl ρ M w) (fun _ _ => rfl)
      simp only [builtin, Builtin.cap_, ts0 hts, List.toArray, a0, Sem.run_bind, run_underlying hu, Result.andThen_ok, Sem.run_pure, goInt]
    · cases h
  · rename_i t ts m k hts
    obtain ⟨y, yt, rfl, hy, hyt⟩ := hv.list_cons
    obtain ⟨z, zt, rfl, hz, hzt⟩ := hyt.list_cons
    obtain rfl := hzt.list_nil
    replace h := bindO_some h
    obtain ⟨M', hres, h⟩ := h
    obtain ⟨w', h1, h3, h4⟩ := mapDelA_sound (P := P) (ty := o.type) s hy hz c.argTypes (ts0 hts) hres
    exact fin h (by simp only [builtin, Sem.run_bind, h1, Result.andThen_ok, Sem.run_pure]) (VL.nil ρ).tup h3 h4 (fun h => by simp [isEff, ho, hc] at h)
  · rename_i t ts x hts
    obtain ⟨y, yt, rfl, hy, hyt⟩ := hv.list_cons
    obtain rfl := hyt.list_nil
    replace h := bindO_some h
    obtain ⟨M', hres, h⟩ := h
    obtain ⟨w', h1, h3, h4⟩ := clearA_sound (P := P) (ty := o.type) s c.argTypes (ts0 hts) hy hres
    exact fin h (by simp only [builtin, Sem.run_bind, h1, Result.andThen_ok, Sem.run_pure]) (VL.nil ρ).tup h3 h4 (fun h => by simp [isEff, ho, hc] at h)
  · obtain ⟨y, yt, rfl, hy, hyt⟩ := hv.list_cons
    obtain rfl := hyt.list_nil
    unfold sdataK at h
    split at h
    · obtain ⟨ad, cap', rfl, _, k1, k2⟩ := hy.slice_inv
      have : ad = none := by cases hy; rfl
      subst this
      refine fin h (u := .pointer none) ?_ .pnil s (Ext.refl ρ M w) (fun h => by simp [isEff, ho, hc] at h)
      simp only [builtin, Sem.run_bind]
      refine Eq.trans (congrArg (fun r => Result.andThen r _) (Lib.run_unsafeSliceData_nil (P := P) w c.argTypes o.type _ cap')) ?_
      rfl
    · rename_i a n cp
      cases hy with
      | sl α q _ _ l cap hl hle hcap =>
        refine fin h (u := .pointer (some ⟨l.b, l.p + q, none⟩)) ?_ (.ptr α q l hl) s (Ext.refl ρ M w) (fun h => by simp [isEff, ho, hc] at h)
        simp only [builtin, Sem.run_bind]
        rw [show ([Value.slice (some ⟨l.b, l.p + q, none⟩) (n + 1) cap].toArray : Array Value) = #[.slice (some ⟨l.b, l.p + q, none⟩) (n + 1) cap] from rfl, Lib.run_unsafeSliceData_row w c.argTypes o.type _ _ _ (by omega)]
        rfl
    · cases h
  · rename_i pt ts p0 n0 hts
    obtain ⟨y, yt, rfl, hy, hyt⟩ := hv.list_cons
    obtain ⟨z, zt, rfl, hz, hzt⟩ := hyt.list_cons
    obtain rfl := hzt.list_nil
    unfold ustrK at h
    split at h
    · rename_i p kd
      obtain rfl := hz.int_inv
      obtain ⟨q, rfl⟩ : ∃ q, y = .pointer q := by cases hy <;> exact ⟨_, rfl⟩
      refine fin h (u := .string .empty) ?_ (.str .empty) s (Ext.refl ρ M w) (fun h => by simp [isEff, ho, hc] at h)
      simp only [builtin, Sem.run_bind]
      rw [show ([Value.pointer q, Value.int kd (Int.ofNat 0)].toArray : Array Value) = #[.pointer q, .int kd 0] from rfl, run_unsafeString_zero (P := P) _ pt _ (ts0 hts)]
      rfl
    · rename_i a kd n
      obtain rfl := hz.int_inv
      obtain ⟨α, q⟩ := a
      obtain ⟨l, hl, rfl⟩ := hy.ptr_inv
      split at h
      · rename_i cc sz cl e hg hu
        obtain ⟨⟨t, m⟩, hcl, h⟩ := bindO_some h
        obtain ⟨cs, hcs, h⟩ := bindO_some h
        obtain ⟨bs, hbs, h⟩ := bindO_some h
        obtain ⟨hq, hfin⟩ := sureB_some h
        simp only [Bool.and_eq_true] at hq
        obtain rfl : q = 0 := Nat.eq_of_beq_eq_true hq.2.1
        obtain ⟨w', h1, h2, h3⟩ := unsafeString_sound (P := P) s o.type c.argTypes (ts0 hts) kd hl hg hcl hu hcs hbs (Nat.eq_of_beq_eq_true hq.1) (Nat.eq_of_beq_eq_true hq.2.2.1) (Nat.le_of_ble_eq_true hq.2.2.2)
        refine fin hfin (u := .string ⟨bs.toArray⟩) ?_ (VR.str_mk _) h2 h3 (fun h => by simp [isEff, ho, hc] at h)
        simp only [builtin, Sem.run_bind]
        rw [show ([Value.pointer (some ⟨l.b, l.p + 0, none⟩), Value.int kd (Int.ofNat (n + 1))].toArray : Array Value) = #[.pointer (some ⟨l.b, l.p + 0, none⟩), .int kd ((n + 1 : Nat) : Int)] from rfl, h1]
        rfl
      · cases h
    · cases h
  · rename_i x rr
    obtain ⟨y, yt, rfl, hy, hyt⟩ := hv.list_cons
    obtain ⟨v, u, h1, h2, h3⟩ := mmK_sound (P := P) (w := w) hy hyt h
    refine fin h1 (u := u) ?_ h3 s (Ext.refl ρ M w) (fun _ _ => rfl)
    simp only [if_true] at h2
    simp only [builtin, Builtin.max_, Sem.run_bind, List.toArray, h2, Result.andThen_ok, Sem.run_pure]
  · rename_i x rr
    obtain ⟨y, yt, rfl, hy, hyt⟩ := hv.list_cons
    obtain ⟨v, u, h1, h2, h3⟩ := mmK_sound (P := P) (w := w) hy hyt h
    refine fin h1 (u := u) ?_ h3 s (Ext.refl ρ M w) (fun _ _ => rfl)
    simp only [Bool.false_eq_true, if_false] at h2
    simp only [builtin, Builtin.min_, Sem.run_bind, List.toArray, h2, Result.andThen_ok, Sem.run_pure]
  · cases h

theorem opK_sound (s : Sim ρ M w) (hg : GlobR P ρ) (hf : FrR ρ nt fr a.tmps) {kv : AV → AMem → Option β} {kc : FuncId → List AV → Option β} (h : opK P fr M o kv kc = some r) :
    (∃ v M', kv v M' = some r ∧ OpV P o a ρ M w v M' ∧ (isEff P o = false → isAlloc o = false → M' = M)) ∨ (∃ f args, kc f args = some r ∧ OpC P o a ρ w f args) := by
  have E := fun {x : Operand} {v : AV} (e : evA P fr x = some v) => evA_sound (a := a) hg hf e
  -- a plain value
  have pure1 : ∀ {v : AV} {x : Value}, kv v M = some r → (execOp a.eval o).run P w = .ok (.value x) w → VR ρ v x →
      (∃ v M', kv v M' = some r ∧ OpV P o a ρ M w v M' ∧ (isEff P o = false → isAlloc o = false → M' = M)) ∨ (∃ f args, kc f args = some r ∧ OpC P o a ρ w f args) := fun h1 h2 h3 => .inl ⟨_, _, h1, OpV.pure s h2 h3, fun _ _ => rfl⟩
  -- a new block
  have new1 : ∀ {B : ABlk} {f : Nat → AV}, isAlloc o = true → allocA P fr o = some (B, f) → kv (f M.next) (M.new B) = some r →
      (∃ v M', kv v M' = some r ∧ OpV P o a ρ M w v M' ∧ (isEff P o = false → isAlloc o = false → M' = M)) ∨ (∃ f args, kc f args = some r ∧ OpC P o a ρ w f args) := fun {B f} h0 h1 h2 => by
    obtain ⟨ob, g, hrun, hrel⟩ := allocA_sound (P := P) (a := a) hg hf h1
    let l : Pl := ⟨w.heap.size, 0, 0, 0⟩
    obtain ⟨r1, r2⟩ := hrel (ρ.upd M.next l) M.next l w (Loc.le_upd ρ _ l s.none_next) (Loc.upd_same ρ _ l) rfl rfl
    obtain ⟨s1, e1⟩ := s.alloc (B := B) (o := ob) (l := l) rfl r2
    exact .inl ⟨_, _, h2, ⟨_, _, _, _, hrun w, .inl rfl, r1, s1, e1⟩, fun _ h => by rw [h0] at h; cases h⟩
  unfold opK at h
  split at h
  · rename_i x ho
    replace h := bindO_some h
    obtain ⟨v, hv, h⟩ := h
    exact pure1 h (by simp only [execOp, ho, Sem.run_pure]) (E hv)
  · rename_i x ho
    replace h := bindO_some h
    obtain ⟨v, hv, h⟩ := h
    exact pure1 h (by simp only [execOp, ho, Sem.run_pure]) (E hv)
  · rename_i c x y ho
    replace h := bindO_some h
    obtain ⟨cv, hcv, h⟩ := h
    replace h := bindO_some h
    obtain ⟨xv, hxv, h⟩ := h
    replace h := bindO_some h
    obtain ⟨yv, hyv, h⟩ := h
    split at h
    · rename_i t
      have ec := (E hcv).bool_inv
      have hrun : (execOp a.eval o).run P w = .ok (.value (if t then a.eval x else a.eval y)) w := by
        simp only [execOp, ho, ec, _root_.Go.asBool, Sem.run_bind, Sem.run_pure, Result.andThen_ok]
      split at h
      · rename_i x0 y0
        refine pure1 h hrun ?_
        cases t
        · exact E hyv
        · exact E hxv
      · split at h
        · exact pure1 h hrun (E hxv)
        · exact pure1 h hrun (E hyv)
    · cases h
  · rename_i ho; obtain ⟨⟨B, f⟩, h1, h⟩ := bindO_some h; exact new1 (by simp [isAlloc, ho]) h1 h
  · rename_i ho; obtain ⟨⟨B, f⟩, h1, h⟩ := bindO_some h; exact new1 (by simp [isAlloc, ho]) h1 h
  · rename_i ho; obtain ⟨⟨B, f⟩, h1, h⟩ := bindO_some h; exact new1 (by simp [isAlloc, ho]) h1 h
  · rename_i ho; obtain ⟨⟨B, f⟩, h1, h⟩ := bindO_some h; exact new1 (by simp [isAlloc, ho]) h1 h
  · rename_i t l c ho
    split at h
    · rename_i e k1 l' k2 c' hu hl hc
      split at h
      · rename_i ie z hi hz
        split at h
        · rename_i hd
          have hd' := of_decide_eq_true hd
          obtain ⟨hb, h⟩ := needB_some h
          simp only [Bool.and_eq_true, decide_eq_true_eq] at hb
          exact new1 (by simp [isAlloc, ho]) (B := .cells (repA z.cells c'.toNat) 0 .yes) (f := fun α => .slice (some (α, 0)) l'.toNat (some c'.toNat)) (by simp only [allocA, ho, hu, hl, hc, hi, hz]; rw [if_pos ⟨hd', hb⟩]) h
        · cases h
      · cases h
    · cases h
  · -- build
    rename_i t parts ho
    replace h := bindO_some h
    obtain ⟨z, hz, h⟩ := h
    replace h := bindO_some h
    obtain ⟨ps, hps, h⟩ := h
    obtain ⟨i, z', hi, hz', hzr, hzv⟩ := zeroA_sound hz
    have hpl := evParts_sound (a := a) hg hf hps
    have hpt : (parts.map fun (i, x) => (i, a.eval x)).toList = parts.toList.map fun p => (p.1, a.eval p.2) := by simp
    split at h
    · rename_i fields hu
      replace h := bindO_some h
      obtain ⟨pl, hplc, h⟩ := h
      replace h := bindO_some h
      obtain ⟨cs, hcs, h⟩ := h
      obtain ⟨D, hD, hvD⟩ := fillA_sound (place := fun i => pl[i]?) hpl (hzv ρ).cells hcs
      refine pure1 h (x := .agg D) ?_ hvD.agg
      have hb : P.built t (parts.map fun (i, x) => (i, a.eval x)).toList = some D := by
        rw [hpt]
        simp only [Program.built, hi, hu, hz', run_placesA hplc]
        simpa using hD
      simp only [execOp, ho, Sem.run_bind, run_build w t _ D hb, Result.andThen_ok, Sem.run_pure]
    · rename_i n e hu
      replace h := bindO_some h
      obtain ⟨ie, hie, h⟩ := h
      replace h := bindO_some h
      obtain ⟨cs, hcs, h⟩ := h
      obtain ⟨D, hD, hvD⟩ := fillA_sound (place := fun i => some (i * ie.size, ie.size)) hpl (hzv ρ).cells hcs
      refine pure1 h (x := .agg D) ?_ hvD.agg
      have hb : P.built t (parts.map fun (i, x) => (i, a.eval x)).toList = some D := by
        rw [hpt]
        simp only [Program.built, hi, hu, hz', hie]
        exact hD
      simp only [execOp, ho, Sem.run_bind, run_build w t _ D hb, Result.andThen_ok, Sem.run_pure]
    · cases h
  · -- load
    rename_i t x ho
    replace h := bindO_some h
    obtain ⟨v, hv, h⟩ := h
    replace h := asPtr_some h
    obtain ⟨p, rfl, h⟩ := h
    replace h := bindO_some h
    obtain ⟨⟨α, q⟩, rfl, h⟩ := h
    replace h := bindO_some h
    obtain ⟨y, hy, h⟩ := h
    replace h := shK_some h
    obtain ⟨l, hl, ex⟩ := (E hv).ptr_inv
    obtain ⟨u, hr, hu⟩ := run_loadA (P := P) s hl hy
    refine pure1 h (x := u) ?_ hu
    simp only [execOp, ho, ex, Instr.loadAt, Instr.sureAddr, Sem.run_bind, Sem.run_pure, Result.andThen_ok, hr]
  · -- store
    rename_i t x y ho
    replace h := bindO_some h
    obtain ⟨v, hv, h⟩ := h
    replace h := bindO_some h
    obtain ⟨u, hu, h⟩ := h
    replace h := asPtr_some h
    obtain ⟨p, rfl, h⟩ := h
    replace h := bindO_some h
    obtain ⟨⟨α, q⟩, rfl, h⟩ := h
    replace h := bindO_some h
    obtain ⟨M', hM, h⟩ := h
    obtain ⟨l, hl, ex⟩ := (E hv).ptr_inv
    obtain ⟨w', hr, s', e'⟩ := run_storeA (P := P) s hl hM (E hu)
    refine .inl ⟨_, _, h, ⟨ρ, w', .skip, undef, ?_, .inr ⟨rfl, rfl⟩, VR.undef ρ, s', e'⟩, fun h => by simp [isEff, ho] at h⟩
    simp only [execOp, ho, ex, Instr.storeAt, Instr.sureAddr, Sem.run_bind, Sem.run_pure, Result.andThen_ok, hr]
  · -- nilCheck
    rename_i x ho
    replace h := bindO_some h
    obtain ⟨v, hv, h⟩ := h
    split at h
    · replace h := bindO_some h
      obtain ⟨⟨α, q⟩, rfl, h⟩ := h
      obtain ⟨l, hl, ex⟩ := (E hv).ptr_inv
      refine pure1 h (x := a.eval x) ?_ (E hv)
      simp only [execOp, ho, ex, Sem.run_pure]
    · obtain ⟨ys, ds, ex, _⟩ := (E hv).func_inv
      refine pure1 h (x := a.eval x) ?_ (E hv)
      simp only [execOp, ho, ex, Sem.run_pure]
    · obtain ⟨u, ex, _⟩ := (E hv).iface_inv
      refine pure1 h (x := a.eval x) ?_ (E hv)
      simp only [execOp, ho, ex, Sem.run_pure]
    · cases h
  · -- binOp
    rename_i op t x y yt ho
    replace h := bindO_some h
    obtain ⟨v, hv, h⟩ := h
    replace h := bindO_some h
    obtain ⟨u, hu, h⟩ := h
    obtain ⟨res, x', h1, h2, h3⟩ := binK_sound s (E hv) (E hu) h
    refine pure1 h1 ?_ h3
    simp only [execOp, ho]
    rw [Sem.run_bind, h2]
    rfl
  · -- unOp
    rename_i op t x ho
    replace h := bindO_some h
    obtain ⟨v, hv, h⟩ := h
    obtain ⟨res, x', h1, h2, h3⟩ := unK_sound (P := P) (w := w) (E hv) h
    refine pure1 h1 ?_ h3
    simp only [execOp, ho, Sem.run_bind, h2, Result.andThen_ok, Sem.run_pure]
  · -- convert
    rename_i src dst x ho
    replace h := bindO_some h
    obtain ⟨v, hv, h⟩ := h
    obtain ⟨res, M', ρ', w', x', h1, h2, h3, h4, h5, h6⟩ := convK_sound (P := P) s (E hv) h
    refine .inl ⟨_, _, h1, ⟨ρ', w', .value x', x', ?_, .inl rfl, h3, h4, h5⟩, fun h _ => h6 ?_⟩
    case refine_2 =>
      unfold isEff at h
      rw [ho] at h
      simp only at h
      split at h
      · rename_i hd; exact .inl hd
      · rename_i k hd; exact .inr ⟨k, hd⟩
      · cases h
    simp only [execOp, ho, Sem.run_bind, h2, Result.andThen_ok, Sem.run_pure]
  · -- makeInterface
    rename_i t x ho
    replace h := bindO_some h
    obtain ⟨v, hv, h⟩ := h
    split at h
    · cases h
    · rename_i d hne hu
      refine pure1 h (x := .iface t (a.eval x)) ?_ (.iface t _ _ (E hv))
      simp only [execOp, ho, Instr.makeInterface, Sem.run_bind, run_underlying hu, Result.andThen_ok]
      cases d <;> first
        | rfl
        | (exfalso; exact hne _ rfl)
    · cases h
  · -- makeFunc
    rename_i fn first captured ho
    replace h := bindO_some h
    obtain ⟨xs, hxs, h⟩ := h
    replace h := bindO_some h
    obtain ⟨cs, hcs, h⟩ := h
    have h1 := evL_sound (a := a) hg hf hxs
    have h2 := evL_sound (a := a) hg hf hcs
    refine pure1 h (x := .func fn (first.map a.eval) (captured.map a.eval)) ?_ ?_
    · simp only [execOp, ho, Instr.makeFunc, Sem.run_bind, Sem.run_pure, Result.andThen_ok]
    · have e1 : first.map a.eval = (first.toList.map a.eval).toArray := by apply Array.ext'; simp
      have e2 : captured.map a.eval = (captured.toList.map a.eval).toArray := by apply Array.ext'; simp
      rw [e1, e2]
      exact VR.func (ρ := ρ) fn xs cs _ _ h1.1 h2.1 h1.2 h2.2
  · -- slice
    rename_i t x lo hi mx ho
    replace h := bindO_some h
    obtain ⟨v, hv, h⟩ := h
    replace h := bindO_some h
    obtain ⟨l, hl, h⟩ := h
    replace h := bindO_some h
    obtain ⟨hh, hhi, h⟩ := h
    replace h := bindO_some h
    obtain ⟨m, hm, h⟩ := h
    obtain ⟨res, u, h1, h2, h3⟩ := sliceK_sound (P := P) s (E hv) (OR.of_opt (a := a) hg hf hl) (OR.of_opt (a := a) hg hf hhi) (OR.of_opt (a := a) hg hf hm) h
    refine pure1 h1 ?_ h3
    simp only [execOp, ho, Sem.run_bind, h2, Result.andThen_ok, Sem.run_pure]
  · -- fieldAddr
    rename_i st x f ho
    replace h := bindO_some h
    obtain ⟨v, hv, h⟩ := h
    replace h := asPtr_some h
    obtain ⟨p, rfl, h⟩ := h
    replace h := bindO_some h
    obtain ⟨⟨α, q⟩, rfl, h⟩ := h
    obtain ⟨l, hl, ex⟩ := (E hv).ptr_inv
    split at h
    · rename_i fields hu
      replace h := bindO_some h
      obtain ⟨fd, hfd, h⟩ := h
      replace h := bindO_some h
      obtain ⟨i, hi, h⟩ := h
      replace h := sureB_some h
      obtain ⟨hz, h⟩ := h
      have hz : ¬ i.size = 0 := by
        intro e; rw [e] at hz; simp at hz
      refine pure1 h (x := .pointer (some ⟨l.b, l.p + (q + fd.offset), none⟩)) ?_ (.ptr α (q + fd.offset) l hl)
      simp only [execOp, ho, ex, Instr.fieldAt, Sem.run_bind, run_underlying hu, Result.andThen_ok, hfd, Instr.sureAddr, Sem.run_pure, fieldPlace, run_size hi, hz, if_false, add_place]
    · cases h
  · -- field
    rename_i st x f ho
    replace h := bindO_some h
    obtain ⟨v, hv, h⟩ := h
    replace h := asAgg_some h
    obtain ⟨cs, rfl, h⟩ := h
    obtain ⟨ys, ex, hys⟩ := (E hv).agg_inv
    split at h
    · rename_i fields hu
      replace h := bindO_some h
      obtain ⟨fd, hfd, h⟩ := h
      replace h := bindO_some h
      obtain ⟨pv, hpv, h⟩ := h
      obtain ⟨u, hr, hvu⟩ := run_partA (P := P) (w := w) hys hpv
      refine pure1 h (x := u) ?_ hvu
      simp only [execOp, ho, ex, Instr.field, Sem.run_bind, run_underlying hu, Result.andThen_ok, hfd, asAgg, _root_.Go.asAgg, Sem.run_pure, hr]
    · cases h
  · -- indexAddr
    rename_i t x ix ho
    replace h := bindO_some h
    obtain ⟨v, hv, h⟩ := h
    replace h := bindO_some h
    obtain ⟨u, hu, h⟩ := h
    split at h
    · rename_i e b len c k i hty
      replace h := bindO_some h
      obtain ⟨ie, hie, h⟩ := h
      replace h := needB_some h
      obtain ⟨hb, h⟩ := h
      simp only [Bool.and_eq_true, decide_eq_true_eq] at hb
      replace h := bindO_some h
      obtain ⟨⟨α, q⟩, rfl, h⟩ := h
      obtain ⟨ad, cap', ex, hn, _, h2⟩ := (E hv).slice_inv
      obtain ⟨y, rfl, hq⟩ := h2 α q rfl
      rcases hq with ⟨l, hl, rfl, _⟩ | ⟨e0, _⟩
      · refine pure1 h (x := .pointer (some ⟨l.b, l.p + (q + i.toNat * ie.size), none⟩)) ?_ (.ptr α _ l hl)
        have ei := (E hu).int_inv
        simp only [execOp, ho, ex, ei, Instr.indexAt, asIntOf, Sem.run_bind, Sem.run_pure, run_underlying hty, Result.andThen_ok]
        rw [if_pos hb]
        simp only [Sem.run_bind, run_size hie, Result.andThen_ok, Sem.run_pure, add_place]
      · omega
    · rename_i n e b k i hty
      replace h := bindO_some h
      obtain ⟨ie, hie, h⟩ := h
      replace h := needB_some h
      obtain ⟨hb, h⟩ := h
      simp only [Bool.and_eq_true, decide_eq_true_eq] at hb
      replace h := bindO_some h
      obtain ⟨⟨α, q⟩, rfl, h⟩ := h
      obtain ⟨l, hl, ex⟩ := (E hv).ptr_inv
      refine pure1 h (x := .pointer (some ⟨l.b, l.p + (q + i.toNat * ie.size), none⟩)) ?_ (.ptr α _ l hl)
      have ei := (E hu).int_inv
      simp only [execOp, ho, ex, ei, Instr.indexAt, asIntOf, Sem.run_bind, Sem.run_pure, run_underlying hty, Result.andThen_ok, Instr.sureAddr]
      rw [if_pos hb]
      simp only [Sem.run_bind, run_size hie, Result.andThen_ok, Sem.run_pure, add_place]
    · cases h
  · -- index
    rename_i t x ix ho
    replace h := bindO_some h
    obtain ⟨v, hv, h⟩ := h
    replace h := bindO_some h
    obtain ⟨u, hu, h⟩ := h
    split at h
    · rename_i str k i hty
      replace h := needB_some h
      obtain ⟨hb, h⟩ := h
      have hb := of_decide_eq_true hb
      replace h := bindO_some h
      obtain ⟨bt, hbt, h⟩ := h
      have ex := (E hv).str_inv
      have ei := (E hu).int_inv
      refine pure1 h (x := .int .u8 bt.toNat) ?_ (.int _ _)
      have hget : (⟨str.toArray⟩ : ByteArray)[i.toNat]? = some bt := by
        have hlt : i.toNat < str.length := by
          rcases Nat.lt_or_ge i.toNat str.length with h | h
          · exact h
          · rw [List.getElem?_eq_none h] at hbt; cases hbt
        have : (⟨str.toArray⟩ : ByteArray).size = str.length := by simp [ByteArray.size]
        rw [getElem?_pos _ _ (by rw [this]; exact hlt)]
        rw [List.getElem?_eq_getElem hlt] at hbt
        cases hbt
        rfl
      simp only [execOp, ho, ex, ei, Instr.index, asIntOf, Sem.run_bind, Sem.run_pure, run_underlying hty, Result.andThen_ok, hb, if_true, hget]
    · rename_i n e cs k i hty
      replace h := bindO_some h
      obtain ⟨ie, hie, h⟩ := h
      replace h := needB_some h
      obtain ⟨hb, h⟩ := h
      simp only [Bool.and_eq_true, decide_eq_true_eq] at hb
      replace h := bindO_some h
      obtain ⟨pv, hpv, h⟩ := h
      replace h := shK_some h
      obtain ⟨ys, ex, hys⟩ := (E hv).agg_inv
      have ei := (E hu).int_inv
      obtain ⟨u', hr, hvu⟩ := run_partA (P := P) (w := w) hys hpv
      refine pure1 h (x := u') ?_ hvu
      simp only [execOp, ho, ex, ei, Instr.index, asIntOf, Sem.run_bind, Sem.run_pure, run_underlying hty, Result.andThen_ok]
      rw [if_pos hb]
      simp only [Sem.run_bind, run_size hie, Result.andThen_ok, hr]
    · cases h
  · -- lookup
    rename_i t x k ok ho
    replace h := bindO_some h
    obtain ⟨mv, hmv, h⟩ := h
    replace h := bindO_some h
    obtain ⟨key, hkey, h⟩ := h
    replace h := asMap_some h
    obtain ⟨m, rfl, h⟩ := h
    split at h
    · rename_i kt et hu
      replace h := bindO_some h
      obtain ⟨z, hz, h⟩ := h
      obtain ⟨i, z', hi, hz', hzr, hzv⟩ := zeroA_sound hz
      replace h := bindO_some h
      obtain ⟨e, he, h⟩ := h
      obtain ⟨u, hr, hvu⟩ := lookA_sound (P := P) s ok (E hmv) (E hkey) (hzr w) (hzv ρ) ⟨kt, hu⟩ he
      have hrun : (execOp a.eval o).run P w = .ok (.value u) w := by simp only [execOp, ho, Sem.run_bind, hr, Result.andThen_ok, Sem.run_pure]
      split at h
      · have h := shK_some h
        exact pure1 h hrun hvu
      · exact pure1 h hrun hvu
    · cases h
  · -- mapUpdate
    rename_i t m k x ho
    replace h := bindO_some h
    obtain ⟨mv, hmv, h⟩ := h
    replace h := bindO_some h
    obtain ⟨key, hkey, h⟩ := h
    replace h := bindO_some h
    obtain ⟨v, hv, h⟩ := h
    replace h := asMap_some h
    obtain ⟨mm, rfl, h⟩ := h
    replace h := bindO_some h
    obtain ⟨M', hM, h⟩ := h
    obtain ⟨w', hr, s', e'⟩ := mapUpdA_sound (P := P) s (E hmv) (E hkey) (E hv) hM
    refine .inl ⟨_, _, h, ⟨ρ, w', .skip, undef, ?_, .inr ⟨rfl, rfl⟩, VR.undef ρ, s', e'⟩, fun h => by simp [isEff, ho] at h⟩
    simp only [execOp, ho, Sem.run_bind, hr, Result.andThen_ok, Sem.run_pure]
  · -- insert
    rename_i t m k x ho
    replace h := bindO_some h
    obtain ⟨mv, hmv, h⟩ := h
    replace h := bindO_some h
    obtain ⟨key, hkey, h⟩ := h
    replace h := bindO_some h
    obtain ⟨v, hv, h⟩ := h
    replace h := asMap_some h
    obtain ⟨mm, rfl, h⟩ := h
    replace h := bindO_some h
    obtain ⟨M', hM, h⟩ := h
    obtain ⟨w', hr, s', e'⟩ := mapUpdA_sound (P := P) s (E hmv) (E hkey) (E hv) hM
    refine .inl ⟨_, _, h, ⟨ρ, w', .skip, undef, ?_, .inr ⟨rfl, rfl⟩, VR.undef ρ, s', e'⟩, fun h => by simp [isEff, ho] at h⟩
    simp only [execOp, ho, Sem.run_bind, hr, Result.andThen_ok, Sem.run_pure]
  · -- extract
    rename_i t i ho
    replace h := bindO_some h
    obtain ⟨v, hv, h⟩ := h
    replace h := asTup_some h
    obtain ⟨vs, rfl, h⟩ := h
    replace h := bindO_some h
    obtain ⟨x, hx, h⟩ := h
    obtain ⟨ys, ex, hys⟩ := (E hv).tup_inv
    obtain ⟨y, hy, hxy⟩ := hys.get hx
    refine pure1 h (x := y) ?_ hxy
    have : ys.toArray[i]? = some y := by simpa using hy
    simp only [execOp, ho, ex, Instr.extract, this, Sem.run_bind, Sem.run_pure, Result.andThen_ok]
  · -- typeAssert
    rename_i x xt t ok ho
    replace h := bindO_some h
    obtain ⟨v, hv, h⟩ := h
    obtain ⟨res, u, h1, h2, h3⟩ := typeAssertK_sound (P := P) (w := w) (xt := xt) (E hv) h
    refine pure1 h1 ?_ h3
    simp only [execOp, ho, Sem.run_bind, h2, Result.andThen_ok, Sem.run_pure]
  · -- call
    rename_i c ho
    replace h := bindO_some h
    obtain ⟨args, hargs, h⟩ := h
    have hvl := evL_sound (a := a) hg hf hargs
    have hmap : c.args.map a.eval = (c.args.toList.map a.eval).toArray := by apply Array.ext'; simp
    split at h
    · rename_i b hc
      exact .inl (builtinK_sound s hc hvl hmap ho h)
    · rename_i recv name hc
      replace h := bindO_some h
      obtain ⟨rv, hrv, h⟩ := h
      split at h
      · rename_i t v
        replace h := bindO_some h
        obtain ⟨f, hf', h⟩ := h
        replace h := sureB_some h
        obtain ⟨he, h⟩ := h
        obtain ⟨u, ex, hvu⟩ := (E hrv).iface_inv
        refine .inr ⟨f, _, h, u :: c.args.toList.map a.eval, ?_, VL.cons hvu hvl⟩
        have hm : (method (P.types.size + Made.depth) t u name).run P w = .ok (f, u) w := run_method hf' (P.types.size + 99)
        have hx : (#[a.eval recv] ++ c.args.map a.eval)[0]? = some (.iface t u) := by rw [ex, Array.getElem?_append_left (by simp)]; rfl
        have hx2 : (#[a.eval recv] ++ c.args.map a.eval).extract 1 (#[a.eval recv] ++ c.args.map a.eval).size = c.args.map a.eval := by
          apply Array.ext'
          simp
          exact List.take_of_length_le (by simp)
        simp only [execOp, ho, resolve, hc, Sem.run_bind, Sem.run_pure, Result.andThen_ok, invoke, hx, hx2, callMethod, run_program, hm]
        rw [run_callFunc he]
        congr 2
        apply Array.ext'
        simp
      · cases h
    · rename_i x hc
      replace h := bindO_some h
      obtain ⟨fv, hfv, h⟩ := h
      split at h
      · rename_i f first captured
        obtain ⟨ys, ds, ex, h1, h2⟩ := (E hfv).func_inv
        have harr : (ys.toArray ++ c.args.map a.eval ++ ds.toArray) = (ys ++ c.args.toList.map a.eval ++ ds).toArray := by
          apply Array.ext'
          simp
        split at h
        · rename_i he
          refine .inr ⟨f, _, h, ys ++ c.args.toList.map a.eval ++ ds, ?_, (h1.append hvl).append h2⟩
          simp only [execOp, ho, resolve, hc, Sem.run_bind, ex, Deferred.ofValue, Sem.run_pure, Result.andThen_ok, invoke]
          rw [run_callFunc he, harr]
        · obtain ⟨⟨v, M'⟩, hv, h⟩ := bindO_some h
          obtain ⟨ρ', w', x, hx1, hx2, hx3, hx4⟩ := extA_sound s hv ((h1.append hvl).append h2)
          refine .inl ⟨_, _, h, ⟨_, _, _, _, ?_, .inl rfl, hx2, hx3, hx4⟩, fun h => by simp [isEff, ho, hc] at h⟩
          simp only [execOp, ho, resolve, hc, Sem.run_bind, ex, Deferred.ofValue, Sem.run_pure, Result.andThen_ok, invoke]
          rw [harr]
          exact hx1
      · cases h
  · cases h
end
end Go.Ab
