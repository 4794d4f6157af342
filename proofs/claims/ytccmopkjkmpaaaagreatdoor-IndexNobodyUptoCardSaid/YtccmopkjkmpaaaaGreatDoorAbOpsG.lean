/-
  What single operations come to, under the simulation: literals, new memory, append, copy.
-/
import Derived.Test.YtccmopkjkmpaaaaGreatDoorAbOpsF
namespace Go.Ab
set_option linter.unusedSimpArgs false
set_option linter.unusedVariables false

section
variable {P : Program} {o : Oper} {a : Act} {ρ : Loc} {M : AMem} {w : World} {β : Type} {r : β}

/-! ### literals of aggregates -/
theorem foldl_cells (off : Nat) : ∀ (l : List Value) (k : Nat) (C : Array Value), off + k + l.length ≤ C.size →
    ((l.zipIdx k).foldl (fun (cs : Array Value) (p : Value × Nat) => cs.setIfInBounds (off + p.2) p.1) C).toList = C.toList.take (off + k) ++ l ++ C.toList.drop (off + k + l.length)
  | [], k, C, _ => by simp
  | v :: l, k, C, h => by
    simp only [List.zipIdx_cons, List.foldl_cons]
    rw [foldl_cells off l (k + 1) _ (by simp at h ⊢; omega)]
    have e := list_seg_step C.toList (off + k) v l (by simp at h ⊢; omega)
    simpa [Array.toList_setIfInBounds, Nat.add_assoc] using e

theorem VL.splice0 {c vs : List AV} {C ys : List Value} {o : Nat} (h : VL ρ c C) (hv : VL ρ vs ys) (ho : o + vs.length ≤ c.length) : VL ρ (c.take o ++ vs ++ c.drop (o + vs.length)) (C.take o ++ ys ++ C.drop (o + ys.length)) :=
  by rw [← hv.1]; exact ((h.take o).append hv).append (h.drop _)

theorem fillA_sound {place : Nat → Option (Nat × Nat)} : ∀ {ps : List (Nat × AV)} {qs : List (Nat × Value)} {cells cs : List AV} {C : Array Value}, PL ρ ps qs → VL ρ cells C.toList → fillA place cells ps = some cs →
    ∃ D, Instr.fill place C qs = some D ∧ VL ρ cs D.toList := by
  intro ps
  induction ps with
  | nil =>
    intro qs cells cs C hp hv h
    have : qs = [] := List.eq_nil_of_length_eq_zero hp.1.symm
    subst this
    simp only [fillA, Option.some.injEq] at h
    subst h
    exact ⟨C, rfl, hv⟩
  | cons p ps ih =>
    intro qs cells cs C hp hv h
    cases qs with
    | nil => have := hp.1; simp at this
    | cons q qs =>
      obtain ⟨e1, e2⟩ := hp.2 0 p q rfl rfl
      obtain ⟨i, x⟩ := p
      obtain ⟨j, y⟩ := q
      simp only at e1 e2
      subst e1
      simp only [fillA] at h
      split at h
      · cases h
      · rename_i off size hpl
        split at h
        · cases h
        · rename_i hsz
          have hsz : x.cells.length = size := by simpa using hsz
          split at h
          · rename_i cs' hput
            unfold putAt at hput
            split at hput
            · rename_i hle
              cases hput
              have hyc := e2.cells
              have hyl : y.cells.size = size := by have := hyc.1; simpa [hsz] using this.symm
              have hCl : cells.length = C.size := by simpa using hv.1
              have hfold : (y.cells.zipIdx.foldl (fun cs (c, j) => cs.setIfInBounds (off + j) c) C).toList = C.toList.take off ++ y.cells.toList ++ C.toList.drop (off + y.cells.toList.length) := by
                have := foldl_cells off y.cells.toList 0 C (by simp [hyl]; omega)
                simp only [Nat.add_zero] at this
                rw [← this]
                congr 1
                rw [← Array.foldl_toList, Array.toList_zipIdx]
              have hv' : VL ρ (cells.take off ++ x.cells ++ cells.drop (off + x.cells.length)) (y.cells.zipIdx.foldl (fun cs (c, j) => cs.setIfInBounds (off + j) c) C).toList := by
                rw [hfold]
                exact hv.splice0 hyc hle
              obtain ⟨D, hD, hvD⟩ := ih hp.tail hv' h
              refine ⟨D, ?_, hvD⟩
              simp only [Instr.fill, hpl]
              rw [if_neg (by simp [hyl]; omega)]
              exact hD
            · cases hput
          · cases h

theorem repA_get {zs : List AV} : ∀ (n i : Nat), (repA zs n)[i]? = if i < n * zs.length then zs[i % zs.length]? else none
  | 0, i => by simp [repA]
  | n + 1, i => by
    simp only [repA]
    by_cases h : i < zs.length
    · rw [List.getElem?_append_left h, Nat.mod_eq_of_lt h, if_pos (by rw [Nat.add_mul]; omega)]
    · rw [List.getElem?_append_right (by omega), repA_get n (i - zs.length)]
      have e : (i - zs.length) % zs.length = i % zs.length := by rw [← Nat.mod_eq_sub_mod (by omega)]
      rw [e]
      by_cases h2 : i - zs.length < n * zs.length
      · rw [if_pos h2, if_pos (by rw [Nat.add_mul]; omega)]
      · rw [if_neg h2, if_neg (by rw [Nat.add_mul]; omega)]

theorem repA_length {zs : List AV} : ∀ n, (repA zs n).length = n * zs.length
  | 0 => by simp [repA]
  | n + 1 => by simp [repA, repA_length n, Nat.add_mul]; omega

theorem rep_sound {zs : List AV} {Z : Array Value} (h : VL ρ zs Z.toList) (n : Nat) : VL ρ (repA zs n) (((Array.range (n * Z.size)).map (Z[· % Z.size]!)).toList) := by
  have hl : zs.length = Z.size := by simpa using h.1
  refine ⟨by simp [repA_length, hl], fun i x y hx hy => ?_⟩
  rw [repA_get] at hx
  split at hx
  · rename_i hi
    have hpos : 0 < zs.length := by
      rcases Nat.eq_zero_or_pos zs.length with e | e
      · rw [e] at hi; simp at hi
      · exact e
    have hm : i % Z.size < Z.size := Nat.mod_lt _ (by omega)
    rw [hl] at hx
    have hy' : (Z[i % Z.size]!) = y := by
      have : i < n * Z.size := by rw [← hl]; exact hi
      simp [List.getElem?_map, List.getElem?_range, this] at hy
      exact hy
    refine h.2 (i % Z.size) x y hx ?_
    rw [← hy']
    simp [hm]
  · cases hx

theorem run_placesA : ∀ {fs : List Field} {pl : List (Nat × Nat)}, placesA P fs = some pl → fs.mapM (fun f => (P.info? f.type).map fun i => (f.offset, i.size)) = some pl
  | [], pl, h => by simp only [placesA, Option.some.injEq] at h; subst h; rfl
  | f :: fs, pl, h => by
    simp only [placesA] at h
    split at h
    · rename_i i rr hi hr
      cases h
      have := run_placesA hr
      simp [List.mapM_cons, hi, this]
    · cases h

/-! ### new memory -/
theorem allocCl_of {t u : TypeId} (h : allocCl P t = .of u) : t = u := by
  unfold allocCl at h
  split at h
  · split at h
    · split at h
      · split at h
        · cases h; rfl
        · cases h
      · cases h
    · cases h
  · cases h

theorem allocCl_fz {t u : TypeId} {n : Nat} (h : allocCl P t = .fz u n) : False := by
  unfold allocCl at h
  split at h
  · split at h
    · split at h
      · split at h <;> cases h
      · cases h
    · cases h
  · cases h

/-- what one of the operations that make a block does, at whatever world -/
theorem allocA_sound {nt : Nat} {fr : Fr} (hg : GlobR P ρ) (hf : FrR ρ nt fr a.tmps) {B : ABlk} {f : Nat → AV} (h : allocA P fr o = some (B, f)) :
    ∃ (ob : Obj) (g : Nat → Value), (∀ w, (execOp a.eval o).run P w = .ok (.value (g w.heap.size)) (w.alloc ob)) ∧
      ∀ (ρ' : Loc) (α : Nat) (l : Pl) (w : World), ρ.le ρ' → ρ' α = some l → l.b = w.heap.size → l.p = 0 → VR ρ' (f α) (g w.heap.size) ∧ BlkR ρ' (w.alloc ob) B l := by
  have cellsCl : ∀ (cl : Cl) {xs : List AV} {C : Array Value} {e : TypeId} {ρ' : Loc} {l : Pl} {w : World}, (∀ t, cl = .of t → e = t) → (∀ t n, cl = .fz t n → e = t) → VL ρ xs C.toList → ρ.le ρ' → l.b = w.heap.size → l.p = 0 → BlkR ρ' (w.alloc (.cells C e)) (.cells xs 0 cl) l :=
    fun cl {xs C e ρ' l w} hcl hclz hv hle hb hp => by
      have := BlkR.newCells (ρ := ρ') (w := w) (xs := xs) (C := C.toList) 0 cl e l hcl hclz hb hp (by rw [List.take_of_length_le (by rw [hv.1]; exact Nat.le_refl _)]; exact hv.mono hle) (fun h => absurd rfl h)
      simpa using this
  have cellsCase : ∀ {xs : List AV} {C : Array Value} {e : TypeId} {ρ' : Loc} {l : Pl} {w : World}, VL ρ xs C.toList → ρ.le ρ' → l.b = w.heap.size → l.p = 0 → BlkR ρ' (w.alloc (.cells C e)) (.cells xs 0 .yes) l :=
    fun hv hle hb hp => cellsCl .yes (fun t h => by cases h) (fun t n h => by cases h) hv hle hb hp
  unfold allocA at h
  split at h
  · rename_i t ho
    simp only [Option.map_eq_some_iff] at h
    obtain ⟨z, hz, e⟩ := h
    cases e
    obtain ⟨i, z', hi, hz', hzr, hzv⟩ := zeroA_sound hz
    refine ⟨.cells z'.cells t, fun n => .pointer (some ⟨n, 0, none⟩), fun w => ?_, fun ρ' α l w hle hl hb hp => ⟨?_, cellsCl (allocCl P t) (fun u hu => allocCl_of hu) (fun u n hu => (allocCl_fz hu).elim) (hzv ρ).cells hle hb hp⟩⟩
    · simp only [execOp, ho, Instr.alloc, Sem.run_bind, hzr, Result.andThen_ok, newVar, newRow, run_newObj, Sem.run_pure]
      rfl
    · have := VR.ptr (ρ := ρ') α 0 l hl
      rw [hb, hp] at this
      exact this
  · rename_i t x ho
    simp only [Option.map_eq_some_iff] at h
    obtain ⟨v, hv, e⟩ := h
    cases e
    have hvr := evA_sound hg hf hv
    refine ⟨.cells (a.eval x).cells t, fun n => .pointer (some ⟨n, 0, none⟩), fun w => ?_, fun ρ' α l w hle hl hb hp => ⟨?_, cellsCase hvr.cells hle hb hp⟩⟩
    · simp only [execOp, ho, Instr.box, Sem.run_bind, Result.andThen_ok, newVar, newRow, run_newObj, Sem.run_pure]
      rfl
    · have := VR.ptr (ρ := ρ') α 0 l hl
      rw [hb, hp] at this
      exact this
  · rename_i t len parts ho
    split at h
    · rename_i e ps hu hps
      split at h
      · rename_i ie z hie hz
        split at h
        · rename_i hc
          simp only [Option.map_eq_some_iff] at h
          obtain ⟨cs, hcs, e'⟩ := h
          cases e'
          obtain ⟨i, z', hi, hz', hzr, hzv⟩ := zeroA_sound hz
          rw [hie] at hi; cases hi
          have hzl : z'.cells.size = ie.size := by have := (hzv ρ).cells.1; simpa [hc.1] using this.symm
          have hpl := evParts_sound hg hf hps
          have hrep := rep_sound (ρ := ρ) (hzv ρ).cells len
          rw [hzl] at hrep
          obtain ⟨D, hD, hvD⟩ := fillA_sound (place := fun i => some (i * ie.size, ie.size)) hpl hrep hcs
          refine ⟨.cells D e, fun n => .slice (some ⟨n, 0, none⟩) len len, fun w => ?_, fun ρ' α l w hle hl hb hp => ⟨?_, cellsCase hvD hle hb hp⟩⟩
          · have hn : ¬ (len * ie.size > 2 ^ 24) := by have := hc.2.1; omega
            have hpt : (parts.map fun (i, x) => (i, a.eval x)).toList = parts.toList.map fun p => (p.1, a.eval p.2) := by simp
            simp only [execOp, ho, Instr.buildSlice, Sem.run_bind, run_underlying hu, Result.andThen_ok, run_size hie, hn, if_false]
            by_cases h0 : len * ie.size = 0
            · simp only [h0, if_true, Sem.run_bind, Sem.run_pure, Result.andThen_ok]
              rw [h0] at hD
              have e0 : (Array.map (fun x => (#[] : Array Value)[x % (#[] : Array Value).size]!) (Array.range 0)) = (Array.range 0).map (fun x => z'.cells[x % ie.size]!) := by simp
              rw [e0, hpt, hD]
              simp only [Sem.run_bind, newRow, run_newObj, Sem.run_pure, Result.andThen_ok]
              rfl
            · simp only [h0, if_false, Sem.run_bind, hzr, Sem.run_pure, Result.andThen_ok]
              rw [hpt, hzl, hD]
              simp only [Sem.run_bind, newRow, run_newObj, Sem.run_pure, Result.andThen_ok]
              rfl
          · have := VR.sl (ρ := ρ') α 0 len (some len) l len hl (Nat.le_refl _) (.inl rfl)
            rw [hb, hp] at this
            exact this
        · cases h
      · cases h
    · cases h
  · rename_i t x ho
    split at h
    · cases h
      refine ⟨.map #[] 0, fun n => .map (some n), fun w => ?_, fun ρ' α l w hle hl hb hp => ⟨?_, ?_⟩⟩
      · simp only [execOp, ho, Option.map_none, Instr.makeMap, Sem.run_bind, Result.andThen_ok, run_newObj, Sem.run_pure]
        rfl
      · have := VR.map (ρ := ρ') α l hl
        rw [hb] at this
        exact this
      · exact .map [] 0 l [] (by rw [hb]; exact heap_alloc_new w _) rfl (fun i e E h => by simp at h)
    · rename_i hx
      split at h
      · rename_i kt et kd n hu hn
        cases h
        have hvr := evA_sound hg hf hn
        refine ⟨.map #[] 0, fun n => .map (some n), fun w => ?_, fun ρ' α l w hle hl hb hp => ⟨?_, ?_⟩⟩
        · simp only [execOp, ho, Option.map_some, hvr.int_inv, Instr.makeMap, Sem.run_bind, run_underlying hu, _root_.Go.asInt, asIntOf, Result.andThen_ok, run_newObj, Sem.run_pure]
          rfl
        · have := VR.map (ρ := ρ') α l hl
          rw [hb] at this
          exact this
        · exact .map [] 0 l [] (by rw [hb]; exact heap_alloc_new w _) rfl (fun i e E h => by simp at h)
      · cases h
  · rename_i t lo co ho
    split at h
    · rename_i e k1 ln k2 cp hu hl' hc'
      split at h
      · rename_i ie z hie hz
        split at h
        · rename_i hc
          obtain ⟨c1, c2, c3, c4, c5⟩ := hc
          cases h
          obtain ⟨i, z', hi, hz', hzr, hzv⟩ := zeroA_sound hz
          rw [hie] at hi; cases hi
          have hzl : z'.cells.size = ie.size := by have := (hzv ρ).cells.1; simpa [c1] using this.symm
          have hlv := (evA_sound hg hf hl').int_inv
          have hcv := (evA_sound hg hf hc').int_inv
          have hrep := rep_sound (ρ := ρ) (hzv ρ).cells cp.toNat
          rw [hzl] at hrep
          refine ⟨.cells ((Array.range (cp.toNat * ie.size)).map (z'.cells[· % ie.size]!)) e, fun n => .slice (some ⟨n, 0, none⟩) ln.toNat cp.toNat, fun w => ?_, fun ρ' α l w hle hl hb hp => ⟨?_, cellsCase hrep hle hb hp⟩⟩
          · have w1 : IntKind.i64.wrap ln = ln := by simp [IntKind.wrap, IntKind.bits, IntKind.signed]; omega
            have w2 : IntKind.i64.wrap cp = cp := by simp [IntKind.wrap, IntKind.bits, IntKind.signed]; omega
            have hroom : (ie.bytes : Int) * cp ≤ 140737488355328 := by
              have h1 : (cp.toNat : Int) = cp := Int.toNat_of_nonneg (by omega)
              have h2 : ((cp.toNat * ie.bytes : Nat) : Int) ≤ (roomA : Int) := Int.ofNat_le.2 c5
              rw [Int.natCast_mul, h1, Int.mul_comm] at h2
              have h3 : (roomA : Int) = 140737488355328 := rfl
              omega
            have hno : ¬ (((decide (cp < 0) || decide ((ie.bytes : Int) * cp > 2 ^ 48)) = true ∨ ln < 0) ∨ ln > cp) := by
              simp only [Bool.or_eq_true, decide_eq_true_eq]
              omega
            simp only [execOp, ho, hlv, hcv, Instr.makeSlice, Sem.run_bind, run_underlying hu, _root_.Go.asInt, asIntOf, Sem.run_pure, Result.andThen_ok, run_typeInfo _ hie, w1, w2, run_askRoom, run_size hie]
            simp only [Bool.or_eq_true, decide_eq_true_eq] at hno ⊢
            rw [if_neg hno]
            simp only [Sem.run_bind, run_askRoom, Result.andThen_ok, run_size hie]
            by_cases h0 : cp.toNat * ie.size = 0
            · have e0 : (Array.map (fun x => (#[] : Array Value)[x % (#[] : Array Value).size]!) (Array.range 0)) = (Array.range 0).map (fun x => z'.cells[x % ie.size]!) := by simp
              simp only [h0, if_true, Sem.run_bind, Sem.run_pure, Result.andThen_ok, newRow, run_newObj]
              rw [e0]
              rfl
            · simp only [h0, if_false, Sem.run_bind, hzr, Sem.run_pure, Result.andThen_ok, newRow, run_newObj, hzl]
              rfl
          · have := VR.sl (ρ := ρ') α 0 ln.toNat (some cp.toNat) l cp.toNat hl (by omega) (.inl rfl)
            rw [hb, hp] at this
            exact this
        · cases h
      · cases h
    · cases h
  · cases h
end
end Go.Ab
