/-
  A reader of noughts.
-/
import Derived.Test.YtfpgakjikmakkaaGreatDoorTrEq
import Derived.Test.YtfpgakjikmakkaaGreatDoorTrWay
namespace Go.Proofs.YtfpgakjikmakkaaGreatDoor
open Go.Ab
set_option linter.unusedVariables false
set_option linter.unusedSimpArgs false
set_option linter.unusedSectionVars false
set_option maxRecDepth 100000

/-- a reader that is at place o of noughts -/
structure RdIs (M : AMem) (r b o l Y : Nat) : Prop where
  get : M.get r = some (.cells [.slice (some (b, o)) l none, .int .i64 0] 0 .yes)
  cells : M.get b = some (.cells (repA [.int .u8 0] Y) 1 (.of 5))
  sum : o + l = Y
  lt : r < M.next
  blt : b < r

theorem RdIs.keeps {M M' : AMem} {r b o l Y : Nat} (h : RdIs M r b o l Y) {x : Nat} (k : Keeps x M M') (hx : r < x) : RdIs M' r b o l Y :=
  ⟨by rw [k.get _ hx]; exact h.get, by rw [k.get _ (by have := h.blt; omega)]; exact h.cells, h.sum, Nat.lt_of_lt_of_le h.lt k.next, h.blt⟩

theorem b5is : Tryz.prog.types[5].bytes = 1 := by kernel_rfl

theorem rep_flat (n : Nat) : (repA [.int .u8 0] n).all flatA = true := by
  induction n with
  | zero => rfl
  | succ n ih => simpa [repA, flatA] using ih

theorem copy_noughts {M : AMem} {b o l Y d i : Nat} (hb : M.get b = some (.cells (repA [.int .u8 0] Y) 1 (.of 5))) (hd : M.get d = some (.cells (repA [.int .u8 0] i) 0 .yes)) (h1 : o + l = Y) (h2 : 1 ≤ i) (h3 : i ≤ l) :
    copyA Tryz.prog M 65 (some (d, 0)) i (.slice (some (b, o)) l none) = some (i, M.set d (.cells (repA [.int .u8 0] i) 0 .yes)) := by
  obtain ⟨ie, hie, his, hib⟩ := i5
  have hmin : min l i = i := Nat.min_eq_right h3
  have hsrc : srcCells M 1 i (.slice (some (b, o)) l none) = some (repA [.int .u8 0] i) := by
    unfold srcCells
    simp only [if_pos h3, show ¬ i = 0 by omega, if_false]
    unfold cellsFrom
    rw [show M.row (b, o).1 = some (repA [.int .u8 0] Y) from row_cells hb]
    simp only [Nat.mul_one]
    rw [if_pos (show o + i ≤ (repA [AV.int .u8 0] Y).length by rw [repA_length]; simp; omega), rep_cut _ _ _ _ (by omega)]
  have hlen : (repA [AV.int .u8 0] i).length = i := by rw [repA_length]; simp
  have hput : putAt (repA [.int .u8 0] i) 0 (repA [.int .u8 0] i) = some (repA [.int .u8 0] i) := by
    unfold putAt
    rw [if_pos (by omega)]
    simp
  unfold copyA
  simp only [u88, srcLen, hie, his, hmin, hsrc, hd, rep_flat, if_true, hput, show ¬ i = 0 by omega, if_false]
  rfl

section
variable {H : Hook} (hF : Free H)
include hF

theorem wopen_run {M : AMem} {b Y : Nat} (gb : M.get b = some (.cells (repA [.int .u8 0] Y) 1 (.of 5))) (hb : b < M.next) (y1 : 1 ≤ Y) (y2 : Y ≤ 65536) {m : Nat} (hm : 2 ≤ m) :
    ∃ M' r b', acall Tryz.prog H m 71 [.slice (some (b, 0)) Y none] M = some (.ptr (some (r, 0)), M') ∧ RdIs M' r b' 0 Y Y ∧ M.next ≤ b' ∧ Keeps M.next M M' := by
  obtain ⟨m, rfl⟩ : ∃ k, m = k + 1 := ⟨m - 1, by omega⟩
  let M1 : AMem := M.new (.cells [] 0 .yes)
  let M2 : AMem := M1.new (.cells (((repA [.int .u8 0] Y).drop 0).take Y) 1 (.of 5))
  let M3 : AMem := M2.new (.cells [.slice (some (M.next + 1, 0)) Y none, .int .i64 0] 0 .yes)
  refine ⟨M3, M.next + 2, M.next + 1, ?_, ⟨?_, ?_, by omega, Nat.lt_succ_self _, Nat.lt_succ_self _⟩, Nat.le_succ _, ((Keeps.new (M := M) _ (Nat.le_refl _)).trans (Keeps.new (M := M1) _ (Nat.le_succ _)) (Nat.le_refl _)).trans (Keeps.new (M := M2) _ (by show M.next ≤ M.next + 1 + 1; omega)) (Nat.le_refl _)⟩
  · rw [acall_run Tryz.func71 (hF 71 rfl), wopen_eq, clone_run hF (M := M) (img := b) (o := 0) (l := Y) (q := none) (row_cells gb) hb y1 y2 (by rw [repA_length]; simp) (m := m) (by omega)]
    rfl
  · show (M2.new _).get _ = _
    rw [AMem.get_new, if_pos (show M.next + 2 = M2.next from rfl)]
  · show (M2.new _).get _ = _
    rw [AMem.get_new, if_neg (show ¬ M.next + 1 = M2.next by show ¬ M.next + 1 = M.next + 1 + 1; omega)]
    show (M1.new _).get _ = _
    rw [AMem.get_new, if_pos (show M.next + 1 = M1.next from rfl), rep_cut _ _ _ _ (by omega)]

theorem raw_run {M : AMem} {r b o l Y i : Nat} (h : RdIs M r b o l Y) (i1 : 1 ≤ i) (i2 : i < l) (i3 : i ≤ 100) {m : Nat} (hm : 1 ≤ m) :
    ∃ M', acall Tryz.prog H m 117 [.ptr (some (r, 0)), .int .i64 (i : Int)] M = some (.slice (some (M.next, 0)) i (some i), M') ∧ RdIs M' r b (o + i) (l - i) Y ∧ M'.get M.next = some (.cells (repA [.int .u8 0] i) 0 .yes) ∧ M'.next = M.next + 1 ∧ ∀ t, t < M.next → t ≠ r → M'.get t = M.get t := by
  obtain ⟨m, rfl⟩ : ∃ k, m = k + 1 := ⟨m - 1, by omega⟩
  have hsum := h.sum
  have hlt := h.lt
  have hblt := h.blt
  let M1 : AMem := M.new (.cells (repA [.int .u8 0] i) 0 .yes)
  let M2 : AMem := M1.set M.next (.cells (repA [.int .u8 0] i) 0 .yes)
  let M3 : AMem := M2.set r (.cells [.slice (some (b, o + i)) (l - i) none, .int .i64 0] 0 .yes)
  have e1 : ∀ t, t < M.next → M1.get t = M.get t := fun t ht => by show (M.new _).get t = _; rw [AMem.get_new, if_neg (by omega)]
  have e2 : ∀ t, t < M.next → M2.get t = M.get t := fun t ht => by show (M1.set _ _).get t = _; rw [AMem.get_set, if_neg (by omega), e1 t ht]
  have e3 : ∀ t, t < M.next → t ≠ r → M3.get t = M.get t := fun t ht h1 => by show (M2.set _ _).get t = _; rw [AMem.get_set, if_neg h1, e2 t ht]
  refine ⟨M3, ?_, ⟨by show (M2.set _ _).get _ = _; rw [AMem.get_set, if_pos rfl], by rw [e3 _ (by omega) (by omega)]; exact h.cells, by omega, Nat.lt_succ_of_lt hlt, hblt⟩, ?_, rfl, e3⟩
  · rw [acall_run Tryz.func117 (hF 117 rfl), raw_eq, row_cells h.get]
    simp only [bO, List.getElem?_cons_zero, List.getElem?_cons_succ, aI, aL]
    rw [show (!eqI 0 0) = false from rfl, iF, ltI_eq, decide_eq_false (show ¬ (i : Int) < 0 by omega), iF, ltI_eq, decide_eq_false (show ¬ (l : Int) < (i : Int) by omega), iF]
    simp only [b5is, Int.toNat_natCast, Nat.mul_one]
    rw [decide_eq_true (show (0 : Int) ≤ (i : Int) by omega), decide_eq_true (Int.le_refl (i : Int)), decide_eq_true (show (i : Int) ≤ 140737488355328 by omega), decide_eq_true (show i ≤ 140737488355328 by omega)]
    simp only [Bool.and_self, nT]
    rw [show (M.new (ABlk.cells (repA [AV.int .u8 0] i) 0 Cl.yes)).row r = _ from row_cells ((e1 r hlt).trans h.get)]
    simp only [bO, List.getElem?_cons_zero, aL]
    rw [show copyA Tryz.prog (M.new (ABlk.cells (repA [AV.int .u8 0] i) 0 Cl.yes)) 65 (some (M.next, 0)) i (.slice (some (b, o)) l none) = some (i, M2) from copy_noughts (M := M1) ((e1 b (by omega)).trans h.cells) (by show (M.new _).get _ = _; rw [AMem.get_new, if_pos rfl]) h.sum i1 (by omega)]
    simp only [bO]
    rw [row_cells ((e2 r hlt).trans h.get)]
    simp only [bO, List.getElem?_cons_zero, aL, eN]
    rw [if_pos (show i ≤ l ∧ l ≤ l from ⟨by omega, Nat.le_refl _⟩), if_neg (show ¬ i = 0 by omega), if_neg (show ¬ i = l by omega)]
    rw [(e2 b (by omega)).trans h.cells]
    simp only [bO, Nat.mul_one]
    rw [if_pos (show _ by rfl)]
    simp only [bO]
    rw [(e2 r hlt).trans h.get, gC]
    rfl
  · show (M2.set _ _).get _ = _
    rw [AMem.get_set, if_neg (by omega)]
    show (M1.set _ _).get _ = _
    rw [AMem.get_set, if_pos rfl]
end
end Go.Proofs.YtfpgakjikmakkaaGreatDoor

/-
  Numbers and noughts read of noughts.
-/
namespace Go.Proofs.YtfpgakjikmakkaaGreatDoor
open Go.Ab
set_option linter.unusedVariables false
set_option linter.unusedSimpArgs false
set_option linter.unusedSectionVars false
set_option maxRecDepth 100000

theorem rep1_get (z : AV) (n j : Nat) (h : j < n) : (repA [z] n)[j]? = some z := by
  rw [repA_get, if_pos (by simpa using h)]
  simp [Nat.mod_one]

section
variable {H : Hook} (hF : Free H)
include hF

theorem num_loop {M : AMem} {d L m : Nat} {x2 : Int} {x1 : Option (Nat × Nat)} (hd : M.get d = some (.cells (repA [.int .u8 0] L) 0 .yes)) (hL : L ≤ 100) : ∀ (k j q : Nat), j + k = L → k < q →
    runLoop Tryz.prog H Tryz.f72 0 [0, 1, 4, 5, 13, 14, 15] m q (mkFr [(0, .ptr x1), (1, .int .i64 x2), (4, .int .u64 0), (5, .int .u64 0), (13, .slice (some (d, 0)) L (some L)), (14, .int .i64 (L : Int)), (15, .int .i64 (j : Int))]) M (afterLoop Tryz.prog H Tryz.f72 0 m) = some (.int .u64 0, M) := by
  intro k
  induction k with
  | zero =>
    intro j q hj hq
    obtain ⟨q, rfl⟩ : ∃ x, q = x + 1 := ⟨q - 1, by omega⟩
    rw [runLoop_succ, numL_body, ltI_eq, decide_eq_false (by omega), iF, onward_exit, numL_end0]
  | succ k ih =>
    intro j q hj hq
    obtain ⟨q, rfl⟩ : ∃ x, q = x + 1 := ⟨q - 1, by omega⟩
    rw [runLoop_succ, numL_body, ltI_eq, decide_eq_true (show (j : Int) < (L : Int) by omega), iT, decide_eq_true (show (0 : Int) ≤ (j : Int) by omega)]
    simp only [Bool.and_self, nT, bO, row_cells hd, Int.toNat_natCast, Nat.mul_one, Nat.zero_add, rep1_get _ _ _ (show j < L by omega), aI, forceI_eq]
    rw [wrap_i64 (x := (j : Int) + 1) (by omega) (by omega), onward_normal]
    exact ih (j + 1) q (by omega) (by omega)

theorem num_run {M : AMem} {r b o l Y i : Nat} (h : RdIs M r b o l Y) (hi : i = 1 ∨ i = 2) (i2 : i < l) {m : Nat} (hm : 10 ≤ m) :
    ∃ M', acall Tryz.prog H m 72 [.ptr (some (r, 0)), .int .i64 (i : Int)] M = some (.int .u64 0, M') ∧ RdIs M' r b (o + i) (l - i) Y ∧ M.next ≤ M'.next ∧ ∀ t, t < M.next → t ≠ r → M'.get t = M.get t := by
  obtain ⟨m, rfl⟩ : ∃ k, m = k + 1 := ⟨m - 1, by omega⟩
  obtain ⟨M1, r1, h1, g1, n1, k1⟩ := raw_run hF h (i := i) (by omega) i2 (by omega) (m := m) (by omega)
  have hw : acall Tryz.prog H m 116 [.int .i64 (i : Int)] M = some (.bool true, M) := by
    obtain ⟨m, rfl⟩ : ∃ k, m = k + 1 := ⟨m - 1, by omega⟩
    rw [acall_run Tryz.func116 (hF 116 rfl), wright_eq]
    rcases hi with rfl | rfl <;> rfl
  refine ⟨M1, ?_, h1, by omega, k1⟩
  rw [acall_run Tryz.func72 (hF 72 rfl), num_eq, hw]
  simp only [bO, aB, Bool.not_true, iF]
  rw [r1]
  simp only [bO, aL]
  exact num_loop hF g1 (by omega) i 0 m (by omega) (by omega)

theorem indexf_loop {M : AMem} {d L m : Nat} (hd : M.get d = some (.cells (repA [.int .u8 0] L) 0 .yes)) (hL : L ≤ 100) (hm : 1 ≤ m) : ∀ (k j q : Nat), j + k = L → k < q →
    runLoop Tryz.prog H Tryz.f151 0 [0, 1, 4, 7, 8] m q (mkFr [(0, .slice (some (d, 0)) L (some L)), (1, .func (.func 119) [] []), (4, .int .i64 0), (7, .int .i64 (L : Int)), (8, .int .i64 (j : Int))]) M (afterLoop Tryz.prog H Tryz.f151 0 m) = some (.int .i64 (-1), M) := by
  intro k
  induction k with
  | zero =>
    intro j q hj hq
    obtain ⟨q, rfl⟩ : ∃ x, q = x + 1 := ⟨q - 1, by omega⟩
    rw [runLoop_succ, indexfL_body, ltI_eq, decide_eq_false (by omega), iF, onward_exit, indexfL_end0]
  | succ k ih =>
    intro j q hj hq
    obtain ⟨q, rfl⟩ : ∃ x, q = x + 1 := ⟨q - 1, by omega⟩
    have hz : acall Tryz.prog H m 119 [.int .u8 0] M = some (.bool false, M) := by
      obtain ⟨m, rfl⟩ : ∃ k, m = k + 1 := ⟨m - 1, by omega⟩
      rw [acall_run Tryz.func119 (hF 119 rfl), zerosf_eq]
      rfl
    rw [runLoop_succ, indexfL_body, ltI_eq, decide_eq_true (show (j : Int) < (L : Int) by omega), iT, decide_eq_true (show (0 : Int) ≤ (j : Int) by omega)]
    simp only [Bool.and_self, nT, bO, row_cells hd, Int.toNat_natCast, Nat.mul_one, Nat.zero_add, rep1_get _ _ _ (show j < L by omega), aI]
    rw [hz]
    simp only [bO, aB, iF, forceI_eq]
    rw [wrap_i64 (x := (j : Int) + 1) (by omega) (by omega), onward_normal]
    exact ih (j + 1) q (by omega) (by omega)

theorem zeros_run {M : AMem} {r b o l Y i : Nat} (h : RdIs M r b o l Y) (hi : i = 1 ∨ i = 2) (i2 : i < l) {m : Nat} (hm : 10 ≤ m) :
    ∃ M', acall Tryz.prog H m 73 [.ptr (some (r, 0)), .int .i64 (i : Int)] M = some (.tup [], M') ∧ RdIs M' r b (o + i) (l - i) Y ∧ M.next ≤ M'.next ∧ ∀ t, t < M.next → t ≠ r → M'.get t = M.get t := by
  obtain ⟨m, rfl⟩ : ∃ k, m = k + 1 := ⟨m - 1, by omega⟩
  obtain ⟨M1, r1, h1, g1, n1, k1⟩ := raw_run hF h (i := i) (by omega) i2 (by omega) (m := m) (by omega)
  refine ⟨M1, ?_, h1, by omega, k1⟩
  have hc : acall Tryz.prog H m 118 [.slice (some (M.next, 0)) i (some i), .func (.func 119) [] []] M1 = some (.bool false, M1) := by
    obtain ⟨m, rfl⟩ : ∃ k, m = k + 1 := ⟨m - 1, by omega⟩
    rw [acall_run Tryz.func118 (hF 118 rfl), contains_eq]
    have hi2 : acall Tryz.prog H m 151 [.slice (some (M.next, 0)) i (some i), .func (.func 119) [] []] M1 = some (.int .i64 (-1), M1) := by
      obtain ⟨m, rfl⟩ : ∃ k, m = k + 1 := ⟨m - 1, by omega⟩
      rw [acall_run Tryz.func151 (hF 151 rfl), indexf_eq]
      exact indexf_loop hF g1 (by omega) (by omega) i 0 m (by omega) (by omega)
    rw [hi2]
    rfl
  rw [acall_run Tryz.func73 (hF 73 rfl), zeros_eq, r1]
  simp only [bO, aL]
  rw [hc]
  simp only [bO, aB, iF]

theorem rerr_run {M : AMem} {r b o l Y : Nat} (h : RdIs M r b o l Y) {m : Nat} (hm : 1 ≤ m) : acall Tryz.prog H m 76 [.ptr (some (r, 0))] M = some (.int .i64 0, M) := by
  obtain ⟨m, rfl⟩ : ∃ k, m = k + 1 := ⟨m - 1, by omega⟩
  rw [acall_run Tryz.func76 (hF 76 rfl), rerr_eq, row_cells h.get]
  simp only [bO, List.getElem?_cons_zero, List.getElem?_cons_succ, aI]
end
end Go.Proofs.YtfpgakjikmakkaaGreatDoor

/-
  A block of noughts is no node: Decode tells ErrCorrupt of it.
-/
namespace Go.Proofs.YtfpgakjikmakkaaGreatDoor
open Go.Ab
set_option linter.unusedVariables false
set_option linter.unusedSimpArgs false
set_option linter.unusedSectionVars false
set_option maxRecDepth 100000

/-- a node of a Level, with nothing in it -/
abbrev N5 (k : Int) : List AV := [.int .i64 k, .slice none 0 (some 0), .slice none 0 (some 0), .slice none 0 (some 0), .slice none 0 (some 0)]

theorem beqN5 : beqA 9 (.agg (N5 (-1))) (.agg (N5 (-1))) = true := by kernel_rfl

theorem put5 {X : AMem} {p : Nat} {a b c d e : AV} (h : X.get p = some (.cells [a, b, c, d, e] 0 .yes)) (a' b' c' d' e' : AV) :
    (getCells (X.get p) fun c sz cl => bindO (if 0 + 5 ≤ c.length then some (a' :: b' :: c' :: d' :: e' :: List.drop (0 + 5) c) else none) fun a => needB ((Cl.fzn cl).ble 0) (some (X.set p (ABlk.cells a sz cl)))) = some (X.set p (.cells [a', b', c', d', e'] 0 .yes)) := by
  rw [h]; rfl

theorem put3 {X : AMem} {p : Nat} {a b c : AV} (h : X.get p = some (.cells [a, b, c] 0 .yes)) (a' b' c' : AV) :
    (getCells (X.get p) fun c sz cl => bindO (if 0 + 3 ≤ c.length then some (a' :: b' :: c' :: List.drop (0 + 3) c) else none) fun a => needB ((Cl.fzn cl).ble 0) (some (X.set p (ABlk.cells a sz cl)))) = some (X.set p (.cells [a', b', c'] 0 .yes)) := by
  rw [h]; rfl

theorem take5 (a b c d e : AV) : (if 0 + 5 ≤ [a, b, c, d, e].length then some (AV.agg (List.take 5 (List.drop 0 [a, b, c, d, e]))) else none) = some (AV.agg [a, b, c, d, e]) := rfl
theorem take3 (a b c : AV) : (if 0 + 3 ≤ [a, b, c].length then some (AV.agg (List.take 3 (List.drop 0 [a, b, c]))) else none) = some (AV.agg [a, b, c]) := rfl
theorem take8 (a b c d e f g h : AV) : (if 0 + 8 ≤ [a, b, c, d, e, f, g, h].length then some (AV.agg (List.take 8 (List.drop 0 [a, b, c, d, e, f, g, h]))) else none) = some (AV.agg [a, b, c, d, e, f, g, h]) := rfl

/-- two boxes -/
abbrev two (c0 c1 c2 c3 c4 c5 c6 c7 : Int) (k : Int) (M : AMem) : AMem := (bx c0 c1 c2 c3 c4 c5 c6 c7 M).new (.cells (N5 k) 0 .yes)

theorem two_get0 (c0 c1 c2 c3 c4 c5 c6 c7 k : Int) (M : AMem) : (two c0 c1 c2 c3 c4 c5 c6 c7 k M).get M.next = some (.cells (C8 c0 c1 c2 c3 c4 c5 c6 c7) 0 .yes) := by
  show ((bx c0 c1 c2 c3 c4 c5 c6 c7 M).new _).get M.next = _
  rw [AMem.get_new, if_neg (by rw [AMem.next_new]; omega), AMem.get_new, if_pos rfl]
theorem two_get1 (c0 c1 c2 c3 c4 c5 c6 c7 k : Int) (M : AMem) : (two c0 c1 c2 c3 c4 c5 c6 c7 k M).get (M.next + 1) = some (.cells (N5 k) 0 .yes) := by
  show ((bx c0 c1 c2 c3 c4 c5 c6 c7 M).new _).get (M.next + 1) = _
  rw [AMem.get_new, if_pos (show M.next + 1 = (bx c0 c1 c2 c3 c4 c5 c6 c7 M).next from rfl)]
theorem two_keeps (c0 c1 c2 c3 c4 c5 c6 c7 k : Int) (M : AMem) : Keeps M.next M (two c0 c1 c2 c3 c4 c5 c6 c7 k M) :=
  (Keeps.new (.cells (C8 c0 c1 c2 c3 c4 c5 c6 c7) 0 .yes) (Nat.le_refl _)).trans (Keeps.new (.cells (N5 k) 0 .yes) (Nat.le_succ _)) (Nat.le_refl _)

section
variable {H : Hook} (hF : Free H)
include hF

theorem lexall_run (M : AMem) {m : Nat} (hm : 1 ≤ m) : ∃ M', acall Tryz.prog H m 88 [] M = some (.agg [.str [], .str [], .bool true], M') ∧ Keeps M.next M M' := by
  obtain ⟨m, rfl⟩ : ∃ k, m = k + 1 := ⟨m - 1, by omega⟩
  let M1 : AMem := M.new (.cells [.str [], .str [], .bool false] 0 .yes)
  let M2 : AMem := M1.set M.next (.cells [.str [], .str [], .bool true] 0 .yes)
  have g1 : M1.get M.next = some (.cells [.str [], .str [], .bool false] 0 .yes) := by show (M.new _).get _ = _; rw [AMem.get_new, if_pos rfl]
  have r2 : M2.row M.next = some [.str [], .str [], .bool true] := row_cells (s := 0) (l := .yes) (by show (M1.set _ _).get _ = _; rw [AMem.get_set, if_pos rfl])
  refine ⟨M2, ?_, (Keeps.new (M := M) _ (Nat.le_refl _)).trans (Keeps.set (M := M1) _ (Nat.le_refl _)) (Nat.le_refl _)⟩
  rw [acall_run Tryz.func88 (hF 88 rfl), lexall_eq, put3 g1]
  rw [bO, show (M1.set M.next (.cells [.str [], .str [], .bool true] 0 .yes)).row M.next = _ from r2]
  rfl

theorem nright_run (c0 c1 c2 c3 c4 c5 c6 c7 : Int) (lo hi : List UInt8) (t : Bool) (M : AMem) {m : Nat} (hm : 1 ≤ m) :
    ∃ M', acall Tryz.prog H m 87 [.agg (C8 c0 c1 c2 c3 c4 c5 c6 c7), .agg [.str lo, .str hi, .bool t], .agg (N5 (-1))] M = some (.bool false, M') ∧ Keeps M.next M M' := by
  obtain ⟨m, rfl⟩ : ∃ k, m = k + 1 := ⟨m - 1, by omega⟩
  let M1 : AMem := bx c0 c1 c2 c3 c4 c5 c6 c7 M
  let M2 : AMem := M1.new (.cells [.str lo, .str hi, .bool t] 0 .yes)
  let M3 : AMem := M2.new (.cells (N5 (-1)) 0 .yes)
  have r3 : M3.row M2.next = some (N5 (-1)) := row_new _ _ _ _
  refine ⟨M3, ?_, ((Keeps.new (M := M) _ (Nat.le_refl _)).trans (Keeps.new (M := M1) _ (Nat.le_succ _)) (Nat.le_refl _)).trans (Keeps.new (M := M2) _ (by show M.next ≤ M.next + 1 + 1; omega)) (Nat.le_refl _)⟩
  rw [acall_run Tryz.func87 (hF 87 rfl), nright_eq, row_new]
  rw [bO, List.getElem?_cons_zero, bO, aI, show ltI (-1) 0 = true from rfl, iT]

theorem encode_run (c0 c1 c2 c3 c4 c5 c6 c7 : Int) (M : AMem) (hz : rightZ c0 c1 c2 c3 c4 c5 c6 c7 = true) {m : Nat} (hm : 21 ≤ m) :
    ∃ M', acall Tryz.prog H m 42 [.agg (C8 c0 c1 c2 c3 c4 c5 c6 c7), .agg (N5 (-1))] M = some (.tup [.slice none 0 (some 0), .int .i64 3], M') ∧ Keeps M.next M M' := by
  obtain ⟨m, rfl⟩ : ∃ k, m = k + 1 := ⟨m - 1, by omega⟩
  have n0 : (two c0 c1 c2 c3 c4 c5 c6 c7 (-1) M).next = M.next + 2 := rfl
  obtain ⟨M1, r1, k1⟩ := check_run hF c0 c1 c2 c3 c4 c5 c6 c7 (two c0 c1 c2 c3 c4 c5 c6 c7 (-1) M) hz (m := m) (by omega)
  obtain ⟨M2, r2, k2⟩ := lexall_run hF M1 (m := m) (by omega)
  obtain ⟨M3, r3, k3⟩ := nright_run hF c0 c1 c2 c3 c4 c5 c6 c7 [] [] true M2 (m := m) (by omega)
  have kk2 : Keeps (M.next + 2) (two c0 c1 c2 c3 c4 c5 c6 c7 (-1) M) M2 := k1.trans k2 (by rw [n0] at k1; exact k1.next)
  have kk3 : Keeps (M.next + 2) (two c0 c1 c2 c3 c4 c5 c6 c7 (-1) M) M3 := kk2.trans k3 kk2.next
  have e0 : (two c0 c1 c2 c3 c4 c5 c6 c7 (-1) M).row M.next = some (C8 c0 c1 c2 c3 c4 c5 c6 c7) := row_cells (two_get0 ..)
  have a0 : M1.row M.next = some (C8 c0 c1 c2 c3 c4 c5 c6 c7) := row_cells (by rw [k1.get _ (by omega), two_get0])
  have a1 : M1.row (M.next + 1) = some (N5 (-1)) := row_cells (by rw [k1.get _ (by omega), two_get1])
  have b0 : M2.row M.next = some (C8 c0 c1 c2 c3 c4 c5 c6 c7) := row_cells (by rw [kk2.get _ (by omega), two_get0])
  have b1 : M2.row (M.next + 1) = some (N5 (-1)) := row_cells (by rw [kk2.get _ (by omega), two_get1])
  refine ⟨M3, ?_, (two_keeps c0 c1 c2 c3 c4 c5 c6 c7 (-1) M).trans kk3 (by omega)⟩
  rw [acall_run Tryz.func42 (hF 42 rfl), encode_eq, e0]
  simp only [bO, take8, aI, aG, aC, aN, AMem.next_new]
  rw [show acall Tryz.prog H m 55 [.agg [.int .i64 c0, .int .i64 c1, .int .i64 c2, .int .i64 c3, .int .i64 c4, .int .i64 c5, .int .i64 c6, .int .i64 c7]] (two c0 c1 c2 c3 c4 c5 c6 c7 (-1) M) = _ from r1]
  simp only [bO, aI, show (!eqI 0 0) = false from rfl, iF, a0, a1, take8, take5, aG, aC, aN, aL]
  rw [r2]
  simp only [bO, aI, aG, aC, aN, aL, aS, aB, b0, b1, take8, take5]
  rw [beqN5, nT, bO, beq8, nT, bO, r3]
  simp only [bO, aB, Bool.not_false, iT]

theorem decode_run (c0 c1 c2 c3 c4 c5 c6 c7 : Int) {M : AMem} {b Y : Nat} (hz : rightZ c0 c1 c2 c3 c4 c5 c6 c7 = true) (gb : M.get b = some (.cells (repA [.int .u8 0] Y) 1 (.of 5))) (hb : b < M.next) (y1 : 20 ≤ Y) (y2 : Y ≤ 65536) {m : Nat} (hm : 22 ≤ m) :
    ∃ M', acall Tryz.prog H m 32 [.agg (C8 c0 c1 c2 c3 c4 c5 c6 c7), .slice (some (b, 0)) Y none] M = some (.tup [.agg (N5 0), .int .i64 12], M') ∧ Keeps M.next M M' := by
  obtain ⟨m, rfl⟩ : ∃ k, m = k + 1 := ⟨m - 1, by omega⟩
  have n0 : (two c0 c1 c2 c3 c4 c5 c6 c7 0 M).next = M.next + 2 := rfl
  obtain ⟨M1, r1, k1⟩ := check_run hF c0 c1 c2 c3 c4 c5 c6 c7 (two c0 c1 c2 c3 c4 c5 c6 c7 0 M) hz (m := m) (by omega)
  rw [n0] at k1
  have kM1 : Keeps M.next M M1 := (two_keeps c0 c1 c2 c3 c4 c5 c6 c7 0 M).trans k1 (by omega)
  have hn1 : M.next + 2 ≤ M1.next := k1.next
  obtain ⟨M2, r, b', r2, i2, hb', k2⟩ := wopen_run hF (M := M1) (b := b) (Y := Y) (by rw [kM1.get _ hb]; exact gb) (by omega) (by omega) y2 (m := m) (by omega)
  have hr2 : r < M2.next := i2.lt
  have hbr : b' < r := i2.blt
  obtain ⟨M3, r3, i3, n3, k3⟩ := num_run hF i2 (i := 1) (Or.inl rfl) (by omega) (m := m) (by omega)
  obtain ⟨M4, r4, i4, n4, k4⟩ := num_run hF i3 (i := 1) (Or.inl rfl) (by omega) (m := m) (by omega)
  obtain ⟨M5, r5, i5, n5, k5⟩ := num_run hF i4 (i := 2) (Or.inr rfl) (by omega) (m := m) (by omega)
  obtain ⟨M6, r6, i6, n6, k6⟩ := num_run hF i5 (i := 2) (Or.inr rfl) (by omega) (m := m) (by omega)
  obtain ⟨M7, r7, i7, n7, k7⟩ := zeros_run hF i6 (i := 2) (Or.inr rfl) (by omega) (m := m) (by omega)
  have hn2 : M1.next ≤ M2.next := k2.next
  have kk7 : Keeps M1.next M1 M7 := ⟨by omega, fun t ht => by rw [k7 t (by omega) (by omega), k6 t (by omega) (by omega), k5 t (by omega) (by omega), k4 t (by omega) (by omega), k3 t (by omega) (by omega), k2.get t ht]⟩
  let M8 : AMem := M7.new (.cells (N5 0) 0 .yes)
  let M9 : AMem := M8.set M7.next (.cells (N5 (-1)) 0 .yes)
  have g8 : M8.get M7.next = some (.cells (N5 0) 0 .yes) := by show (M7.new _).get _ = _; rw [AMem.get_new, if_pos rfl]
  have r9 : M9.row M7.next = some (N5 (-1)) := row_cells (s := 0) (l := .yes) (by show (M8.set _ _).get _ = _; rw [AMem.get_set, if_pos rfl])
  have k9 : Keeps M7.next M7 M9 := (Keeps.new (M := M7) _ (Nat.le_refl _)).trans (Keeps.set (M := M8) _ (Nat.le_refl _)) (Nat.le_refl _)
  have i9 := i7.keeps k9 i7.lt
  have h9 := rerr_run hF i9 (m := m) (by omega)
  have kk9 : Keeps M1.next M1 M9 := kk7.trans k9 kk7.next
  have hn9 : M1.next ≤ M9.next := kk9.next
  have a9 : M9.row M.next = some (C8 c0 c1 c2 c3 c4 c5 c6 c7) := row_cells (by rw [kk9.get _ (by omega), k1.get _ (by omega), two_get0])
  obtain ⟨M10, r10, k10⟩ := encode_run hF c0 c1 c2 c3 c4 c5 c6 c7 M9 hz (m := m) (by omega)
  have g10 : M10.get (M.next + 1) = some (.cells (N5 0) 0 .yes) := by rw [k10.get _ (by omega), kk9.get _ (by omega), k1.get _ (by omega), two_get1]
  let M11 : AMem := M10.set (M.next + 1) (.cells (N5 0) 0 .yes)
  have r11 : M11.row (M.next + 1) = some (N5 0) := row_cells (s := 0) (l := .yes) (by show (M10.set _ _).get _ = _; rw [AMem.get_set, if_pos rfl])
  have e0 : (two c0 c1 c2 c3 c4 c5 c6 c7 0 M).row M.next = some (C8 c0 c1 c2 c3 c4 c5 c6 c7) := row_cells (two_get0 ..)
  refine ⟨M11, ?_, (((kM1.trans kk9 kM1.next).trans k10 (by omega)).trans (Keeps.set (M := M10) _ (Nat.le_succ _)) (Nat.le_refl _))⟩
  rw [acall_run Tryz.func32 (hF 32 rfl), decode_eq, e0]
  rw [bO, take8, bO, aG, aC, aI, aC, aI, aC, aI, aC, aI, aC, aI, aC, aI, aC, aI, aC, aI, aN]
  rw [show acall Tryz.prog H m 55 [.agg [.int .i64 c0, .int .i64 c1, .int .i64 c2, .int .i64 c3, .int .i64 c4, .int .i64 c5, .int .i64 c6, .int .i64 c7]] (two c0 c1 c2 c3 c4 c5 c6 c7 0 M) = _ from r1]
  rw [bO, aI, show (!eqI 0 0) = false from rfl, iF, r2]
  rw [bO, aP, show acall Tryz.prog H m 72 [.ptr (some (r, 0)), .int .i64 1] M2 = _ from r3, bO, aI]
  rw [show acall Tryz.prog H m 72 [.ptr (some (r, 0)), .int .i64 1] M3 = _ from r4, bO, aI]
  rw [show acall Tryz.prog H m 72 [.ptr (some (r, 0)), .int .i64 2] M4 = _ from r5, bO, aI]
  rw [show acall Tryz.prog H m 72 [.ptr (some (r, 0)), .int .i64 2] M5 = _ from r6, bO, aI]
  rw [show acall Tryz.prog H m 73 [.ptr (some (r, 0)), .int .i64 2] M6 = _ from r7, bO, aT, aN]
  rw [put5 g8, bO, show eqI 0 1 = false from rfl, iF, show eqI 0 2 = false from rfl, iF]
  rw [h9, bO, aI, show (!eqI 0 0) = false from rfl, iF]
  rw [show (M8.set M7.next (ABlk.cells (N5 (-1)) 0 Cl.yes)).row M.next = _ from a9]
  rw [bO, take8, bO, aG, aC, aI, aC, aI, aC, aI, aC, aI, aC, aI, aC, aI, aC, aI, aC, aI, aN]
  rw [show (M8.set M7.next (ABlk.cells (N5 (-1)) 0 Cl.yes)).row M7.next = _ from r9]
  rw [bO, take5, bO, aG, aC, aI, aC, aL, aC, aL, aC, aL, aC, aL, aN]
  rw [r10, bO, aT, aC, aL, aC, aI, aN, show (!eqI 3 0) = true from rfl, iT]
  simp only [AMem.next_new]
  rw [put5 (X := M10) (p := M.next + 1) g10, bO]
  rw [show (M10.set (M.next + 1) (ABlk.cells (N5 0) 0 Cl.yes)).row (M.next + 1) = _ from r11]
  rw [bO, take5, bO, aG, aC, aI, aC, aL, aC, aL, aC, aL, aC, aL, aN]
end
end Go.Proofs.YtfpgakjikmakkaaGreatDoor

/-
  Load of any block of a new shelf tells an error: ErrRange, or ErrCorrupt.
-/
namespace Go.Proofs.YtfpgakjikmakkaaGreatDoor
open Go.Ab
set_option linter.unusedVariables false
set_option linter.unusedSimpArgs false
set_option linter.unusedSectionVars false
set_option maxRecDepth 100000

theorem put5' {X : AMem} {p : Nat} {a b c d e : AV} (h : X.get p = some (.cells [a, b, c, d, e] 0 .yes)) (a' b' c' d' e' : AV) :
    (getCells (X.get p) fun c sz cl => bindO (if 0 + (1 + 1 + 1 + 1 + 1) ≤ c.length then some (a' :: b' :: c' :: d' :: e' :: List.drop (0 + (1 + 1 + 1 + 1 + 1)) c) else none) fun a => needB ((Cl.fzn cl).ble 0) (some (X.set p (ABlk.cells a sz cl)))) = some (X.set p (.cells [a', b', c', d', e'] 0 .yes)) := by
  rw [h]; rfl

/-- what Load needs of a shelf -/
structure ShIs (M : AMem) (lo s d img c h lk fr mp p : Nat) (c0 c1 c2 c3 c4 c5 c6 c7 : Int) : Prop where
  get : M.get s = some (.cells (shelfC c0 c1 c2 c3 c4 c5 c6 c7 d c p) 0 .yes)
  dev : DevIs M d img c0 c1 0 0
  cache : CacheIs M lo c d h lk fr mp c2.toNat
  slt : s < M.next
  slo : lo ≤ s
  dlo : d < lo
  ilo : img < lo
  right : rightZ c0 c1 c2 c3 c4 c5 c6 c7 = true

theorem ShIs.moved {M M' : AMem} {lo s d img c h lk fr mp p : Nat} {c0 c1 c2 c3 c4 c5 c6 c7 : Int} (S : ShIs M lo s d img c h lk fr mp p c0 c1 c2 c3 c4 c5 c6 c7) (k : Keeps M.next M M') : ShIs M' lo s d img c h lk fr mp p c0 c1 c2 c3 c4 c5 c6 c7 :=
  ⟨by rw [k.get _ S.slt]; exact S.get, S.dev.keeps k S.dev.lt S.dev.ilt, S.cache.moved k, Nat.lt_of_lt_of_le S.slt k.next, S.slo, S.dlo, S.ilo, S.right⟩

/-- the shelf is none of the cache's blocks -/
theorem ShIs.apart {M : AMem} {lo s d img c h lk fr mp p : Nat} {c0 c1 c2 c3 c4 c5 c6 c7 : Int} (S : ShIs M lo s d img c h lk fr mp p c0 c1 c2 c3 c4 c5 c6 c7) (h2 : 1 ≤ c2.toNat) : s ≠ c ∧ s ≠ h ∧ s ≠ lk ∧ s ≠ fr ∧ s ≠ mp := by
  have g := S.get
  refine ⟨?_, ?_, ?_, ?_, ?_⟩
  · rintro rfl
    obtain ⟨u, q, gc, G⟩ := S.cache.get
    rw [g] at gc
    simp [shelfC, cacheC] at gc
  · rintro rfl
    have gc := S.cache.chain.get
    rw [g] at gc
    simp [shelfC] at gc
  · rintro rfl
    obtain ⟨L, gc, hlen, hL, t⟩ := S.cache.chain.links
    rw [g] at gc
    have e := (hL 0 (by omega)).2.2
    simp only [Option.some.injEq, ABlk.cells.injEq] at gc
    rw [← gc.1] at e
    simp [shelfC] at e
  · rintro rfl
    have gc := S.cache.frames
    rw [g] at gc
    simp only [Option.some.injEq, ABlk.cells.injEq] at gc
    have e : (repA frame0 c2.toNat)[0]? = some (.int .u32 0) := by
      rw [repA_get, if_pos (show 0 < c2.toNat * frame0.length by show 0 < c2.toNat * 4; omega)]
      rfl
    rw [← gc.1] at e
    simp [shelfC, frame0] at e
  · rintro rfl
    have gc := S.cache.map
    rw [g] at gc
    simp at gc

section
variable {H : Hook} (hF : Free H)
include hF

theorem sthere_run' {M : AMem} {s d c p : Nat} {c0 c1 c2 c3 c4 c5 c6 c7 i : Int} (gs : M.get s = some (.cells (shelfC c0 c1 c2 c3 c4 c5 c6 c7 d c p) 0 .yes)) (i0 : 0 ≤ i) (i1 : i < 4294967296) {m : Nat} (hm : 1 ≤ m) :
    acall Tryz.prog H m 28 [.ptr (some (s, 0)), .int .u32 i] M = some (.int .i64 (if i = 0 ∨ c0 ≤ i then 4 else 0), M) := by
  obtain ⟨m, rfl⟩ : ∃ k, m = k + 1 := ⟨m - 1, by omega⟩
  rw [acall_run Tryz.func28 (hF 28 rfl), sthere_eq]
  simp only [row_cells gs, bO, aP, aI, List.getElem?_cons_zero, List.getElem?_cons_succ, eS]
  rw [show ((false : Bool) != false) = false from rfl, iF, wrap_i64 (x := i) (by omega) (by omega), eqI_eq, leI_eq]
  by_cases h0 : i = 0
  · rw [show (i == 0) = true by rw [beq_iff_eq]; exact h0, if_pos (.inl h0)]
    rfl
  · rw [show (i == 0) = false by rw [beq_eq_false_iff_ne]; exact h0, iF]
    by_cases h1 : c0 ≤ i
    · rw [decide_eq_true h1, if_pos (.inr h1)]
      rfl
    · rw [decide_eq_false h1, if_neg (by omega)]
      rfl

theorem load_run {M : AMem} {lo s d img c h lk fr mp p : Nat} {c0 c1 c2 c3 c4 c5 c6 c7 i : Int} (S : ShIs M lo s d img c h lk fr mp p c0 c1 c2 c3 c4 c5 c6 c7) (i0 : 0 ≤ i) (i1 : i < 4294967296) {m : Nat} (hm : 30 ≤ m) :
    ∃ e M', acall Tryz.prog H m 12 [.ptr (some (s, 0)), .int .u32 i] M = some (.tup [.agg (N5 0), .int .i64 e], M') ∧ (e = 4 ∨ e = 12) ∧ M.next ≤ M'.next ∧ ∀ t, t < lo → t ≠ d → M'.get t = M.get t := by
  obtain ⟨m, rfl⟩ : ∃ k, m = k + 1 := ⟨m - 1, by omega⟩
  have hz' := S.right
  unfold rightZ at hz'
  simp only [Bool.and_eq_true, leI_eq, decide_eq_true_eq] at hz'
  obtain ⟨hsz, ⟨a1, a2⟩, ⟨a3, a4⟩, ⟨a5, a6⟩, a7, a8⟩ := hz'
  let M0 : AMem := M.new (.cells (N5 0) 0 .yes)
  have k0 : Keeps M.next M M0 := Keeps.new _ (Nat.le_refl _)
  have S0 := S.moved k0
  have g0 : M0.get M.next = some (.cells (N5 0) 0 .yes) := by show (M.new _).get _ = _; rw [AMem.get_new, if_pos rfl]
  have hn0 : M0.next = M.next + 1 := rfl
  have slt := S.slt
  have slo := S.slo
  have dlo := S.dlo
  have ilo := S.ilo
  have b1 := S.cache.b1
  have b2 := S.cache.b2
  have b3 := S.cache.b3
  have b4 := S.cache.b4
  have b5 := S.cache.b5
  have clt := S.cache.clt
  have hth := sthere_run' hF S0.get i0 i1 (m := m) (by omega)
  by_cases hc : i = 0 ∨ c0 ≤ i
  · rw [if_pos hc] at hth
    let M1 : AMem := M0.set M.next (.cells (N5 0) 0 .yes)
    have r1 : M1.row M.next = some (N5 0) := row_cells (s := 0) (l := .yes) (by show (M0.set _ _).get _ = _; rw [AMem.get_set, if_pos rfl])
    refine ⟨4, M1, ?_, .inl rfl, Nat.le_succ _, fun t ht h1 => ?_⟩
    · rw [acall_run Tryz.func12 (hF 12 rfl), load_eq, show acall Tryz.prog H m 28 [.ptr (some (s, 0)), .int .u32 i] (M.new (ABlk.cells [AV.int IntKind.i64 0, AV.slice none 0 (some 0), AV.slice none 0 (some 0), AV.slice none 0 (some 0), AV.slice none 0 (some 0)] 0 Cl.yes)) = _ from hth]
      rw [bO, aI, show (!eqI 4 0) = true from rfl, iT, put5 (X := M0) g0, bO]
      rw [show (M0.set M.next (ABlk.cells (N5 0) 0 Cl.yes)).row M.next = _ from r1]
      rw [bO, take5, bO, aG, aC, aI, aC, aL, aC, aL, aC, aL, aC, aL, aN]
    · show (M0.set _ _).get t = _
      rw [AMem.get_set, if_neg (by omega), k0.get _ (by omega)]
  · rw [if_neg hc] at hth
    obtain ⟨F, hF2⟩ : ∃ F, c2.toNat = F + 1 := ⟨c2.toNat - 1, by omega⟩
    have ap := S.apart (by omega)
    obtain ⟨ap1, ap2, ap3, ap4, ap5⟩ := ap
    have cc := S0.cache
    rw [hF2] at cc
    obtain ⟨k, b, M1, r1, gc1, gf1, gm1, hch1, hd1, gb1, hb1, hb2, n1, e1⟩ := pin_run hF cc S0.dev (by omega) (i := i) (by omega) (by omega) dlo ilo (m := m) (by omega)
    have y1 : 1 ≤ c1.toNat := by omega
    obtain ⟨M2, r2, g2, n2, k2⟩ := cread_run hF (by omega) y1 (by omega) gc1 gf1 gm1 gb1 hb2 (m := m) (by omega)
    obtain ⟨M3, r3, n3, e3⟩ := unpin_run hF (M := M2) (by omega) (by rw [k2.get _ (by omega)]; exact gc1) (by rw [k2.get _ (by omega)]; exact gf1) (by rw [k2.get _ (by omega)]; exact gm1) (hch1.moved k2) b2 b3 b4 b5 (by omega) (m := m) (by omega)
    have g3 : M3.get (M1.next + 1) = some (.cells (repA [.int .u8 0] c1.toNat) 1 (.of 5)) := by rw [e3 _ (by omega) (by omega) (by omega) (by omega)]; exact g2
    obtain ⟨M4, r4, k4⟩ := decode_run hF c0 c1 c2 c3 c4 c5 c6 c7 S.right g3 (by omega) (by omega) (by omega) (m := m) (by omega)
    have s1 : M1.get s = some (.cells (shelfC c0 c1 c2 c3 c4 c5 c6 c7 d c p) 0 .yes) := by rw [e1 _ (by omega) ap1 ap4 ap5 (by omega)]; exact S0.get
    have s2 : M2.get s = some (.cells (shelfC c0 c1 c2 c3 c4 c5 c6 c7 d c p) 0 .yes) := by rw [k2.get _ (by omega)]; exact s1
    have s3 : M3.get s = some (.cells (shelfC c0 c1 c2 c3 c4 c5 c6 c7 d c p) 0 .yes) := by rw [e3 _ (by omega) ap2 ap3 ap4]; exact s2
    have g4 : M4.get M.next = some (.cells (N5 0) 0 .yes) := by rw [k4.get _ (by omega), e3 _ (by omega) (by omega) (by omega) (by omega), k2.get _ (by omega), e1 _ (by omega) (by omega) (by omega) (by omega) (by omega)]; exact g0
    let M5 : AMem := M4.set M.next (.cells (N5 0) 0 .yes)
    have r5 : M5.row M.next = some (N5 0) := row_cells (s := 0) (l := .yes) (by show (M4.set _ _).get _ = _; rw [AMem.get_set, if_pos rfl])
    have hk4 := k4.next
    refine ⟨12, M5, ?_, .inr rfl, ?_, fun t ht h1 => ?_⟩
    · rw [acall_run Tryz.func12 (hF 12 rfl), load_eq, show acall Tryz.prog H m 28 [.ptr (some (s, 0)), .int .u32 i] (M.new (ABlk.cells [AV.int IntKind.i64 0, AV.slice none 0 (some 0), AV.slice none 0 (some 0), AV.slice none 0 (some 0), AV.slice none 0 (some 0)] 0 Cl.yes)) = _ from hth]
      rw [bO, aI, show (!eqI 0 0) = false from rfl, iF, row_cells S0.get, bO]
      simp only [List.getElem?_cons_zero, List.getElem?_cons_succ]
      rw [bO, aP, r1, bO, aI, show (!eqI 0 0) = false from rfl, iF, row_cells s1, bO]
      simp only [List.getElem?_cons_zero, List.getElem?_cons_succ]
      rw [bO, aP, r2, bO, aT, aC, aL, aC, aI, aN, row_cells s2, bO]
      simp only [List.getElem?_cons_zero, List.getElem?_cons_succ]
      rw [bO, aP, r3, bO, aI, show (!eqI 0 0) = false from rfl, iF, row_cells s3, bO]
      rw [if_pos (show 0 + 8 ≤ (shelfC c0 c1 c2 c3 c4 c5 c6 c7 d c p).length by show 0 + 8 ≤ 12; omega)]
      rw [show List.take 8 (List.drop 0 (shelfC c0 c1 c2 c3 c4 c5 c6 c7 d c p)) = C8 c0 c1 c2 c3 c4 c5 c6 c7 from rfl]
      rw [bO, aG, aC, aI, aC, aI, aC, aI, aC, aI, aC, aI, aC, aI, aC, aI, aC, aI, aN]
      rw [r4, bO, aT, aC, aG, aC, aI, aC, aL, aC, aL, aC, aL, aC, aL, aN, aC, aI, aN]
      rw [put5' g4, bO]
      rw [show (M4.set M.next (ABlk.cells (N5 0) 0 Cl.yes)).row M.next = _ from r5]
      rw [bO, take5, bO, aG, aC, aI, aC, aL, aC, aL, aC, aL, aC, aL, aN]
    · show M.next ≤ M4.next
      omega
    · show (M4.set _ _).get t = _
      rw [AMem.get_set, if_neg (by omega), k4.get _ (by omega), e3 _ (by omega) (by omega) (by omega) (by omega), k2.get _ (by omega), e1 _ (by omega) (by omega) (by omega) (by omega) (by omega), k0.get _ (by omega)]
end
end Go.Proofs.YtfpgakjikmakkaaGreatDoor

/-
  Load of a block, again and again: the cache has it, and it is no node.
-/
namespace Go.Proofs.YtfpgakjikmakkaaGreatDoor
open Go.Ab
set_option linter.unusedVariables false
set_option linter.unusedSimpArgs false
set_option linter.unusedSectionVars false
set_option maxRecDepth 100000

/-- a cache whose last frame has block i, of noughts, pinned p times -/
structure CacheHas (M : AMem) (lo d c h lk fr mp b F Y : Nat) (i p : Int) : Prop where
  gc : ∃ u l q, M.get c = some (.cells (cacheC d fr (F + 1) mp h u l q) 0 .yes)
  gf : M.get fr = some (.cells (framesPut F i (some (b, 0)) Y none p) 0 .yes)
  gm : M.get mp = some (.map [(.int .u32 i, .int .i64 (F : Int), 0)] 1)
  gb : M.get b = some (.cells (repA [.int .u8 0] Y) 1 (.of 5))
  hb : b < M.next
  cb : c < b
  b1 : lo ≤ lk
  b2 : lk < h
  b3 : h < fr
  b4 : fr < mp
  b5 : mp < c

theorem CacheHas.same {M M' : AMem} {lo d c h lk fr mp b F Y : Nat} {i p : Int} (H : CacheHas M lo d c h lk fr mp b F Y i p) (k1 : M'.get c = M.get c) (k2 : M'.get fr = M.get fr) (k3 : M'.get mp = M.get mp) (k4 : M'.get b = M.get b) (k5 : M.next ≤ M'.next) : CacheHas M' lo d c h lk fr mp b F Y i p :=
  ⟨by rw [k1]; exact H.gc, by rw [k2]; exact H.gf, by rw [k3]; exact H.gm, by rw [k4]; exact H.gb, Nat.lt_of_lt_of_le H.hb k5, H.cb, H.b1, H.b2, H.b3, H.b4, H.b5⟩

theorem DevIs.same {M M' : AMem} {d img : Nat} {B Y r w : Int} (H : DevIs M d img B Y r w) (k1 : M'.get d = M.get d) (k2 : M'.get img = M.get img) (k3 : M.next ≤ M'.next) : DevIs M' d img B Y r w :=
  ⟨by rw [k1]; exact H.get, by rw [k2]; exact H.cells, H.b5, H.b6, H.y1, H.y6, Nat.lt_of_lt_of_le H.lt k3, Nat.lt_of_lt_of_le H.ilt k3, H.ne⟩

section
variable {H : Hook} (hF : Free H)
include hF

theorem unpin1_run {M : AMem} {lo d c h lk fr mp b F Y : Nat} {i : Int} (f2 : F ≤ 100) (hc : CacheHas M lo d c h lk fr mp b F Y i 1) (hch : ChIs M h lk (F + 1)) {m : Nat} (hm : 4 ≤ m) :
    ∃ M', acall Tryz.prog H m 31 [.ptr (some (c, 0)), .int .u32 i] M = some (.int .i64 0, M') ∧ CacheHas M' lo d c h lk fr mp b F Y i 0 ∧ ChOne M' h lk (F + 1) F ∧ M.next ≤ M'.next ∧ ∀ t, t < M.next → t ≠ h → t ≠ lk → t ≠ fr → M'.get t = M.get t := by
  obtain ⟨m, rfl⟩ : ∃ k, m = k + 1 := ⟨m - 1, by omega⟩
  obtain ⟨u, l', q', gc⟩ := hc.gc
  have gf := hc.gf
  have gm := hc.gm
  have hb := hc.hb
  have cb := hc.cb
  have o1 := hc.b2
  have o2 := hc.b3
  have o3 := hc.b4
  have o4 := hc.b5
  let R : List AV := framesPut F i (some (b, 0)) Y none 1
  let R1 : List AV := ((List.take (F * 4 + 3) R).append [.int .i64 0]).append (List.drop (F * 4 + 3 + 1) R)
  have hR : R.length = (F + 1) * 4 := framesPut_length F i (some (b, 0)) Y none 1
  have hR1' : R1 = framesPut F i (some (b, 0)) Y none 0 := framesPut_pin F i (some (b, 0)) Y none 1 0
  have hR1 : R1[F * 4 + 3]? = some (.int .i64 0) := by rw [hR1']; exact framesPut_at F i (some (b, 0)) Y none 0 3 (by omega)
  let M1 : AMem := M.set fr (.cells R1 0 .yes)
  have e1 : ∀ t, t ≠ fr → M1.get t = M.get t := fun t h1 => by show (M.set _ _).get t = _; rw [AMem.get_set, if_neg h1]
  have b1 : M1.get fr = some (.cells R1 0 .yes) := by show (M.set _ _).get _ = _; rw [AMem.get_set, if_pos rfl]
  have hn1 : M1.next = M.next := rfl
  have hch1 : ChIs M1 h lk (F + 1) := hch.same (e1 _ (by omega)) (e1 _ (by omega)) (Nat.le_refl _)
  obtain ⟨M2, e2, o2', n2, k2⟩ := hfront1_run hF hch1 (by omega) (show F < F + 1 by omega) (m := m) (by omega)
  refine ⟨M2, ?_, ⟨⟨u, l', q', by rw [k2 c (by omega) (by omega) (by omega), e1 c (by omega)]; exact gc⟩, by rw [k2 fr (by omega) (by omega) (by omega), b1, hR1'], by rw [k2 mp (by omega) (by omega) (by omega), e1 mp (by omega)]; exact gm, by rw [k2 b (by omega) (by omega) (by omega), e1 b (by omega)]; exact hc.gb, by omega, cb, hc.b1, o1, o2, o3, o4⟩, o2', by omega, fun t ht h1 h2 h3 => by rw [k2 t ht h1 h2, e1 t h3]⟩
  rw [acall_run Tryz.func31 (hF 31 rfl), unpin_eq, pinned_run hF f2 gc gf gm (m := m) (by omega)]
  simp only [bO, aT, aC, aP, aI, aN]
  rw [show eqI 0 0 = true from rfl, Bool.not_true, iF]
  simp only [bO, row_cells gf, framesPut_at F i (some (b, 0)) Y none 1 3 (by omega), aI, List.getElem?_cons_zero, List.getElem?_cons_succ, forceI_eq]
  rw [show IntKind.i64.wrap ((1 : Int) - 1) = 0 from rfl, gf, gC, if_pos (show F * 4 + 3 + 1 ≤ R.length by omega), bO]
  show bindO (some M1) _ = _
  rw [bO]
  simp only [row_cells b1, bO, hR1, aI]
  rw [show eqI 0 0 = true from rfl, iT, row_cells ((e1 c (by omega)).trans gc)]
  simp only [bO, aP, aM, List.getElem?_cons_zero, List.getElem?_cons_succ]
  rw [look_one ((e1 mp (by omega)).trans gm)]
  simp only [bO, eS, aI]
  rw [e2]
  simp only [bO, aI]

theorem pin1_run {M : AMem} {lo d img c h lk fr mp b F Y : Nat} {i B Y' r w : Int} (f2 : F ≤ 100) (hc : CacheHas M lo d c h lk fr mp b F Y i 0) (hch : ChOne M h lk (F + 1) F) (hd : DevIs M d img B Y' r w) (i0 : 0 ≤ i) (i1 : i < B) {m : Nat} (hm : 5 ≤ m) :
    ∃ M', acall Tryz.prog H m 29 [.ptr (some (c, 0)), .int .u32 i] M = some (.int .i64 0, M') ∧ CacheHas M' lo d c h lk fr mp b F Y i 1 ∧ ChIs M' h lk (F + 1) ∧ M.next ≤ M'.next ∧ ∀ t, t < M.next → t ≠ h → t ≠ lk → t ≠ fr → M'.get t = M.get t := by
  obtain ⟨m, rfl⟩ : ∃ k, m = k + 1 := ⟨m - 1, by omega⟩
  obtain ⟨u, l', q', gc⟩ := hc.gc
  have gf := hc.gf
  have gm := hc.gm
  have hb := hc.hb
  have cb := hc.cb
  have o1 := hc.b2
  have o2 := hc.b3
  have o3 := hc.b4
  have o4 := hc.b5
  have bb6 := hd.b6
  have hth : acall Tryz.prog H m 63 [.ptr (some (c, 0)), .int .u32 i] M = some (.int .i64 0, M) := by
    obtain ⟨m, rfl⟩ : ∃ k, m = k + 1 := ⟨m - 1, by omega⟩
    have hn : acall Tryz.prog H m 95 [.ptr (some (c, 0))] M = some (.bool false, M) := by
      obtain ⟨m, rfl⟩ : ∃ k, m = k + 1 := ⟨m - 1, by omega⟩
      rw [acall_run Tryz.func95 (hF 95 rfl), cnone_eq]
      simp only [row_cells gc, bO, aP, List.getElem?_cons_zero, eS]
      rfl
    rw [acall_run Tryz.func63 (hF 63 rfl), cthere_eq, hn]
    simp only [bO, aB, iF, row_cells gc, aP, List.getElem?_cons_zero]
    rw [devblocks_run hF hd (m := m) (by omega)]
    simp only [bO, aI]
    rw [wrap_i64 (x := i) (by omega) (by omega), leI_eq, decide_eq_false (by omega), iF]
  let R : List AV := framesPut F i (some (b, 0)) Y none 0
  let R1 : List AV := ((List.take (F * 4 + 3) R).append [.int .i64 1]).append (List.drop (F * 4 + 3 + 1) R)
  have hR : R.length = (F + 1) * 4 := framesPut_length F i (some (b, 0)) Y none 0
  have hR1' : R1 = framesPut F i (some (b, 0)) Y none 1 := framesPut_pin F i (some (b, 0)) Y none 0 1
  let M1 : AMem := M.set fr (.cells R1 0 .yes)
  have e1 : ∀ t, t ≠ fr → M1.get t = M.get t := fun t h1 => by show (M.set _ _).get t = _; rw [AMem.get_set, if_neg h1]
  have b1 : M1.get fr = some (.cells R1 0 .yes) := by show (M.set _ _).get _ = _; rw [AMem.get_set, if_pos rfl]
  have hn1 : M1.next = M.next := rfl
  have hch1 : ChOne M1 h lk (F + 1) F := hch.same (e1 _ (by omega)) (e1 _ (by omega)) (Nat.le_refl _)
  obtain ⟨M2, e2, o2', n2, k2⟩ := hcut1_run hF hch1 (by omega) (show F < F + 1 by omega) (m := m) (by omega)
  refine ⟨M2, ?_, ⟨⟨u, l', q', by rw [k2 c (by omega) (by omega) (by omega), e1 c (by omega)]; exact gc⟩, by rw [k2 fr (by omega) (by omega) (by omega), b1, hR1'], by rw [k2 mp (by omega) (by omega) (by omega), e1 mp (by omega)]; exact gm, by rw [k2 b (by omega) (by omega) (by omega), e1 b (by omega)]; exact hc.gb, by omega, cb, hc.b1, o1, o2, o3, o4⟩, o2', by omega, fun t ht h1 h2 h3 => by rw [k2 t ht h1 h2, e1 t h3]⟩
  rw [acall_run Tryz.func29 (hF 29 rfl), pin_eq, hth]
  simp only [bO, aI]
  rw [show eqI 0 0 = true from rfl, Bool.not_true, iF, row_cells gc]
  simp only [bO, aM, List.getElem?_cons_zero, List.getElem?_cons_succ]
  rw [look_one gm]
  simp only [bO, eS, aI, row_cells gc, aL, List.getElem?_cons_zero, List.getElem?_cons_succ]
  rw [decide_eq_true (show (0 : Int) ≤ (F : Int) by omega), decide_eq_true (show (F : Int) < ((F + 1 : Nat) : Int) by omega)]
  simp only [Bool.and_self, nT, bO, row_cells gf, Int.toNat_natCast, Nat.zero_add, framesPut_at F i (some (b, 0)) Y none 0 3 (by omega), aI, List.getElem?_cons_zero, List.getElem?_cons_succ, forceI_eq]
  rw [show IntKind.i64.wrap ((0 : Int) + 1) = 1 from rfl, gf, gC, if_pos (show F * 4 + 3 + 1 ≤ R.length by omega), bO]
  show bindO (some M1) _ = _
  rw [bO, row_cells ((e1 c (by omega)).trans gc)]
  simp only [bO, aP, List.getElem?_cons_zero, List.getElem?_cons_succ]
  rw [e2]
  simp only [bO, aI]

/-- Load of a block that its cache can pin -/
theorem load_pinned {M : AMem} {lo s d img c h lk fr mp p b F : Nat} {c0 c1 c2 c3 c4 c5 c6 c7 i : Int} (hz : rightZ c0 c1 c2 c3 c4 c5 c6 c7 = true) (f2 : F ≤ 100)
    (gs : M.get s = some (.cells (shelfC c0 c1 c2 c3 c4 c5 c6 c7 d c p) 0 .yes)) (hs : s < M.next) (cs : c < s) (dlo : d < lo) (ilo : img < lo) (i0 : 0 ≤ i) (i1 : i < 4294967296) (hi : ¬ (i = 0 ∨ c0 ≤ i)) {m : Nat} (hm : 29 ≤ m)
    (hp : ∃ M1, acall Tryz.prog H m 29 [.ptr (some (c, 0)), .int .u32 i] (M.new (.cells (N5 0) 0 .yes)) = some (.int .i64 0, M1) ∧ CacheHas M1 lo d c h lk fr mp b F c1.toNat i 1 ∧ ChIs M1 h lk (F + 1) ∧ DevIs M1 d img c0 c1 1 0 ∧ M.next + 1 ≤ M1.next ∧ ∀ t, t < M.next + 1 → t ≠ c → t ≠ fr → t ≠ mp → t ≠ d → t ≠ h → t ≠ lk → M1.get t = (M.new (.cells (N5 0) 0 .yes)).get t) :
    ∃ M', acall Tryz.prog H (m + 1) 12 [.ptr (some (s, 0)), .int .u32 i] M = some (.tup [.agg (N5 0), .int .i64 12], M') ∧ CacheHas M' lo d c h lk fr mp b F c1.toNat i 0 ∧ ChOne M' h lk (F + 1) F ∧ DevIs M' d img c0 c1 1 0 ∧ M.next ≤ M'.next ∧ ∀ t, t < M.next → t ≠ c → t ≠ fr → t ≠ mp → t ≠ d → t ≠ h → t ≠ lk → M'.get t = M.get t := by
  have hz' := hz
  unfold rightZ at hz'
  simp only [Bool.and_eq_true, leI_eq, decide_eq_true_eq] at hz'
  obtain ⟨hsz, ⟨a1, a2⟩, ⟨a3, a4⟩, ⟨a5, a6⟩, a7, a8⟩ := hz'
  let M0 : AMem := M.new (.cells (N5 0) 0 .yes)
  have k0 : Keeps M.next M M0 := Keeps.new _ (Nat.le_refl _)
  have g0 : M0.get M.next = some (.cells (N5 0) 0 .yes) := by show (M.new _).get _ = _; rw [AMem.get_new, if_pos rfl]
  have gs0 : M0.get s = some (.cells (shelfC c0 c1 c2 c3 c4 c5 c6 c7 d c p) 0 .yes) := by rw [k0.get _ hs]; exact gs
  have hn0 : M0.next = M.next + 1 := rfl
  obtain ⟨M1, r1, h1, hch1, hd1, n1, e1⟩ := hp
  have b1 := h1.b1
  have b2 := h1.b2
  have b3 := h1.b3
  have b4 := h1.b4
  have b5 := h1.b5
  have cb := h1.cb
  have hb1 := h1.hb
  have hth := sthere_run' hF gs0 i0 i1 (m := m) (by omega)
  rw [if_neg hi] at hth
  have y1 : 1 ≤ c1.toNat := by omega
  obtain ⟨u, l', q', gc1⟩ := h1.gc
  have hdl := hd1.lt
  have hdi := hd1.ilt
  have hdn := hd1.ne
  obtain ⟨M2, r2, g2, n2, k2⟩ := cread_run hF f2 y1 (by omega) gc1 h1.gf h1.gm h1.gb hb1 (m := m) (by omega)
  have h2 : CacheHas M2 lo d c h lk fr mp b F c1.toNat i 1 := h1.same (k2.get _ (by omega)) (k2.get _ (by omega)) (k2.get _ (by omega)) (k2.get _ (by omega)) (by omega)
  have hch2 : ChIs M2 h lk (F + 1) := hch1.same (k2.get _ (by omega)) (k2.get _ (by omega)) (by omega)
  obtain ⟨M3, r3, h3, hch3, n3, e3⟩ := unpin1_run hF f2 h2 hch2 (m := m) (by omega)
  have g3 : M3.get (M1.next + 1) = some (.cells (repA [.int .u8 0] c1.toNat) 1 (.of 5)) := by rw [e3 _ (by omega) (by omega) (by omega) (by omega)]; exact g2
  obtain ⟨M4, r4, k4⟩ := decode_run hF c0 c1 c2 c3 c4 c5 c6 c7 hz g3 (by omega) (by omega) (by omega) (m := m) (by omega)
  have s1 : M1.get s = some (.cells (shelfC c0 c1 c2 c3 c4 c5 c6 c7 d c p) 0 .yes) := by rw [e1 _ (by omega) (by omega) (by omega) (by omega) (by omega) (by omega) (by omega)]; exact gs0
  have s2 : M2.get s = some (.cells (shelfC c0 c1 c2 c3 c4 c5 c6 c7 d c p) 0 .yes) := by rw [k2.get _ (by omega)]; exact s1
  have s3 : M3.get s = some (.cells (shelfC c0 c1 c2 c3 c4 c5 c6 c7 d c p) 0 .yes) := by rw [e3 _ (by omega) (by omega) (by omega) (by omega)]; exact s2
  have g4 : M4.get M.next = some (.cells (N5 0) 0 .yes) := by rw [k4.get _ (by omega), e3 _ (by omega) (by omega) (by omega) (by omega), k2.get _ (by omega), e1 _ (by omega) (by omega) (by omega) (by omega) (by omega) (by omega) (by omega)]; exact g0
  let M5 : AMem := M4.set M.next (.cells (N5 0) 0 .yes)
  have r5 : M5.row M.next = some (N5 0) := row_cells (s := 0) (l := .yes) (by show (M4.set _ _).get _ = _; rw [AMem.get_set, if_pos rfl])
  have hk4 := k4.next
  have e5 : ∀ t, t ≠ M.next → M5.get t = M4.get t := fun t ht => by show (M4.set _ _).get t = _; rw [AMem.get_set, if_neg ht]
  have hb0 : b ≠ M.next := by
    rintro rfl
    have := h1.gb
    rw [e1 _ (by omega) (by omega) (by omega) (by omega) (by omega) (by omega) (by omega), g0] at this
    simp at this
  have hx : ∀ t, t < M1.next → t ≠ M.next → t ≠ h → t ≠ lk → t ≠ fr → M5.get t = M1.get t := fun t q1 q2 q3 q4 q5 => by rw [e5 t q2, k4.get _ (by omega), e3 _ (by omega) q3 q4 q5, k2.get _ (by omega)]
  have hx3 : ∀ t, t < M3.next → t ≠ M.next → M5.get t = M3.get t := fun t q1 q2 => by rw [e5 t q2, k4.get _ q1]
  have hn5 : M5.next = M4.next := rfl
  refine ⟨M5, ?_, h3.same (hx3 _ (by omega) (by omega)) (hx3 _ (by omega) (by omega)) (hx3 _ (by omega) (by omega)) (hx3 _ (by omega) hb0) (by omega), hch3.same (hx3 _ (by omega) (by omega)) (hx3 _ (by omega) (by omega)) (by omega), hd1.same (hx _ hdl (by omega) (by omega) (by omega) (by omega)) ?_ (by omega), by omega, fun t q0 q1 q2 q3 q4 q5 q6 => ?_⟩
  · rw [acall_run Tryz.func12 (hF 12 rfl), load_eq, show acall Tryz.prog H m 28 [.ptr (some (s, 0)), .int .u32 i] (M.new (ABlk.cells [AV.int IntKind.i64 0, AV.slice none 0 (some 0), AV.slice none 0 (some 0), AV.slice none 0 (some 0), AV.slice none 0 (some 0)] 0 Cl.yes)) = _ from hth]
    rw [bO, aI, show (!eqI 0 0) = false from rfl, iF, row_cells gs0, bO]
    simp only [List.getElem?_cons_zero, List.getElem?_cons_succ]
    rw [bO, aP, r1, bO, aI, show (!eqI 0 0) = false from rfl, iF, row_cells s1, bO]
    simp only [List.getElem?_cons_zero, List.getElem?_cons_succ]
    rw [bO, aP, r2, bO, aT, aC, aL, aC, aI, aN, row_cells s2, bO]
    simp only [List.getElem?_cons_zero, List.getElem?_cons_succ]
    rw [bO, aP, r3, bO, aI, show (!eqI 0 0) = false from rfl, iF, row_cells s3, bO]
    rw [if_pos (show 0 + 8 ≤ (shelfC c0 c1 c2 c3 c4 c5 c6 c7 d c p).length by show 0 + 8 ≤ 12; omega)]
    rw [show List.take 8 (List.drop 0 (shelfC c0 c1 c2 c3 c4 c5 c6 c7 d c p)) = C8 c0 c1 c2 c3 c4 c5 c6 c7 from rfl]
    rw [bO, aG, aC, aI, aC, aI, aC, aI, aC, aI, aC, aI, aC, aI, aC, aI, aC, aI, aN]
    rw [r4, bO, aT, aC, aG, aC, aI, aC, aL, aC, aL, aC, aL, aC, aL, aN, aC, aI, aN]
    rw [put5' g4, bO]
    rw [show (M4.set M.next (ABlk.cells (N5 0) 0 Cl.yes)).row M.next = _ from r5]
    rw [bO, take5, bO, aG, aC, aI, aC, aL, aC, aL, aC, aL, aC, aL, aN]
  · exact hx _ hdi (by omega) (by omega) (by omega) (by omega)
  · rw [hx t (by omega) (by omega) q5 q6 q2, e1 t (by omega) q1 q2 q3 q4 q5 q6, k0.get _ q0]
end
end Go.Proofs.YtfpgakjikmakkaaGreatDoor
