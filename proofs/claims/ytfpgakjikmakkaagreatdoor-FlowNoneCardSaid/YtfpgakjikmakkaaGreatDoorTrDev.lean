/-
  A new device, its blocks and bytes; a new chain.
-/
import Derived.Test.YtfpgakjikmakkaaGreatDoorTrEq
import Derived.Test.YtfpgakjikmakkaaGreatDoorTrSet
namespace Go.Proofs.YtfpgakjikmakkaaGreatDoor
open Go.Ab
set_option linter.unusedVariables false
set_option linter.unusedSimpArgs false
set_option linter.unusedSectionVars false
set_option maxRecDepth 100000

/-- a device of noughts -/
structure DevIs (M : AMem) (d img : Nat) (B Y : Int) (r w : Int) : Prop where
  get : M.get d = some (.cells [.int .i64 Y, .slice (some (img, 0)) (B * Y).toNat (some (B * Y).toNat), .int .u64 r, .int .u64 w] 0 .yes)
  cells : M.get img = some (.cells (repA [.int .u8 0] (B * Y).toNat) 0 .yes)
  b5 : 5 ≤ B
  b6 : B ≤ 65536
  y1 : 1 ≤ Y
  y6 : Y ≤ 65536
  lt : d < M.next
  ilt : img < M.next
  ne : img ≠ d

theorem DevIs.row {M : AMem} {d img : Nat} {B Y r w : Int} (h : DevIs M d img B Y r w) : M.row d = some [.int .i64 Y, .slice (some (img, 0)) (B * Y).toNat (some (B * Y).toNat), .int .u64 r, .int .u64 w] := row_cells h.get
theorem DevIs.mul {M : AMem} {d img : Nat} {B Y r w : Int} (h : DevIs M d img B Y r w) : 0 ≤ B * Y ∧ B * Y ≤ 65536 * 65536 :=
  ⟨Int.mul_nonneg (by have := h.b5; omega) (by have := h.y1; omega), Int.mul_le_mul h.b6 h.y6 (by have := h.y1; omega) (by omega)⟩
theorem DevIs.keeps {M M' : AMem} {d img : Nat} {B Y r w : Int} (h : DevIs M d img B Y r w) {b : Nat} (k : Keeps b M M') (hd : d < b) (hi : img < b) : DevIs M' d img B Y r w :=
  ⟨by rw [k.get _ hd, h.get], by rw [k.get _ hi, h.cells], h.b5, h.b6, h.y1, h.y6, Nat.lt_of_lt_of_le h.lt k.next, Nat.lt_of_lt_of_le h.ilt k.next, h.ne⟩

theorem bytes5 : Tryz.prog.types[5].bytes = 1 := by kernel_rfl

section
variable {H : Hook} (hF : Free H)
include hF

theorem devright_run {B Y : Int} (b5 : 5 ≤ B) (b6 : B ≤ 65536) (y1 : 1 ≤ Y) (y6 : Y ≤ 65536) (M : AMem) {m : Nat} (hm : 1 ≤ m) : acall Tryz.prog H m 54 [.int .i64 B, .int .i64 Y] M = some (.bool true, M) := by
  obtain ⟨m, rfl⟩ : ∃ k, m = k + 1 := ⟨m - 1, by omega⟩
  rw [acall_run Tryz.func54 (hF 54 rfl), devright_eq]
  simp only [leI_eq, decide_eq_true b5, decide_eq_true b6, decide_eq_true y1, decide_eq_true y6, iT]

theorem devnew_run {B Y : Int} (b5 : 5 ≤ B) (b6 : B ≤ 65536) (y1 : 1 ≤ Y) (y6 : Y ≤ 65536) (M : AMem) {m : Nat} (hm : 2 ≤ m) : ∃ M', acall Tryz.prog H m 25 [.int .i64 B, .int .i64 Y] M = some (.tup [.ptr (some (M.next + 1, 0)), .int .i64 0], M') ∧ DevIs M' (M.next + 1) M.next B Y 0 0 ∧ Keeps M.next M M' ∧ M'.next = M.next + 2 := by
  obtain ⟨m, rfl⟩ : ∃ k, m = k + 1 := ⟨m - 1, by omega⟩
  have p0 : 0 ≤ B * Y := Int.mul_nonneg (by omega) (by omega)
  have p1 : B * Y ≤ 65536 * 65536 := Int.mul_le_mul b6 y6 (by omega) (by omega)
  let M1 : AMem := M.new (.cells (repA [.int .u8 0] (B * Y).toNat) 0 .yes)
  let M2 : AMem := M1.new (.cells [.int .i64 Y, .slice (some (M.next, 0)) (B * Y).toNat (some (B * Y).toNat), .int .u64 0, .int .u64 0] 0 .yes)
  refine ⟨M2, ?_, ⟨?_, ?_, b5, b6, y1, y6, Nat.lt_succ_self _, Nat.lt_succ_of_lt (Nat.lt_succ_self _), by omega⟩, (Keeps.new (M := M) (.cells (repA [.int .u8 0] (B * Y).toNat) 0 .yes) (Nat.le_refl _)).trans (Keeps.new (M := M1) _ (Nat.le_succ _)) (Nat.le_refl _), rfl⟩
  · rw [acall_run Tryz.func25 (hF 25 rfl), devnew_eq, devright_run hF b5 b6 y1 y6 M (m := m) (by omega)]
    simp only [bO, aB, Bool.not_true, iF, forceI_eq]
    rw [wrap_i64 (x := B * Y) (by omega) (by omega), bytes5, decide_eq_true p0, decide_eq_true (Int.le_refl _), decide_eq_true (show B * Y ≤ 140737488355328 by omega), decide_eq_true (show (B * Y).toNat * 1 ≤ 140737488355328 by omega)]
    rfl
  · show (M1.new _).get (M.next + 1) = _
    rw [AMem.get_new, if_pos (show M.next + 1 = M1.next from rfl)]
  · show (M1.new _).get M.next = _
    rw [AMem.get_new, if_neg (show ¬ M.next = M1.next by show ¬ M.next = M.next + 1; omega)]
    show (M.new _).get M.next = _
    rw [AMem.get_new, if_pos rfl]

theorem devblocks_run {M : AMem} {d img : Nat} {B Y r w : Int} (h : DevIs M d img B Y r w) {m : Nat} (hm : 1 ≤ m) : acall Tryz.prog H m 57 [.ptr (some (d, 0))] M = some (.int .i64 B, M) := by
  obtain ⟨m, rfl⟩ : ∃ k, m = k + 1 := ⟨m - 1, by omega⟩
  have hm' := h.mul
  have y1 := h.y1
  have b5 := h.b5
  have b6 := h.b6
  rw [acall_run Tryz.func57 (hF 57 rfl), devblocks_eq]
  simp only [h.row, bO, aI, aL, List.getElem?_cons_zero, List.getElem?_cons_succ]
  rw [eqI_eq, show (Y == 0) = false by rw [beq_eq_false_iff_ne]; omega, iF]
  rw [show (!(false : Bool)) = true from rfl, sT]
  simp only [bO, aI]
  rw [show (((B * Y).toNat : Nat) : Int) = B * Y by omega, Int.mul_tdiv_cancel _ (by omega), wrap_i64 (by omega) (by omega)]

theorem devbytes_run {M : AMem} {d img : Nat} {B Y r w : Int} (h : DevIs M d img B Y r w) {m : Nat} (hm : 1 ≤ m) : acall Tryz.prog H m 58 [.ptr (some (d, 0))] M = some (.int .i64 Y, M) := by
  obtain ⟨m, rfl⟩ : ∃ k, m = k + 1 := ⟨m - 1, by omega⟩
  rw [acall_run Tryz.func58 (hF 58 rfl), devbytes_eq]
  simp only [h.row, bO, aI, aL, List.getElem?_cons_zero, List.getElem?_cons_succ]
end
end Go.Proofs.YtfpgakjikmakkaaGreatDoor

/-
  A new pool.
-/
namespace Go.Proofs.YtfpgakjikmakkaaGreatDoor
open Go.Ab
set_option linter.unusedVariables false
set_option linter.unusedSimpArgs false
set_option linter.unusedSectionVars false
set_option maxRecDepth 100000

/-- a row of places, 'c' of which are taken; its words lie in block 'wd' -/
structure RowIs (M : AMem) (r wd : Nat) (n c : Int) (ws : List AV) : Prop where
  get : M.get r = some (.cells [.int .i64 n, .int .i64 c, .slice (some (wd, 0)) ((n + 63) / 64).toNat (some ((n + 63) / 64).toNat)] 0 .yes)
  words : M.get wd = some (.cells ws 0 .yes)
  n1 : 1 ≤ n
  n6 : n ≤ 65536
  len : ws.length = ((n + 63) / 64).toNat
  lt : r < M.next
  wlt : wd < M.next
  ne : wd ≠ r

theorem RowIs.row {M : AMem} {r wd : Nat} {n c : Int} {ws : List AV} (h : RowIs M r wd n c ws) : M.row r = some [.int .i64 n, .int .i64 c, .slice (some (wd, 0)) ((n + 63) / 64).toNat (some ((n + 63) / 64).toNat)] := row_cells h.get

theorem bytes110 : Tryz.prog.types[98].bytes = 8 := by kernel_rfl

section
variable {H : Hook} (hF : Free H)
include hF

theorem bitsnew_run {n : Int} (n1 : 1 ≤ n) (n6 : n ≤ 65536) (M : AMem) {m : Nat} (hm : 1 ≤ m) : ∃ M', acall Tryz.prog H m 107 [.int .i64 n] M = some (.tup [.ptr (some (M.next + 1, 0)), .int .i64 0], M') ∧ RowIs M' (M.next + 1) M.next n 0 (repA [.int .u64 0] ((n + 63) / 64).toNat) ∧ Keeps M.next M M' := by
  obtain ⟨m, rfl⟩ : ∃ k, m = k + 1 := ⟨m - 1, by omega⟩
  let q : Int := (n + 63) / 64
  have q1 : 1 ≤ q := by show 1 ≤ (n + 63) / 64; omega
  have q2 : q ≤ 1024 := by show (n + 63) / 64 ≤ 1024; omega
  let M1 : AMem := M.new (.cells (repA [.int .u64 0] q.toNat) 0 .yes)
  let M2 : AMem := M1.new (.cells [.int .i64 n, .int .i64 0, .slice (some (M.next, 0)) q.toNat (some q.toNat)] 0 .yes)
  refine ⟨M2, ?_, ⟨?_, ?_, n1, n6, by rw [repA_length]; simp, Nat.lt_succ_self _, Nat.lt_succ_of_lt (Nat.lt_succ_self _), by omega⟩, (Keeps.new (M := M) (.cells (repA [.int .u64 0] q.toNat) 0 .yes) (Nat.le_refl _)).trans (Keeps.new (M := M1) _ (Nat.le_succ _)) (Nat.le_refl _)⟩
  · rw [acall_run Tryz.func107 (hF 107 rfl), bitsnew_eq]
    rw [ltI_eq, decide_eq_false (by omega), iF, ltI_eq, decide_eq_false (by omega), iF]
    simp only [forceI_eq]
    rw [wrap_i64 (x := n + 64) (by omega) (by omega), wrap_i64 (x := n + 64 - 1) (by omega) (by omega), show n + 64 - 1 = n + 63 by omega, Int.tdiv_eq_ediv_of_nonneg (show 0 ≤ n + 63 by omega), wrap_i64 (x := (n + 63) / 64) (by omega) (by omega), bytes110]
    rw [decide_eq_true (show 0 ≤ (n + 63) / 64 by omega), decide_eq_true (Int.le_refl _), decide_eq_true (show (n + 63) / 64 ≤ 140737488355328 by omega), decide_eq_true (show ((n + 63) / 64).toNat * 8 ≤ 140737488355328 by omega)]
    rfl
  · show (M1.new _).get (M.next + 1) = _
    rw [AMem.get_new, if_pos (show M.next + 1 = M1.next from rfl)]
  · show (M1.new _).get M.next = _
    rw [AMem.get_new, if_neg (show ¬ M.next = M1.next by show ¬ M.next = M.next + 1; omega)]
    show (M.new _).get M.next = _
    rw [AMem.get_new, if_pos rfl]

theorem bitslen_run {M : AMem} {r wd : Nat} {n c : Int} {ws : List AV} (h : RowIs M r wd n c ws) {m : Nat} (hm : 1 ≤ m) : acall Tryz.prog H m 61 [.ptr (some (r, 0))] M = some (.int .i64 n, M) := by
  obtain ⟨m, rfl⟩ : ∃ k, m = k + 1 := ⟨m - 1, by omega⟩
  rw [acall_run Tryz.func61 (hF 61 rfl), bitslen_eq]
  simp only [h.row, bO, aI, List.getElem?_cons_zero]

theorem there0_run {M : AMem} {r wd : Nat} {n c : Int} {ws : List AV} (h : RowIs M r wd n c ws) {m : Nat} (hm : 2 ≤ m) : acall Tryz.prog H m 135 [.ptr (some (r, 0)), .int .i64 0] M = some (.int .i64 0, M) := by
  obtain ⟨m, rfl⟩ : ∃ k, m = k + 1 := ⟨m - 1, by omega⟩
  have n1 := h.n1
  rw [acall_run Tryz.func135 (hF 135 rfl), bitsthere_eq, bitslen_run hF h (m := m) (by omega)]
  simp only [bO, aI, h.row, List.getElem?_cons_zero]
  rw [eqI_eq, show (n == 0) = false by rw [beq_eq_false_iff_ne]; omega, iF, ltI_eq, decide_eq_false (by omega), iF, leI_eq, decide_eq_false (by omega), iF]

theorem has0_run {M : AMem} {r wd : Nat} {n c : Int} {ws : List AV} (h : RowIs M r wd n c ws) (h0 : ws[0]? = some (.int .u64 0)) {m : Nat} (hm : 3 ≤ m) : acall Tryz.prog H m 136 [.ptr (some (r, 0)), .int .i64 0] M = some (.bool false, M) := by
  obtain ⟨m, rfl⟩ : ∃ k, m = k + 1 := ⟨m - 1, by omega⟩
  have n1 := h.n1
  rw [acall_run Tryz.func136 (hF 136 rfl), bitshas_eq, there0_run hF h (m := m) (by omega)]
  simp only [bO, aI, aL, h.row, List.getElem?_cons_zero, List.getElem?_cons_succ]
  rw [show eqI 0 0 = true from rfl, iT, show IntKind.i64.wrap ((0 : Int).tdiv 64) = 0 from rfl, decide_eq_true (show (0 : Int) ≤ 0 by omega), decide_eq_true (show (0 : Int) < ((((n + 63) / 64).toNat : Nat) : Int) by omega)]
  simp only [Bool.and_self, nT, bO, row_cells h.words, Int.toNat_zero, Nat.zero_mul, Nat.add_zero, h0, aI]
  rfl

/-- the word whose first digit was set -/
def one64 : AV := .int .u64 (IntKind.u64.wrap (↑(BitVec.ofInt 64 0 ||| BitVec.ofInt 64 (IntKind.u64.wrap (1 * 2 ^ min ((0 : Int).tmod 64).toNat 64))).toNat : Int))

theorem set0_run {M : AMem} {r wd : Nat} {n c : Int} {ws : List AV} (h : RowIs M r wd n c ws) (h0 : ws[0]? = some (.int .u64 0)) (c0 : 0 ≤ c) (c1 : c ≤ 65536) {m : Nat} (hm : 4 ≤ m) :
    ∃ M', acall Tryz.prog H m 108 [.ptr (some (r, 0)), .int .i64 0] M = some (.int .i64 0, M') ∧ RowIs M' r wd n (c + 1) (one64 :: ws.drop 1) ∧ M'.next = M.next ∧ ∀ q, q ≠ r → q ≠ wd → M'.get q = M.get q := by
  obtain ⟨m, rfl⟩ : ∃ k, m = k + 1 := ⟨m - 1, by omega⟩
  have n1 := h.n1
  have hlen := h.len
  have hl1 : 0 + 1 ≤ ws.length := by omega
  let M1 : AMem := M.set wd (.cells (one64 :: ws.drop 1) 0 .yes)
  have g1 : M1.get r = some (.cells [.int .i64 n, .int .i64 c, .slice (some (wd, 0)) ((n + 63) / 64).toNat (some ((n + 63) / 64).toNat)] 0 .yes) := by
    show (M.set _ _).get r = _
    rw [AMem.get_set, if_neg (Ne.symm h.ne), h.get]
  let M2 : AMem := M1.set r (.cells [.int .i64 n, .int .i64 (c + 1), .slice (some (wd, 0)) ((n + 63) / 64).toNat (some ((n + 63) / 64).toNat)] 0 .yes)
  refine ⟨M2, ?_, ⟨?_, ?_, n1, h.n6, ?_, h.lt, h.wlt, h.ne⟩, rfl, fun q q1 q2 => ?_⟩
  · rw [acall_run Tryz.func108 (hF 108 rfl), bitsset_eq, there0_run hF h (m := m) (by omega)]
    simp only [bO, aI]
    rw [show eqI 0 0 = true from rfl, Bool.not_true, iF, has0_run hF h h0 (m := m) (by omega)]
    simp only [bO, aB, iF, h.row, List.getElem?_cons_zero, List.getElem?_cons_succ, aL]
    rw [show IntKind.i64.wrap ((0 : Int).tdiv 64) = 0 from rfl, decide_eq_true (show (0 : Int) ≤ 0 by omega), decide_eq_true (show (0 : Int) < ((((n + 63) / 64).toNat : Nat) : Int) by omega)]
    simp only [Bool.and_self, nT, bO, aP, row_cells h.words, Int.toNat_zero, Nat.zero_mul, Nat.add_zero, h0, aI]
    rw [show decide ((0 : Int) ≤ (0 : Int).tmod 64) = true from rfl, sT]
    simp only [bO, aI, aP, h.words, gC, if_pos hl1]
    show bindO (some M1) _ = _
    rw [bO, row_cells g1]
    simp only [bO, aI, List.getElem?_cons_zero, List.getElem?_cons_succ, forceI_eq, g1, gC]
    rw [wrap_i64 (x := c + 1) (by omega) (by omega)]
    rfl
  · show (M1.set _ _).get r = _
    rw [AMem.get_set, if_pos rfl]
  · show (M1.set _ _).get wd = _
    rw [AMem.get_set, if_neg h.ne]
    show (M.set _ _).get wd = _
    rw [AMem.get_set, if_pos rfl]
  · rw [List.length_cons, List.length_drop]; omega
  · show (M1.set _ _).get q = _
    rw [AMem.get_set, if_neg q1]
    show (M.set _ _).get q = _
    rw [AMem.get_set, if_neg q2]

theorem poolnew_run {n : Int} (n1 : 5 ≤ n) (n6 : n ≤ 65536) (M : AMem) {m : Nat} (hm : 10 ≤ m) : ∃ p r wd ws M', acall Tryz.prog H m 59 [.int .i64 n] M = some (.tup [.ptr (some (p, 0)), .int .i64 0], M') ∧ M'.get p = some (.cells [.ptr (some (r, 0))] 0 .yes) ∧ RowIs M' r wd n 1 ws ∧ M.next ≤ p ∧ M.next ≤ r ∧ M.next ≤ wd ∧ p < M'.next ∧ Keeps M.next M M' := by
  obtain ⟨m, rfl⟩ : ∃ k, m = k + 1 := ⟨m - 1, by omega⟩
  obtain ⟨M1, r1, h1, k1⟩ := bitsnew_run hF (n := n) (by omega) n6 M (m := m) (by omega)
  have h0 : (repA [AV.int .u64 0] ((n + 63) / 64).toNat)[0]? = some (.int .u64 0) := by
    rw [repA_get, if_pos (by simp; omega)]
    rfl
  obtain ⟨M2, r2, h2, e2, g2⟩ := set0_run hF h1 h0 (by omega) (by omega) (m := m) (by omega)
  have k2 : Keeps M.next M1 M2 := ⟨Nat.le_of_eq e2.symm, fun q hq => g2 q (by omega) (by omega)⟩
  let M3 : AMem := M2.new (.cells [.ptr (some (M.next + 1, 0))] 0 .yes)
  have k3 : Keeps M2.next M2 M3 := Keeps.new _ (Nat.le_refl _)
  have hn : M.next ≤ M2.next := by have := k1.next; omega
  refine ⟨M2.next, M.next + 1, M.next, _, M3, ?_, ?_, ⟨?_, ?_, h2.n1, h2.n6, h2.len, Nat.lt_succ_of_lt h2.lt, Nat.lt_succ_of_lt h2.wlt, h2.ne⟩, hn, Nat.le_succ _, Nat.le_refl _, Nat.lt_succ_self _, (k1.trans k2 (Nat.le_refl _)).trans k3 hn⟩
  · rw [acall_run Tryz.func59 (hF 59 rfl), poolnew_eq, ltI_eq, decide_eq_false (by omega), iF, r1]
    simp only [bO, aT, aC, aP, aI, aN]
    rw [show eqI 0 0 = true from rfl, Bool.not_true, iF, r2]
    rfl
  · show (M2.new _).get M2.next = _
    rw [AMem.get_new, if_pos rfl]
  · rw [k3.get _ h2.lt]; exact h2.get
  · rw [k3.get _ h2.wlt]; exact h2.words
end
end Go.Proofs.YtfpgakjikmakkaaGreatDoor

/-
  A new chain.
-/
namespace Go.Proofs.YtfpgakjikmakkaaGreatDoor
open Go.Ab
set_option linter.unusedVariables false
set_option linter.unusedSimpArgs false
set_option linter.unusedSectionVars false
set_option maxRecDepth 100000

/-- a chain of n numbers of which none is in the row -/
structure ChIs (M : AMem) (h lk n : Nat) : Prop where
  get : M.get h = some (.cells [.slice (some (lk, 0)) (n + 1) (some (n + 1)), .int .i64 0] 0 .yes)
  links : ∃ L, M.get lk = some (.cells L 0 .yes) ∧ L.length = (n + 1) * 3 ∧ (∀ f, f < n → L[f * 3]? = some (.int .i64 0) ∧ L[f * 3 + 1]? = some (.int .i64 0) ∧ L[f * 3 + 2]? = some (.bool false)) ∧
    L[n * 3]? = some (.int .i64 n) ∧ L[n * 3 + 1]? = some (.int .i64 n) ∧ L[n * 3 + 2]? = some (.bool false)
  lt : h < M.next
  llt : lk < M.next
  ne : lk ≠ h

theorem bytes185 : Tryz.prog.types[169].bytes = 24 := by kernel_rfl

abbrev link0 : List AV := [.int .i64 0, .int .i64 0, .bool false]

theorem rep3_get (n f j : Nat) (hf : f < n) (hj : j < 3) : (repA link0 n)[f * 3 + j]? = link0[j]? := by
  rw [repA_get, if_pos (show f * 3 + j < n * link0.length by show f * 3 + j < n * 3; omega)]
  rw [show (f * 3 + j) % link0.length = j by show (f * 3 + j) % 3 = j; omega]

section
variable {H : Hook} (hF : Free H)
include hF

theorem chainnew_run {n : Nat} (n1 : 1 ≤ n) (n6 : n ≤ 4096) (M : AMem) {m : Nat} (hm : 1 ≤ m) : ∃ M', acall Tryz.prog H m 106 [.int .i64 (n : Int)] M = some (.tup [.ptr (some (M.next + 1, 0)), .int .i64 0], M') ∧ ChIs M' (M.next + 1) M.next n ∧ Keeps M.next M M' := by
  obtain ⟨m, rfl⟩ : ∃ k, m = k + 1 := ⟨m - 1, by omega⟩
  let R : List AV := repA link0 (n + 1)
  have hR : R.length = (n + 1) * 3 := repA_length (n + 1)
  let M1 : AMem := M.new (.cells R 0 .yes)
  let M2 : AMem := M1.new (.cells [.slice (some (M.next, 0)) (n + 1) (some (n + 1)), .int .i64 0] 0 .yes)
  let L : List AV := ((List.take (0 + n * 3) R).append [.int .i64 n, .int .i64 n, .bool false]).append (List.drop (0 + n * 3 + 3) R)
  let M3 : AMem := M2.set M.next (.cells L 0 .yes)
  have g1 : M2.get M.next = some (.cells R 0 .yes) := by
    show (M1.new _).get M.next = _
    rw [AMem.get_new, if_neg (show ¬ M.next = M1.next by show ¬ M.next = M.next + 1; omega)]
    show (M.new _).get M.next = _
    rw [AMem.get_new, if_pos rfl]
  have g2 : M2.get (M.next + 1) = some (.cells [.slice (some (M.next, 0)) (n + 1) (some (n + 1)), .int .i64 0] 0 .yes) := by
    show (M1.new _).get (M.next + 1) = _
    rw [AMem.get_new, if_pos (show M.next + 1 = M1.next from rfl)]
  have hT : (List.take (0 + n * 3) R).length = n * 3 := by rw [List.length_take, hR]; omega
  have hTop : ∀ j, j < 3 → L[n * 3 + j]? = ([.int .i64 n, .int .i64 n, .bool false] : List AV)[j]? := fun j hj => by
    show (((List.take (0 + n * 3) R) ++ [.int .i64 n, .int .i64 n, .bool false]) ++ (List.drop (0 + n * 3 + 3) R))[n * 3 + j]? = _
    rw [List.getElem?_append_left (by rw [List.length_append, hT]; simp; omega), List.getElem?_append_right (by rw [hT]; omega), hT, Nat.add_sub_cancel_left]
  have hLow : ∀ f j, f < n → j < 3 → L[f * 3 + j]? = link0[j]? := fun f j hf hj => by
    show (((List.take (0 + n * 3) R) ++ [.int .i64 n, .int .i64 n, .bool false]) ++ (List.drop (0 + n * 3 + 3) R))[f * 3 + j]? = _
    rw [List.getElem?_append_left (by rw [List.length_append, hT]; simp; omega), List.getElem?_append_left (by rw [hT]; omega), List.getElem?_take, if_pos (by omega)]
    exact rep3_get (n + 1) f j (by omega) hj
  refine ⟨M3, ?_, ⟨?_, ⟨L, ?_, ?_, fun f hf => ⟨hLow f 0 hf (by omega), hLow f 1 hf (by omega), hLow f 2 hf (by omega)⟩, hTop 0 (by omega), hTop 1 (by omega), hTop 2 (by omega)⟩, Nat.lt_succ_self _, Nat.lt_succ_of_lt (Nat.lt_succ_self _), by omega⟩,
    ((Keeps.new (M := M) (.cells R 0 .yes) (Nat.le_refl _)).trans (Keeps.new (M := M1) _ (Nat.le_succ _)) (Nat.le_refl _)).trans (Keeps.set (M := M2) _ (Nat.le_refl M.next)) (Nat.le_refl _)⟩
  · rw [acall_run Tryz.func106 (hF 106 rfl), chainnew_eq, ltI_eq, decide_eq_false (by omega), iF, ltI_eq, decide_eq_false (by omega), iF]
    simp only [forceI_eq]
    rw [wrap_i64 (x := (n : Int) + 1) (by omega) (by omega), bytes185, decide_eq_true (show 0 ≤ (n : Int) + 1 by omega), decide_eq_true (Int.le_refl _), decide_eq_true (show (n : Int) + 1 ≤ 140737488355328 by omega), decide_eq_true (show ((n : Int) + 1).toNat * 24 ≤ 140737488355328 by omega)]
    rw [show ((n : Int) + 1).toNat = n + 1 by omega]
    simp only [Bool.and_self, nT]
    rw [show ((M.new (ABlk.cells (repA [AV.int IntKind.i64 0, AV.int IntKind.i64 0, AV.bool false] (n + 1)) 0 Cl.yes)).new (ABlk.cells [AV.slice (some (M.next, 0)) (n + 1) (some (n + 1)), AV.int IntKind.i64 0] 0 Cl.yes)).row (M.new (ABlk.cells (repA [AV.int IntKind.i64 0, AV.int IntKind.i64 0, AV.bool false] (n + 1)) 0 Cl.yes)).next = _ from row_cells g2]
    simp only [bO, aL, List.getElem?_cons_zero]
    rw [decide_eq_true (show 0 ≤ (n : Int) by omega), decide_eq_true (show (n : Int) < ((n + 1 : Nat) : Int) by omega)]
    simp only [Bool.and_self, nT, bO, Int.toNat_natCast]
    rw [show ((M.new (ABlk.cells (repA [AV.int IntKind.i64 0, AV.int IntKind.i64 0, AV.bool false] (n + 1)) 0 Cl.yes)).new (ABlk.cells [AV.slice (some (M.next, 0)) (n + 1) (some (n + 1)), AV.int IntKind.i64 0] 0 Cl.yes)).get M.next = _ from g1, gC]
    rw [if_pos (show 0 + n * 3 + (1 + 1 + 1) ≤ R.length by rw [hR]; omega), bO]
    rfl
  · show (M2.set _ _).get (M.next + 1) = _
    rw [AMem.get_set, if_neg (by omega), g2]
  · show (M2.set _ _).get M.next = _
    rw [AMem.get_set, if_pos rfl]
  · show (((List.take (0 + n * 3) R) ++ ([.int .i64 n, .int .i64 n, .bool false] : List AV)) ++ (List.drop (0 + n * 3 + 3) R)).length = _
    rw [List.length_append, List.length_append, hT, List.length_drop, hR]
    simp
    omega
end
end Go.Proofs.YtfpgakjikmakkaaGreatDoor

/-
  A slice of whole numbers that grew of nothing.
-/
namespace Go.Ab
set_option linter.unusedVariables false
set_option linter.unusedSectionVars false
set_option linter.unusedSimpArgs false
set_option linter.unusedSimpArgs false

def intCells (ns : List Int) : List AV := ns.map (AV.int .i64)
theorem intCells_len (ns : List Int) : (intCells ns).length = ns.length := List.length_map ..

/-- a slice of numbers that grew of nothing; its row lies from 'lo' on -/
structure IGr (lo : Nat) (M : AMem) (u : Option (Nat × Nat)) (l : Nat) (c : Option Nat) (ns : List Int) : Prop where
  len : l = ns.length
  is : (ns = [] ∧ c = some 0) ∨ (∃ k, u = some (k, 0) ∧ c = none ∧ 0 < l ∧ lo ≤ k ∧ k < M.next ∧ M.get k = some (.cells (intCells ns) 1 .yes))

theorem IGr.moved {lo : Nat} {M M' : AMem} {u : Option (Nat × Nat)} {l : Nat} {c : Option Nat} {ns : List Int} (h : IGr lo M u l c ns) (hn : M.next ≤ M'.next) (k : ∀ q, lo ≤ q → q < M.next → M'.get q = M.get q) : IGr lo M' u l c ns := by
  refine ⟨h.len, ?_⟩
  rcases h.is with h | ⟨j, h1, h2, h3, h4, h5, h6⟩
  · exact .inl h
  · exact .inr ⟨j, h1, h2, h3, h4, Nat.lt_of_lt_of_le h5 hn, (k j h4 h5).trans h6⟩

theorem append_int {P : Program} {st e : TypeId} {ie : TypeInfo} {z : AV} (hu : P.underlying st = some (.slice e)) (hcl : byteCl P e = .yes) (hi : P.info? e = some ie) (hz : zeroA P e = some z) (h1 : z.cells.length = 1) (h2 : ie.size = 1) (h3 : ie.bytes ≤ 64)
    {lo : Nat} {M : AMem} {u : Option (Nat × Nat)} {l : Nat} {c : Option Nat} {ns : List Int} {x : Int} {a : Nat} {k : Option Nat} (h : IGr lo M u l c ns) (hlo : lo ≤ M.next) (ha : M.row a = some [.int .i64 x]) (hl : l ≤ 1000000) :
    ∃ M', appendA P M st st u l c (.slice (some (a, 0)) 1 k) = some ((some (M.next, 0), l + 1, none), M') ∧ IGr lo M' (some (M.next, 0)) (l + 1) none (ns ++ [x]) ∧ Keeps lo M M' ∧ M'.next = M.next + 1 ∧ ∀ q, q < M.next → (∀ j, u = some (j, 0) → lo ≤ j → q ≠ j) → M'.get q = M.get q := by
  have hsrc : srcCells M 1 1 (.slice (some (a, 0)) 1 k) = some [.int .i64 x] := by
    unfold srcCells
    simp only [Nat.le_refl, if_true, Nat.one_ne_zero, if_false]
    unfold cellsFrom
    rw [show M.row (a, 0).1 = some [.int .i64 x] from ha]
    rfl
  have hroom : (l + 1) * ie.bytes ≤ roomA ∧ l + 1 ≤ roomA := by
    have : (l + 1) * ie.bytes ≤ 1000001 * 64 := Nat.mul_le_mul (by omega) h3
    unfold roomA; omega
  have key : appendA P M st st u l c (.slice (some (a, 0)) 1 k) = growA M e .yes 1 u l c 1 [.int .i64 x] := by
    unfold appendA
    simp only [hu, hi, hz, h1, h2, hcl, ne_eq, not_true_eq_false, show ¬ (1 : Nat) = 0 from by decide, or_self, if_false, srcLen, Option.map_some, hsrc]
    rw [if_pos hroom]
  have hlen := h.len
  have e1 : intCells (ns ++ [x]) = intCells ns ++ [.int .i64 x] := by unfold intCells; rw [List.map_append]; rfl
  rw [key]
  rcases h.is with ⟨rfl, rfl⟩ | ⟨j, rfl, rfl, hpos, hlj, hjn, hg⟩
  · have hl0 : l = 0 := hlen
    subst hl0
    refine ⟨M.new (.cells [.int .i64 x] 1 .yes), ?_, ⟨by simp, .inr ⟨M.next, rfl, rfl, by omega, hlo, Nat.lt_succ_self _, by rw [AMem.get_new, if_pos rfl]; rfl⟩⟩, Keeps.new _ hlo, rfl, fun q hq _ => by rw [AMem.get_new, if_neg (by omega)]⟩
    have hs0 : srcCells M 1 0 (.slice u 0 (some 0)) = some [] := by
      unfold srcCells
      cases u <;> simp
    unfold growA
    rw [if_neg (by omega)]
    simp only
    rw [if_neg (by omega), hs0]
    rfl
  · have hold : srcCells M 1 l (.slice (some (j, 0)) l none) = some (intCells ns) := by
      unfold srcCells
      simp only [Nat.le_refl, if_true, show ¬ l = 0 by omega, if_false]
      unfold cellsFrom
      rw [show M.row (j, 0).1 = some (intCells ns) from row_cells hg]
      have e2 : (intCells ns).length = l * 1 := by rw [intCells_len, hlen, Nat.mul_one]
      simp only [Nat.zero_add, e2, Nat.le_refl, if_true, List.drop_zero, List.take_of_length_le (Nat.le_of_eq e2)]
    have hput : putAt (intCells ns) (0 + l * 1) [.int .i64 x] = none := by
      unfold putAt
      rw [if_neg]
      rw [intCells_len, hlen]; simp
    refine ⟨(M.kill j).new (.cells (intCells ns ++ [.int .i64 x]) 1 .yes), ?_, ⟨by rw [List.length_append, hlen]; rfl, .inr ⟨M.next, rfl, rfl, by omega, hlo, Nat.lt_succ_self _, ?_⟩⟩, (Keeps.kill hlj).trans (Keeps.new _ hlo) (Nat.le_refl _), rfl, fun q hq hne => by rw [AMem.get_new, AMem.next_kill, if_neg (by omega), AMem.get_kill, if_neg (hne j rfl hlj)]⟩
    · unfold growA
      rw [if_neg (by omega)]
      simp only [hg]
      rw [if_pos ⟨.inl hpos, trivial, rfl⟩, hput]
      simp only [hold]
      rfl
    · rw [AMem.get_new, AMem.next_kill, if_pos rfl, e1]
end Go.Ab

/-
  A new cache: its loop.
-/
namespace Go.Proofs.YtfpgakjikmakkaaGreatDoor
open Go.Ab
set_option linter.unusedVariables false
set_option linter.unusedSimpArgs false
set_option linter.unusedSectionVars false
set_option maxRecDepth 100000

theorem i3 : ∃ i, Tryz.prog.info? 3 = some i ∧ i.size = 1 ∧ i.bytes ≤ 64 := by
  have h : (Tryz.prog.info? 3).map (fun i => (i.size, i.bytes)) = some (1, 8) := by kernel_rfl
  obtain ⟨i, h1, h2⟩ := Option.map_eq_some_iff.1 h
  simp only [Prod.mk.injEq] at h2
  exact ⟨i, h1, h2.1, by omega⟩
theorem z3 : zeroA Tryz.prog 3 = some (.int .i64 0) := by kernel_rfl
theorem cl3 : byteCl Tryz.prog 3 = .yes := by kernel_rfl
theorem u127 : Tryz.prog.underlying 81 = some (.slice 3) := by kernel_rfl

def upto (n : Nat) : List Int := (List.range n).map Int.ofNat
theorem upto_succ (n : Nat) : upto (n + 1) = upto n ++ [(n : Int)] := by
  unfold upto
  rw [List.range_succ, List.map_append]
  rfl

/-- a cache's cells -/
abbrev cacheC (d fr F mp h : Nat) (u : Option (Nat × Nat)) (l : Nat) (q : Option Nat) : List AV := [.ptr (some (d, 0)), .slice (some (fr, 0)) F (some F), .map (some mp), .slice u l q, .ptr (some (h, 0))]

section
variable {H : Hook} (hF : Free H)
include hF

theorem cachenew_loop {d fr F mp h c m : Nat} (hF1 : F ≤ 100) : ∀ (k i j : Nat) (M : AMem) (u : Option (Nat × Nat)) (l : Nat) (q : Option Nat), i + k = F → k < j → c < M.next → M.get c = some (.cells (cacheC d fr F mp h u l q) 0 .yes) → IGr (c + 1) M u l q (upto i) →
    ∃ M' u' q', runLoop Tryz.prog H Tryz.f56 0 [0, 1, 4, 5, 6, 7, 8, 36, 37] m j (mkFr [(0, .ptr (some (d, 0))), (1, .int .i64 (F : Int)), (4, .ptr none), (5, .int .i64 0), (6, .ptr (some (h, 0))), (7, .int .i64 0), (8, .ptr (some (c, 0))), (36, .int .i64 (F : Int)), (37, .int .i64 (i : Int))]) M (afterLoop Tryz.prog H Tryz.f56 0 m) =
      some (.tup [.ptr (some (c, 0)), .int .i64 0], M') ∧ M'.get c = some (.cells (cacheC d fr F mp h u' F q') 0 .yes) ∧ IGr (c + 1) M' u' F q' (upto F) ∧ Keeps c M M' := by
  obtain ⟨ie, hi, his, hib⟩ := i3
  intro k
  induction k with
  | zero =>
    intro i j M u l q hik hj hc hg hG
    obtain ⟨j, rfl⟩ : ∃ t, j = t + 1 := ⟨j - 1, by omega⟩
    obtain rfl : i = F := by omega
    have hl : l = i := by rw [hG.len]; simp [upto]
    subst hl
    refine ⟨M, u, q, ?_, hg, hG, Keeps.refl _ _⟩
    rw [runLoop_succ, cachenewL_body, ltI_eq, decide_eq_false (by omega), iF, onward_exit, cachenewL_end1]
  | succ k ih =>
    intro i j M u l q hik hj hc hg hG
    obtain ⟨j, rfl⟩ : ∃ t, j = t + 1 := ⟨j - 1, by omega⟩
    have hl : l = i := by rw [hG.len]; simp [upto]
    let M1 : AMem := M.new (.cells [.int .i64 (i : Int)] 0 .yes)
    have hrow : M1.row M.next = some [.int .i64 (i : Int)] := row_new M _ _ _
    have hG1 : IGr (c + 1) M1 u l q (upto i) := hG.moved (Nat.le_succ _) fun t _ ht => by
      show (M.new _).get t = _
      rw [AMem.get_new, if_neg (by omega)]
    have hg1 : M1.get c = some (.cells (cacheC d fr F mp h u l q) 0 .yes) := by
      show (M.new _).get c = _
      rw [AMem.get_new, if_neg (by omega), hg]
    obtain ⟨M2, a2, G2, k2, n2, e2⟩ := append_int u127 cl3 hi z3 rfl his hib hG1 (show c + 1 ≤ M1.next from Nat.le_succ_of_le hc) hrow (k := some 1) (by omega)
    have hg2 : M2.get c = some (.cells (cacheC d fr F mp h u l q) 0 .yes) := by rw [k2.get c (by omega), hg1]
    let M3 : AMem := M2.set c (.cells (cacheC d fr F mp h (some (M1.next, 0)) (l + 1) none) 0 .yes)
    have n3 : M3.next = M.next + 2 := n2
    have hg3 : M3.get c = some (.cells (cacheC d fr F mp h (some (M1.next, 0)) (l + 1) none) 0 .yes) := by
      show (M2.set _ _).get c = _
      rw [AMem.get_set, if_pos rfl]
    have hG3 : IGr (c + 1) M3 (some (M1.next, 0)) (l + 1) none (upto (i + 1)) := by
      rw [upto_succ]
      exact G2.moved (Nat.le_refl _) fun t ht _ => by
        show (M2.set _ _).get t = _
        rw [AMem.get_set, if_neg (by omega)]
    obtain ⟨M', u', q', r', g', G', k'⟩ := ih (i + 1) j M3 (some (M1.next, 0)) (l + 1) none (by omega) (by omega) (by omega) hg3 hG3
    have kM : Keeps c M M3 := ((Keeps.new (M := M) _ (Nat.le_of_lt hc)).trans (k2.less (Nat.le_succ c)) (Nat.le_refl _)).trans (Keeps.set (M := M2) _ (Nat.le_refl c)) (Nat.le_refl _)
    refine ⟨M', u', q', ?_, g', G', kM.trans k' (Nat.le_refl _)⟩
    rw [runLoop_succ, cachenewL_body, ltI_eq, decide_eq_true (by omega), iT]
    simp only [bO, row_cells hg, Nat.zero_add, List.getElem?_cons_zero, List.getElem?_cons_succ, aL]
    rw [show appendA Tryz.prog (M.new (ABlk.cells [AV.int IntKind.i64 (i : Int)] 0 Cl.yes)) 81 81 u l q (AV.slice (some (M.next, 0)) 1 (some 1)) = _ from a2]
    simp only [bO, hg2, gC]
    show bindO (some M3) _ = _
    simp only [bO, forceI_eq]
    rw [wrap_i64 (x := (i : Int) + 1) (by omega) (by omega), onward_normal, show (i : Int) + 1 = ((i + 1 : Nat) : Int) by omega]
    exact r'
end
end Go.Proofs.YtfpgakjikmakkaaGreatDoor

/-
  A new cache.
-/
namespace Go.Proofs.YtfpgakjikmakkaaGreatDoor
open Go.Ab
set_option linter.unusedVariables false
set_option linter.unusedSimpArgs false
set_option linter.unusedSectionVars false
set_option maxRecDepth 100000

abbrev frame0 : List AV := [.int .u32 0, .slice none 0 (some 0), .bool false, .int .i64 0]

/-- a cache of F empty frames; lo: nothing of it lies below -/
structure CacheIs (M : AMem) (lo c d h lk fr mp F : Nat) : Prop where
  get : ∃ u q, M.get c = some (.cells (cacheC d fr F mp h u F q) 0 .yes) ∧ IGr (c + 1) M u F q (upto F)
  frames : M.get fr = some (.cells (repA frame0 F) 0 .yes)
  map : M.get mp = some (.map [] 0)
  chain : ChIs M h lk F
  clt : c < M.next
  b1 : lo ≤ lk
  b2 : lk < h
  b3 : h < fr
  b4 : fr < mp
  b5 : mp < c

theorem bytes132 : Tryz.prog.types[118].bytes = 48 := by kernel_rfl

section
variable {H : Hook} (hF : Free H)
include hF

theorem cachenew_run {M : AMem} {d img : Nat} {B Y r w : Int} (hd : DevIs M d img B Y r w) {F : Nat} (f1 : 1 ≤ F) (f2 : F ≤ 64) {m : Nat} (hm : 100 ≤ m) : ∃ c h lk fr mp M', acall Tryz.prog H m 56 [.ptr (some (d, 0)), .int .i64 (F : Int)] M = some (.tup [.ptr (some (c, 0)), .int .i64 0], M') ∧ CacheIs M' M.next c d h lk fr mp F ∧ Keeps M.next M M' := by
  obtain ⟨m, rfl⟩ : ∃ k, m = k + 1 := ⟨m - 1, by omega⟩
  have b5 := hd.b5
  obtain ⟨M1, r1, h1, k1⟩ := chainnew_run hF (n := F) f1 (by omega) M (m := m) (by omega)
  let M2 : AMem := M1.new (.cells (repA frame0 F) 0 .yes)
  let M3 : AMem := M2.new (.map [] 0)
  let M4 : AMem := M3.new (.cells (cacheC d M1.next F (M1.next + 1) (M.next + 1) none 0 (some 0)) 0 .yes)
  have n1 : M.next ≤ M1.next := k1.next
  have hl1 := h1.lt
  have k2 : Keeps M1.next M1 M2 := Keeps.new _ (Nat.le_refl _)
  have k3 : Keeps (M1.next + 1) M2 M3 := Keeps.new _ (Nat.le_refl _)
  have k4 : Keeps (M1.next + 2) M3 M4 := Keeps.new _ (Nat.le_refl _)
  have g4 : M4.get (M1.next + 2) = some (.cells (cacheC d M1.next F (M1.next + 1) (M.next + 1) none 0 (some 0)) 0 .yes) := by
    show (M3.new _).get _ = _
    rw [AMem.get_new, if_pos (show M1.next + 2 = M3.next from rfl)]
  obtain ⟨M5, u, q, r5, g5, G5, k5⟩ := cachenew_loop hF (d := d) (fr := M1.next) (F := F) (mp := M1.next + 1) (h := M.next + 1) (c := M1.next + 2) (m := m) (by omega) F 0 m M4 none 0 (some 0) (by omega) (by omega) (Nat.lt_succ_self _) g4 ⟨rfl, .inl ⟨rfl, rfl⟩⟩
  have k14 : Keeps M1.next M1 M4 := (k2.trans k3 (Nat.le_succ _)).trans k4 (by omega)
  have k15 : Keeps M1.next M1 M5 := k14.trans k5 (by omega)
  have gm4 : M4.get (M1.next + 1) = some (.map [] 0) := by
    rw [k4.get _ (by omega)]
    show (M2.new _).get _ = _
    rw [AMem.get_new, if_pos (show M1.next + 1 = M2.next from rfl)]
  have gf4 : M4.get M1.next = some (.cells (repA frame0 F) 0 .yes) := by
    rw [k4.get _ (by omega), k3.get _ (by omega)]
    show (M1.new _).get _ = _
    rw [AMem.get_new, if_pos rfl]
  have n5 : M4.next ≤ M5.next := k5.next
  have n4 : M4.next = M1.next + 3 := rfl
  refine ⟨M1.next + 2, M.next + 1, M.next, M1.next, M1.next + 1, M5, ?_, ⟨⟨u, q, g5, G5⟩, by rw [k5.get _ (by omega), gf4], by rw [k5.get _ (by omega), gm4], ?_, by omega, Nat.le_refl _, Nat.lt_succ_self _, by omega, by omega, by omega⟩, k1.trans k15 n1⟩
  · rw [acall_run Tryz.func56 (hF 56 rfl), cachenew_eq, devblocks_run hF hd (m := m) (by omega)]
    simp only [bO, aI]
    rw [eqI_eq, show (B == 0) = false by rw [beq_eq_false_iff_ne]; omega, iF, ltI_eq, decide_eq_false (by omega), iF, ltI_eq, decide_eq_false (by omega), iF, r1]
    simp only [bO, aT, aC, aP, aI, aN]
    rw [show eqI 0 0 = true from rfl, Bool.not_true, iF, bytes132, decide_eq_true (show 0 ≤ (F : Int) by omega), decide_eq_true (Int.le_refl _), decide_eq_true (show (F : Int) ≤ 140737488355328 by omega), decide_eq_true (show (F : Int).toNat * 48 ≤ 140737488355328 by omega)]
    simp only [Bool.and_self, nT, Int.toNat_natCast]
    exact r5
  · obtain ⟨L, hL, hlen, hlow, t0, t1, t2⟩ := h1.links
    exact ⟨by rw [k15.get _ (by omega)]; exact h1.get, ⟨L, by rw [k15.get _ h1.llt]; exact hL, hlen, hlow, t0, t1, t2⟩, by omega, by have := h1.llt; omega, h1.ne⟩
end
end Go.Proofs.YtfpgakjikmakkaaGreatDoor

/-
  A new shelf; a shelf on noughts.
-/
namespace Go.Proofs.YtfpgakjikmakkaaGreatDoor
open Go.Ab
set_option linter.unusedVariables false
set_option linter.unusedSimpArgs false
set_option linter.unusedSectionVars false
set_option maxRecDepth 100000

theorem ChIs.moved {M M' : AMem} {h lk n : Nat} (H : ChIs M h lk n) (k : Keeps M.next M M') : ChIs M' h lk n := by
  obtain ⟨L, hL, hlen, hlow, t0, t1, t2⟩ := H.links
  exact ⟨by rw [k.get _ H.lt]; exact H.get, ⟨L, by rw [k.get _ H.llt]; exact hL, hlen, hlow, t0, t1, t2⟩, Nat.lt_of_lt_of_le H.lt k.next, Nat.lt_of_lt_of_le H.llt k.next, H.ne⟩

theorem CacheIs.moved {M M' : AMem} {lo c d h lk fr mp F : Nat} (H : CacheIs M lo c d h lk fr mp F) (k : Keeps M.next M M') : CacheIs M' lo c d h lk fr mp F := by
  obtain ⟨u, q, g, G⟩ := H.get
  have a := H.clt
  have b4 := H.b4
  have b5 := H.b5
  exact ⟨⟨u, q, by rw [k.get _ a]; exact g, G.moved k.next fun t _ ht => k.get t ht⟩, by rw [k.get _ (by omega)]; exact H.frames, by rw [k.get _ (by omega)]; exact H.map, H.chain.moved k, Nat.lt_of_lt_of_le a k.next, H.b1, H.b2, H.b3, b4, b5⟩

/-- a shelf's cells -/
abbrev shelfC (c0 c1 c2 c3 c4 c5 c6 c7 : Int) (d c p : Nat) : List AV := [.int .i64 c0, .int .i64 c1, .int .i64 c2, .int .i64 c3, .int .i64 c4, .int .i64 c5, .int .i64 c6, .int .i64 c7, .ptr (some (d, 0)), .ptr (some (c, 0)), .ptr (some (p, 0)), .int .u32 0]

/-- a shelf on noughts, of which block 0 alone is held; nothing of it lies below lo -/
structure ShelfIs (M : AMem) (lo s d img c h lk fr mp p r wd : Nat) (c0 c1 c2 c3 c4 c5 c6 c7 : Int) (ws : List AV) : Prop where
  get : M.get s = some (.cells (shelfC c0 c1 c2 c3 c4 c5 c6 c7 d c p) 0 .yes)
  dev : DevIs M d img c0 c1 0 0
  cache : CacheIs M lo c d h lk fr mp c2.toNat
  pool : M.get p = some (.cells [.ptr (some (r, 0))] 0 .yes)
  row : RowIs M r wd c0 1 ws
  slt : s < M.next
  plo : lo ≤ p
  rlo : lo ≤ r
  wlo : lo ≤ wd
  slo : lo ≤ s
  plt : p < M.next
  clp : c < p
  clr : c < r
  cls : c < s

section
variable {H : Hook} (hF : Free H)
include hF

theorem shelfnew_run {c0 c1 c2 c3 c4 c5 c6 c7 : Int} {M : AMem} {d img : Nat} (hz : rightZ c0 c1 c2 c3 c4 c5 c6 c7 = true) (hd : DevIs M d img c0 c1 0 0) {m : Nat} (hm : 200 ≤ m) :
    ∃ s c h lk fr mp p r wd ws M', acall Tryz.prog H m 26 [.agg (C8 c0 c1 c2 c3 c4 c5 c6 c7), .ptr (some (d, 0))] M = some (.tup [.ptr (some (s, 0)), .int .i64 0], M') ∧ ShelfIs M' M.next s d img c h lk fr mp p r wd c0 c1 c2 c3 c4 c5 c6 c7 ws ∧ Keeps M.next M M' := by
  obtain ⟨m, rfl⟩ : ∃ k, m = k + 1 := ⟨m - 1, by omega⟩
  have hz' := hz
  unfold rightZ at hz'
  simp only [Bool.and_eq_true, leI_eq, decide_eq_true_eq] at hz'
  obtain ⟨hs, ⟨a1, a2⟩, ⟨a3, a4⟩, ⟨a5, a6⟩, a7, a8⟩ := hz'
  have hc2 : ((c2.toNat : Nat) : Int) = c2 := by omega
  obtain ⟨M1, r1, k1⟩ := check_run hF c0 c1 c2 c3 c4 c5 c6 c7 (bx c0 c1 c2 c3 c4 c5 c6 c7 M) hz (m := m) (by omega)
  have hr1 := row_kept (M := M) k1
  have kM1 : Keeps M.next M M1 := keeps_box k1
  have hd1 : DevIs M1 d img c0 c1 0 0 := hd.keeps kM1 hd.lt hd.ilt
  obtain ⟨c, h, lk, fr, mp, M2, r2, hc, k2⟩ := cachenew_run hF hd1 (F := c2.toNat) (by omega) (by omega) (m := m) (by omega)
  rw [hc2] at r2
  have kB2 : Keeps (M.next + 1) (bx c0 c1 c2 c3 c4 c5 c6 c7 M) M2 := k1.trans k2 k1.next
  have hr2 := row_kept kB2
  have kM2 : Keeps M.next M M2 := keeps_box kB2
  have hd2 : DevIs M2 d img c0 c1 0 0 := hd.keeps kM2 hd.lt hd.ilt
  obtain ⟨p, r, wd, ws, M3, r3, gp, hrow, b1, b2, b3, plt, k3⟩ := poolnew_run hF (n := c0) a1 a2 M2 (m := m) (by omega)
  have kB3 : Keeps (M.next + 1) (bx c0 c1 c2 c3 c4 c5 c6 c7 M) M3 := kB2.trans k3 kB2.next
  have hr3 := row_kept kB3
  have kM3 : Keeps M.next M M3 := keeps_box kB3
  let M4 : AMem := M3.new (.cells (shelfC c0 c1 c2 c3 c4 c5 c6 c7 d c p) 0 .yes)
  have k4 : Keeps M3.next M3 M4 := Keeps.new _ (Nat.le_refl _)
  have kM4 : Keeps M.next M M4 := kM3.trans k4 kM3.next
  have hn2 := kM2.next
  have hn1 := kM1.next
  have hn3 := kM3.next
  have hC2 := hc
  have hC4 : CacheIs M4 M1.next c d h lk fr mp c2.toNat := (hc.moved k3).moved k4
  refine ⟨M3.next, c, h, lk, fr, mp, p, r, wd, ws, M4, ?_, ⟨?_, hd.keeps kM4 hd.lt hd.ilt, ⟨hC4.get, hC4.frames, hC4.map, hC4.chain, hC4.clt, Nat.le_trans hn1 hC4.b1, hC4.b2, hC4.b3, hC4.b4, hC4.b5⟩, ?_, ⟨?_, ?_, hrow.n1, hrow.n6, hrow.len, Nat.lt_succ_of_lt hrow.lt, Nat.lt_succ_of_lt hrow.wlt, hrow.ne⟩, Nat.lt_succ_self _, by omega, by omega, by omega, hn3, Nat.lt_succ_of_lt plt, Nat.lt_of_lt_of_le hC2.clt b1, Nat.lt_of_lt_of_le hC2.clt b2, Nat.lt_of_lt_of_le hC2.clt k3.next⟩, kM4⟩
  · rw [acall_run Tryz.func26 (hF 26 rfl), shelfnew_eq]
    simp only [row_new, bO, aI, aG, aC, aN, List.length_cons, List.length_nil, List.take, List.drop, if_pos (show 0 + 8 ≤ 0 + 1 + 1 + 1 + 1 + 1 + 1 + 1 + 1 by omega)]
    rw [r1]
    simp only [bO, aI]
    rw [show eqI 0 0 = true from rfl, Bool.not_true, iF, hr1]
    simp only [bO, aI, List.getElem?_cons_zero, List.getElem?_cons_succ]
    rw [r2]
    simp only [bO, aT, aC, aP, aI, aN]
    rw [show eqI 0 0 = true from rfl, Bool.not_true, iF, hr2]
    simp only [bO, aI, List.getElem?_cons_zero, List.getElem?_cons_succ]
    rw [devblocks_run hF hd2 (m := m) (by omega)]
    simp only [bO, aI]
    rw [show eqI c0 c0 = true by rw [eqI_eq]; simp, Bool.not_true, iF, hr2]
    simp only [bO, aI, List.getElem?_cons_zero, List.getElem?_cons_succ, beqA_int, beqA_ptr, nT]
    rw [devbytes_run hF hd2 (m := m) (by omega)]
    simp only [bO, aI, hr2, List.getElem?_cons_zero, List.getElem?_cons_succ, beqA_int, beqA_ptr, nT]
    rw [show eqI c1 c1 = true by rw [eqI_eq]; simp, Bool.not_true, iF]
    rw [r3]
    simp only [bO, aT, aC, aP, aI, aN]
    rw [show eqI 0 0 = true from rfl, Bool.not_true, iF, hr3]
    simp only [bO, aI, aG, aC, aN, List.length_cons, List.length_nil, List.take, List.drop, if_pos (show 0 + 8 ≤ 0 + 1 + 1 + 1 + 1 + 1 + 1 + 1 + 1 by omega)]
    rfl
  · show (M3.new _).get M3.next = _
    rw [AMem.get_new, if_pos rfl]
  · rw [k4.get _ plt]; exact gp
  · rw [k4.get _ hrow.lt]; exact hrow.get
  · rw [k4.get _ hrow.wlt]; exact hrow.words

theorem begun_run {c0 c1 c2 c3 c4 c5 c6 c7 : Int} {M : AMem} (hz : rightZ c0 c1 c2 c3 c4 c5 c6 c7 = true) {m : Nat} (hm : 300 ≤ m) :
    ∃ s d img c h lk fr mp p r wd ws M', acall Tryz.prog H m 10 [.agg (C8 c0 c1 c2 c3 c4 c5 c6 c7)] M = some (.tup [.ptr (some (s, 0)), .ptr (some (d, 0))], M') ∧ (∃ lo, ShelfIs M' lo s d img c h lk fr mp p r wd c0 c1 c2 c3 c4 c5 c6 c7 ws ∧ d < lo ∧ img < lo ∧ M.next ≤ lo) ∧ M.next ≤ d ∧ M.next ≤ img ∧ Keeps M.next M M' := by
  obtain ⟨m, rfl⟩ : ∃ k, m = k + 1 := ⟨m - 1, by omega⟩
  have hz' := hz
  unfold rightZ at hz'
  simp only [Bool.and_eq_true, leI_eq, decide_eq_true_eq] at hz'
  obtain ⟨hs, ⟨a1, a2⟩, ⟨a3, a4⟩, ⟨a5, a6⟩, a7, a8⟩ := hz'
  let B : AMem := bx c0 c1 c2 c3 c4 c5 c6 c7 M
  obtain ⟨M1, r1, hd, k1, n1⟩ := devnew_run hF (B := c0) (Y := c1) a1 a2 (by omega) a6 B (m := m) (by omega)
  have hr1 := row_kept (M := M) k1
  obtain ⟨s, c, h, lk, fr, mp, p, r, wd, ws, M2, r2, hS, k2⟩ := shelfnew_run hF hz hd (m := m) (by omega)
  have nB : B.next = M.next + 1 := rfl
  refine ⟨s, B.next + 1, B.next, c, h, lk, fr, mp, p, r, wd, ws, M2, ?_, ⟨M1.next, hS, by omega, by omega, by omega⟩, by omega, by omega, (keeps_box k1).trans k2 (by omega)⟩
  rw [acall_run Tryz.func10 (hF 10 rfl), begun_eq]
  simp only [row_new, bO, aI, List.getElem?_cons_zero, List.getElem?_cons_succ]
  rw [r1]
  simp only [bO, aT, aC, aP, aI, aN, hr1, aG, List.length_cons, List.length_nil, List.take, List.drop, if_pos (show 0 + 8 ≤ 0 + 1 + 1 + 1 + 1 + 1 + 1 + 1 + 1 by omega)]
  rw [r2]
  rfl
end
end Go.Proofs.YtfpgakjikmakkaaGreatDoor
