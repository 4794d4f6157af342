/-
  What the functions of bits do, told of the abstract memory.
-/
import Derived.Test.YtiecjbgefkelfaaDoorBitsEq
import Derived.Test.YtiecjbgefkelfaaDoorBitsPure
namespace Go.Proofs.YtiecjbgefkelfaaDoor
open Go.Ab
set_option linter.unusedVariables false
set_option linter.unusedSimpArgs false

def tabInts : List Int := [0, 1, 56, 2, 57, 49, 28, 3, 61, 58, 42, 50, 38, 29, 17, 4, 62, 47, 59, 36, 45, 43, 51, 22, 53, 39, 33, 30, 24, 18, 12, 5, 63, 55, 48, 27, 60, 41, 37, 16, 46, 35, 44, 21, 52, 32, 23, 11, 54, 26, 40, 15, 34, 20, 31, 10, 25, 14, 19, 9, 13, 8, 7, 6]

/-- the memory at the start: the table alone, read only -/
def mem0 : AMem := (⟨0, .nil⟩ : AMem).new (.ro (tabInts.map (AV.int .u8)))

noncomputable abbrev HK : Hook := pureHook [9, 30] (.bool true) mem0

theorem hk {f : FuncId} (h : f ∉ [9, 30]) : HK f = none := if_neg h

noncomputable abbrev call (m : Nat) (f : FuncId) (args : List AV) (M : AMem) : Option (AV × AMem) := acall Tryd.prog HK m f args M

/-- where a row lies: it, and its words -/
structure RowS where
  a : Nat
  b : Nat
  n : Nat
  c : Option Nat
  s1 : Nat
  s2 : Nat
  l1 : Bool
  l2 : Bool
  ne : a ≠ b
  pos : 0 < n
  le : n ≤ 65536

def wA (w : W64) : AV := .int .u64 (u64 w)

/-- a row in memory -/
structure RowAt (M : AMem) (R : RowS) (cnt : Nat) (ws : List W64) : Prop where
  row : M.get R.a = some (.cells [.int .i64 R.n, .int .i64 cnt, .slice (some (R.b, 0)) ws.length R.c] R.s1 R.l1)
  words : M.get R.b = some (.cells (ws.map wA) R.s2 R.l2)
  len : ws.length = (R.n + 63) / 64
  top : ∀ i, R.n ≤ i → bitAt ws i = false
  tab : M.get 0 = some (.ro (tabInts.map (AV.int .u8)))

section
variable {M : AMem} {R : RowS} {cnt : Nat} {ws : List W64} {m : Nat}

theorem len_run (h : RowAt M R cnt ws) (hm : 1 ≤ m) : call m 15 [.ptr (some (R.a, 0))] M = some (.int .i64 R.n, M) := by
  obtain ⟨k, rfl⟩ : ∃ k, m = k + 1 := ⟨m - 1, by omega⟩
  rw [call, acall_run Tryd.func15 (hk (by decide)), len_eq]
  simp [bindO, Ab.asInt, AMem.row, h.row]

theorem count_run (h : RowAt M R cnt ws) (hm : 1 ≤ m) : call m 14 [.ptr (some (R.a, 0))] M = some (.int .i64 cnt, M) := by
  obtain ⟨k, rfl⟩ : ∃ k, m = k + 1 := ⟨m - 1, by omega⟩
  rw [call, acall_run Tryd.func14 (hk (by decide)), count_eq]
  simp [bindO, Ab.asInt, AMem.row, h.row]

theorem there_run (h : RowAt M R cnt ws) (i : Int) (hm : 2 ≤ m) : call m 41 [.ptr (some (R.a, 0)), .int .i64 i] M = some (.int .i64 (if 0 ≤ i ∧ i < R.n then 0 else 4), M) := by
  obtain ⟨k, rfl⟩ : ∃ k, m = k + 1 := ⟨m - 1, by omega⟩
  have hl := len_run h (m := k) (by omega)
  have h0 : ((R.n : Int) == 0) = false := by have := R.pos; simp; omega
  rw [call, acall_run Tryd.func41 (hk (by decide)), there_eq]
  simp only [hl]
  by_cases h1 : i < 0
  · simp [bindO, Ab.asInt, ifB, AMem.row, h.row, h0, h1, show ¬ 0 ≤ i by omega]
  · by_cases h2 : (R.n : Int) ≤ i
    · simp [bindO, Ab.asInt, ifB, AMem.row, h.row, h0, h1, h2, show ¬ i < R.n by omega]
    · simp [bindO, Ab.asInt, ifB, AMem.row, h.row, h0, h1, h2, show 0 ≤ i by omega, show i < R.n by omega]

theorem there_in (h : RowAt M R cnt ws) {j : Nat} (hj : j < R.n) (hm : 2 ≤ m) : call m 41 [.ptr (some (R.a, 0)), .int .i64 j] M = some (.int .i64 0, M) := by
  rw [there_run h j hm, if_pos ⟨by omega, by omega⟩]

theorem there_out (h : RowAt M R cnt ws) {i : Int} (hi : ¬(0 ≤ i ∧ i < R.n)) (hm : 2 ≤ m) : call m 41 [.ptr (some (R.a, 0)), .int .i64 i] M = some (.int .i64 4, M) := by
  rw [there_run h i hm, if_neg hi]

theorem idiv (j : Nat) (h : j ≤ 70000) : IntKind.i64.wrap ((j : Int).tdiv 64) = ((j / 64 : Nat) : Int) := by
  have e : (j : Int).tdiv 64 = ((j / 64 : Nat) : Int) := by rw [Int.tdiv_eq_ediv_of_nonneg (by omega)]; rfl
  rw [e, wrap_i64 (by omega) (by omega)]

theorem imod (j : Nat) : (j : Int).tmod 64 = ((j % 64 : Nat) : Int) := by rw [Int.tmod_eq_emod_of_nonneg (by omega)]; rfl

theorem words_get {ws : List W64} {k : Nat} (h : k < ws.length) : (ws.map wA)[k]? = some (.int .u64 (u64 (ws.getD k 0))) := by
  rw [List.getElem?_map, List.getElem?_eq_getElem h, List.getD_eq_getElem?_getD, List.getElem?_eq_getElem h]; rfl

theorem bit_one (w : W64) (j : Nat) : (u64 ((w >>> j) &&& 1#64) == 1) = w.getLsbD j := by
  have e : u64 ((w >>> j) &&& 1#64) = if w.getLsbD j then 1 else 0 := by
    unfold u64
    rw [BitVec.toNat_and, BitVec.toNat_ushiftRight]
    have : (1#64).toNat = 1 := rfl
    rw [this, Nat.and_one_is_mod]
    unfold BitVec.getLsbD
    rw [Nat.testBit_eq_decide_div_mod_eq, Nat.shiftRight_eq_div_pow]
    by_cases q : w.toNat / 2 ^ j % 2 = 1
    · simp [q]
    · have : w.toNat / 2 ^ j % 2 = 0 := by omega
      simp [this]
  rw [e]; cases w.getLsbD j <;> rfl

theorem one_w : BitVec.ofInt 64 1 = 1#64 := rfl

theorem RowAt.div_lt (h : RowAt M R cnt ws) {j : Nat} (hj : j < R.n) : j / 64 < ws.length := by rw [h.len]; omega

theorem has_in (h : RowAt M R cnt ws) {j : Nat} (hj : j < R.n) (hm : 3 ≤ m) : call m 12 [.ptr (some (R.a, 0)), .int .i64 j] M = some (.bool (bitAt ws j), M) := by
  obtain ⟨k, rfl⟩ : ∃ k, m = k + 1 := ⟨m - 1, by omega⟩
  have hl := there_in h hj (m := k) (by omega)
  rw [call, acall_run Tryd.func12 (hk (by decide)), has_eq]
  have hle := R.le
  have hd := h.div_lt hj
  have hg := words_get hd
  have hr : j % 64 < 64 := Nat.mod_lt _ (by omega)
  have hb : bitAt ws j = (ws.getD (j / 64) 0).getLsbD (j % 64) := rfl
  simp only [hl, idiv j (by omega), imod j, hb]
  generalize j / 64 = q at *
  generalize j % 64 = r at *
  simp only [bO, aI, aL, iT, iF, nT, sT, row_cells h.row, row_cells h.words, z0, z1, tt, List.getElem?_cons_zero, List.getElem?_cons_succ, dnat, dlt hd, Bool.and_self, Int.toNat_natCast, Nat.zero_add, Nat.mul_one, hg, Nat.min_eq_left (Nat.le_of_lt hr), shr_u64, ofInt_u64, one_w, wrap_u64_of, bit_one, cond_true]

theorem has_out (h : RowAt M R cnt ws) {i : Int} (hi : ¬(0 ≤ i ∧ i < R.n)) (hm : 3 ≤ m) : call m 12 [.ptr (some (R.a, 0)), .int .i64 i] M = some (.bool false, M) := by
  obtain ⟨k, rfl⟩ : ∃ k, m = k + 1 := ⟨m - 1, by omega⟩
  have hl := there_out h hi (m := k) (by omega)
  rw [call, acall_run Tryd.func12 (hk (by decide)), has_eq]
  simp only [hl, bO, aI, iT, iF, show ((4 : Int) == 0) = false from rfl, ft]

/-! ### set, clear -/
theorem put_words {ws : List W64} {q : Nat} (hq : q < ws.length) (x : W64) : ((List.take q (ws.map wA)).append [.int .u64 (u64 x)]).append (List.drop (q + 1) (ws.map wA)) = (ws.set q x).map wA := by
  rw [List.map_set]
  show (List.take q (ws.map wA) ++ [wA x]) ++ List.drop (q + 1) (ws.map wA) = _
  rw [List.append_assoc, List.set_eq_take_append_cons_drop, if_pos (by simpa using hq)]; rfl

/-- the memory behind a change of one word and of the count -/
noncomputable def RowS.put (R : RowS) (M : AMem) (cnt : Int) (ws : List W64) : AMem :=
  (M.set R.b (.cells (ws.map wA) R.s2 R.l2)).set R.a (.cells [.int .i64 R.n, .int .i64 cnt, .slice (some (R.b, 0)) ws.length R.c] R.s1 R.l1)

theorem set_in (h : RowAt M R cnt ws) {j : Nat} (hj : j < R.n) (hm : 4 ≤ m) (hc : cnt ≤ R.n) :
    call m 10 [.ptr (some (R.a, 0)), .int .i64 j] M = if bitAt ws j then some (.int .i64 10, M) else some (.int .i64 0, R.put M ((cnt : Int) + 1) (ws.set (j / 64) (ws.getD (j / 64) 0 ||| 1#64 <<< (j % 64)))) := by
  obtain ⟨k, rfl⟩ : ∃ k, m = k + 1 := ⟨m - 1, by omega⟩
  have hl := there_in h hj (m := k) (by omega)
  have hs := has_in h hj (m := k) (by omega)
  rw [call, acall_run Tryd.func10 (hk (by decide)), set_eq]
  have hle := R.le
  have hd := h.div_lt hj
  have hg := words_get hd
  have hr : j % 64 < 64 := Nat.mod_lt _ (by omega)
  simp only [hl, hs, idiv j (by omega), imod j]
  have hne := R.ne
  have e1 : ∀ q, (1 : Int) * 2 ^ q = u64 1#64 * 2 ^ q := fun q => rfl
  have hpw := put_words hd (ws.getD (j / 64) 0 ||| 1#64 <<< (j % 64))
  generalize hw : ws.getD (j / 64) 0 ||| 1#64 <<< (j % 64) = w at *
  generalize j / 64 = q at *
  generalize j % 64 = r at *
  cases hb : bitAt ws j with
  | true => simp only [hs, hb, bO, aI, aB, iT, iF, z2, if_true]
  | false =>
    simp only [hs, hb, bO, aI, aB, aL, aP, iT, iF, nT, sT, row_cells h.row, row_cells h.words, h.words, gC, z2, List.getElem?_cons_zero, List.getElem?_cons_succ, dnat, dlt hd, Bool.and_self, Int.toNat_natCast, Nat.zero_add, Nat.mul_one, hg, Nat.min_eq_left (Nat.le_of_lt hr), e1, shl_u64, ofInt_u64, wrap_u64_of, beqA_int, beqA_bool, beqA_ptr, beqA_sl, hw,
      show q + 1 ≤ (ws.map wA).length by simp; omega, if_true, hpw, Bool.false_eq_true, if_false]
    have hr2 : (M.set R.b (.cells ((ws.set q w).map wA) R.s2 R.l2)).get R.a = some (.cells [.int .i64 R.n, .int .i64 cnt, .slice (some (R.b, 0)) ws.length R.c] R.s1 R.l1) := by rw [AMem.get_set, if_neg hne, h.row]
    simp only [row_cells hr2, hr2, bO, aI, gC, List.getElem?_cons_zero, List.getElem?_cons_succ, wrap_i64 (x := (cnt : Int) + 1) (by omega) (by omega), List.length_cons, List.length_nil, show 1 + 1 ≤ 0 + 1 + 1 + 1 from by omega, if_true]
    simp [RowS.put]

theorem clear_in (h : RowAt M R cnt ws) {j : Nat} (hj : j < R.n) (hm : 4 ≤ m) (hc : cnt ≤ R.n) :
    call m 19 [.ptr (some (R.a, 0)), .int .i64 j] M = if bitAt ws j then some (.int .i64 0, R.put M ((cnt : Int) - 1) (ws.set (j / 64) (ws.getD (j / 64) 0 &&& ~~~ (1#64 <<< (j % 64))))) else some (.int .i64 9, M) := by
  obtain ⟨k, rfl⟩ : ∃ k, m = k + 1 := ⟨m - 1, by omega⟩
  have hl := there_in h hj (m := k) (by omega)
  have hs := has_in h hj (m := k) (by omega)
  rw [call, acall_run Tryd.func19 (hk (by decide)), clear_eq]
  have hle := R.le
  have hd := h.div_lt hj
  have hg := words_get hd
  have hr : j % 64 < 64 := Nat.mod_lt _ (by omega)
  simp only [hl, hs, idiv j (by omega), imod j]
  have hne := R.ne
  have e1 : ∀ q, (1 : Int) * 2 ^ q = u64 1#64 * 2 ^ q := fun q => rfl
  have hpw := put_words hd (ws.getD (j / 64) 0 &&& ~~~ (1#64 <<< (j % 64)))
  generalize hw : ws.getD (j / 64) 0 &&& ~~~ (1#64 <<< (j % 64)) = w at *
  generalize j / 64 = q at *
  generalize j % 64 = r at *
  cases hb : bitAt ws j with
  | false => simp only [hs, hb, bO, aI, aB, iT, iF, z2, Bool.not_false, Bool.false_eq_true, if_false]
  | true =>
    simp only [hs, hb, bO, aI, aB, aL, aP, iT, iF, nT, sT, row_cells h.row, row_cells h.words, h.words, gC, z2, Bool.not_true, List.getElem?_cons_zero, List.getElem?_cons_succ, dnat, dlt hd, Bool.and_self, Int.toNat_natCast, Nat.zero_add, Nat.mul_one, hg, Nat.min_eq_left (Nat.le_of_lt hr), e1, shl_u64, ofInt_u64, wrap_u64_of, beqA_int, beqA_bool, beqA_ptr, beqA_sl, hw,
      show q + 1 ≤ (ws.map wA).length by simp; omega, if_true, hpw, Bool.false_eq_true, if_false]
    have hr2 : (M.set R.b (.cells ((ws.set q w).map wA) R.s2 R.l2)).get R.a = some (.cells [.int .i64 R.n, .int .i64 cnt, .slice (some (R.b, 0)) ws.length R.c] R.s1 R.l1) := by rw [AMem.get_set, if_neg hne, h.row]
    simp only [row_cells hr2, hr2, bO, aI, gC, List.getElem?_cons_zero, List.getElem?_cons_succ, wrap_i64 (x := (cnt : Int) - 1) (by omega) (by omega), List.length_cons, List.length_nil, show 1 + 1 ≤ 0 + 1 + 1 + 1 from by omega, if_true]
    simp [RowS.put]

theorem set_out (h : RowAt M R cnt ws) {i : Int} (hi : ¬(0 ≤ i ∧ i < R.n)) (hm : 3 ≤ m) : call m 10 [.ptr (some (R.a, 0)), .int .i64 i] M = some (.int .i64 4, M) := by
  obtain ⟨k, rfl⟩ : ∃ k, m = k + 1 := ⟨m - 1, by omega⟩
  have hl := there_out h hi (m := k) (by omega)
  rw [call, acall_run Tryd.func10 (hk (by decide)), set_eq]
  simp only [hl, bO, aI, iT, iF, show ((4 : Int) != 0) = true from rfl]

theorem clear_out (h : RowAt M R cnt ws) {i : Int} (hi : ¬(0 ≤ i ∧ i < R.n)) (hm : 3 ≤ m) : call m 19 [.ptr (some (R.a, 0)), .int .i64 i] M = some (.int .i64 4, M) := by
  obtain ⟨k, rfl⟩ : ∃ k, m = k + 1 := ⟨m - 1, by omega⟩
  have hl := there_out h hi (m := k) (by omega)
  rw [call, acall_run Tryd.func19 (hk (by decide)), clear_eq]
  simp only [hl, bO, aI, iT, iF, show ((4 : Int) != 0) = true from rfl]

/-- the memory behind a change holds the changed row -/
theorem RowAt.put (h : RowAt M R cnt ws) {cnt' : Nat} {ws' : List W64} (hlen : ws'.length = ws.length) (htop : ∀ i, R.n ≤ i → bitAt ws' i = false) (h0 : R.a ≠ 0) (h1 : R.b ≠ 0) : RowAt (R.put M cnt' ws') R cnt' ws' := by
  have hne := R.ne
  refine ⟨?_, ?_, hlen.trans h.len, htop, ?_⟩
  · unfold RowS.put; rw [AMem.get_set, if_pos rfl]
  · unfold RowS.put; rw [AMem.get_set, if_neg (Ne.symm hne), AMem.get_set, if_pos rfl]
  · unfold RowS.put; rw [AMem.get_set, if_neg (Ne.symm h0), AMem.get_set, if_neg (Ne.symm h1)]; exact h.tab

/-! ### the first digit -/
theorem u64_neg (x : W64) : IntKind.u64.wrap (0 - u64 x) = u64 (-x) := by
  have h : (x.toNat : Int) < 18446744073709551616 := by have := x.isLt; omega
  unfold u64 IntKind.wrap
  simp only [IntKind.signed, IntKind.bits, Bool.false_and, Bool.false_eq_true, if_false, BitVec.toNat_neg]
  omega

theorem u64_mul (x y : W64) : IntKind.u64.wrap (u64 x * u64 y) = u64 (x * y) := by
  unfold u64
  have : (x.toNat : Int) * y.toNat = ((x.toNat * y.toNat : Nat) : Int) := by push_cast; rfl
  rw [this, wrap_u64]
  unfold u64
  rw [BitVec.toNat_mul, BitVec.toNat_ofNat]

theorem bruijn : ∀ t : Fin 64, tabInts[((BitVec.twoPow 64 t.val * 285870213051353865#64) >>> 58).toNat]? = some (t.val : Int) := by decide

theorem bruijn_index (x : W64) : (IntKind.u64.wrap (IntKind.u64.wrap ((BitVec.ofInt 64 (u64 x) &&& BitVec.ofInt 64 (IntKind.u64.wrap (0 - u64 x))).toNat : Int) * 285870213051353865)).fdiv 288230376151711744 = u64 (((x &&& -x) * 285870213051353865#64) >>> 58) := by
  have e58 : (288230376151711744 : Int) = 2 ^ 58 := rfl
  have eC : (285870213051353865 : Int) = u64 285870213051353865#64 := rfl
  rw [u64_neg, ofInt_u64, ofInt_u64, wrap_u64_of, eC, u64_mul, e58, shr_u64]

theorem tz_look {x : W64} (hx : x ≠ 0) : ∃ y : W64, ((x &&& -x) * 285870213051353865#64) >>> 58 = y ∧ y.toNat < 64 ∧ (tabInts.map (AV.int .u8))[y.toNat]? = some (.int .u8 (tz x)) := by
  obtain ⟨h1, _, _⟩ := tz_spec hx
  have hb := bruijn ⟨tz x, h1⟩
  rw [show (⟨tz x, h1⟩ : Fin 64).val = tz x from rfl, ← and_neg hx] at hb
  refine ⟨_, rfl, ?_, ?_⟩
  · rcases Nat.lt_or_ge (((x &&& -x) * 285870213051353865#64) >>> 58).toNat tabInts.length with h | h
    · exact h
    · rw [List.getElem?_eq_none h] at hb; cases hb
  · rw [List.getElem?_map, hb]; rfl

theorem tz_run {x : W64} (hx : x ≠ 0) (ht : M.get 0 = some (.ro (tabInts.map (AV.int .u8)))) (hm : 1 ≤ m) : call m 48 [.int .u64 (u64 x)] M = some (.int .i64 (tz x), M) := by
  obtain ⟨k, rfl⟩ : ∃ k, m = k + 1 := ⟨m - 1, by omega⟩
  obtain ⟨h1, _, _⟩ := tz_spec hx
  have hx0 : (u64 x == 0) = false := by
    have : ¬ u64 x = u64 0 := fun e => hx (u64_inj.1 e)
    simpa [u64] using this
  obtain ⟨y, hy, hlt, hl⟩ := tz_look hx
  have hX := bruijn_index x
  rw [hy] at hX
  have heq := tz_eq HK (u64 x) k M
  rw [hx0, iF, hX] at heq
  rw [call, acall_run Tryd.func48 (hk (by decide)), heq]
  have e2 : (u64 y).toNat = y.toNat := rfl
  have e4 : decide ((0 : Int) ≤ u64 y) = true := by unfold u64; simp
  have e5 : decide (u64 y < 64) = true := by unfold u64; simp; omega
  rw [e4, e5, Bool.and_self, nT, row_ro ht, e2, Nat.zero_add, Nat.mul_one]
  simp only [bO, hl, aI, wrap_i64 (x := (tz x : Int)) (by omega) (by omega)]

/-! ### seek -/
/-- a word, turned by a mask -/
theorem xor_u64 (x t : W64) : IntKind.u64.wrap ((BitVec.ofInt 64 (u64 x) ^^^ BitVec.ofInt 64 (u64 t)).toNat : Int) = u64 (x ^^^ t) := by
  rw [ofInt_u64, ofInt_u64, wrap_u64_of]

theorem mask_u64 (x : W64) (r : Nat) : IntKind.u64.wrap ((BitVec.ofInt 64 (u64 x) &&& BitVec.ofInt 64 (IntKind.u64.wrap (18446744073709551615 * 2 ^ r))).toNat : Int) = u64 (x &&& (BitVec.allOnes 64 <<< r)) := by
  have e : (18446744073709551615 : Int) = u64 (BitVec.allOnes 64) := rfl
  rw [e, shl_u64, ofInt_u64, ofInt_u64, wrap_u64_of]

theorem beq_zero (x : W64) : (u64 x == 0) = (x == 0#64) := by
  rw [show (0 : Int) = u64 0#64 from rfl, Bool.eq_iff_iff]
  simp [u64_inj]

/-- the frame of seek's loop -/
abbrev seekFr (R : RowS) (f : Nat) (t : W64) (x : Int) (y : Bool) (w : Nat) : Fr :=
  mkFr [(0, .ptr (some (R.a, 0))), (1, .int .i64 f), (2, .int .u64 (u64 t)), (6, .int .i64 x), (7, .bool y), (8, .int .i64 w)]

/-- the word that a round looks at -/
def seekWord (ws : List W64) (t : W64) (f w : Nat) : W64 := if w = f / 64 then (ws.getD w 0 ^^^ t) &&& (BitVec.allOnes 64 <<< (f % 64)) else ws.getD w 0 ^^^ t

theorem seek_round (h : RowAt M R cnt ws) (f w : Nat) (hf : f ≤ 70000) (hw : w < ws.length) (t : W64) {k : AExit → Fr → AMem → Option (AV × AMem)} (hm : 1 ≤ m) :
    runBody Tryd.prog HK Tryd.f43 0 [0, 1, 2, 6, 7, 8] m (seekFr R f t 0 false w) M k =
      if seekWord ws t f w = 0 then k .normal (seekFr R f t 0 false (w + 1)) M
      else k .ret (seekFr R f t ((w * 64 + tz (seekWord ws t f w) : Nat) : Int) (decide (w * 64 + tz (seekWord ws t f w) < R.n)) w) M := by
  rw [seekFr, seek_body]
  have hle := R.le
  have hlen := h.len
  have hg := words_get hw
  have hr : f % 64 < 64 := Nat.mod_lt _ (by omega)
  simp only [idiv f (by omega), imod f]
  simp only [bO, aI, aL, nT, iT, row_cells h.row, row_cells h.words, List.getElem?_cons_zero, List.getElem?_cons_succ, dnat, dlt hw, Bool.and_self, Int.toNat_natCast, Nat.zero_add, Nat.mul_one, hg]
  have hcast : ((w : Int) == ((f / 64 : Nat) : Int)) = decide (w = f / 64) := by
    rw [Bool.eq_iff_iff]; simp; omega
  have hwl : w < 1025 := by omega
  have hw1 : IntKind.i64.wrap ((w : Int) + 1) = ((w + 1 : Nat) : Int) := by rw [wrap_i64 (by omega) (by omega)]; rfl
  have fin : ∀ x : W64, seekWord ws t f w = x → x ≠ 0 → ∀ {k' : AExit → Fr → AMem → Option (AV × AMem)},
      call m 48 [.int .u64 (u64 x)] M = some (.int .i64 (tz x), M) ∧ IntKind.i64.wrap (IntKind.i64.wrap ((w : Int) * 64) + (tz x : Int)) = ((w * 64 + tz x : Nat) : Int) := by
    intro x _ hx _
    refine ⟨tz_run hx h.tab hm, ?_⟩
    obtain ⟨h1, _, _⟩ := tz_spec hx
    rw [wrap_i64 (x := (w : Int) * 64) (by omega) (by omega), wrap_i64 (by omega) (by omega)]
    push_cast; rfl
  have hdec : ∀ q : Nat, decide ((q : Int) < (R.n : Int)) = decide (q < R.n) := fun q => by rw [decide_eq_decide]; omega
  by_cases hq : w = f / 64
  · have hx : seekWord ws t f w = (ws.getD w 0 ^^^ t) &&& (BitVec.allOnes 64 <<< (f % 64)) := by unfold seekWord; rw [if_pos hq]
    rw [hcast, decide_eq_true hq]
    simp only [iT, sT, Nat.min_eq_left (Nat.le_of_lt hr), xor_u64, mask_u64, ← hx, beq_zero, hw1]
    generalize hxx : seekWord ws t f w = x at *
    by_cases h0 : x = 0
    · subst h0; rw [if_pos rfl]; rfl
    · have hb : (x == 0#64) = false := by simpa using h0
      obtain ⟨c1, c2⟩ := fin x rfl h0 (k' := k)
      rw [if_neg h0, hb]
      simp only [iF, c1, bO, aI, row_cells h.row, List.getElem?_cons_zero, c2, hdec, beqA_int, beqA_bool, beqA_ptr, nT]
  · have hx : seekWord ws t f w = ws.getD w 0 ^^^ t := by unfold seekWord; rw [if_neg hq]
    rw [hcast, decide_eq_false hq]
    simp only [iF, xor_u64, ← hx, beq_zero, hw1]
    generalize hxx : seekWord ws t f w = x at *
    by_cases h0 : x = 0
    · subst h0; rw [if_pos rfl]; rfl
    · have hb : (x == 0#64) = false := by simpa using h0
      obtain ⟨c1, c2⟩ := fin x rfl h0 (k' := k)
      rw [if_neg h0, hb]
      simp only [iF, c1, bO, aI, row_cells h.row, List.getElem?_cons_zero, c2, hdec, beqA_int, beqA_bool, beqA_ptr, nT]

/-- a mask that turns all digits, or none -/
def turnW (b : Bool) : W64 := if b then BitVec.allOnes 64 else 0#64

theorem turn_bit (b : Bool) {j : Nat} (hj : j < 64) : (turnW b).getLsbD j = b := by
  cases b with
  | false => simp [turnW]
  | true => rw [turnW, if_pos rfl, BitVec.getLsbD_allOnes, decide_eq_true hj]

/-- the first place from one on, below n -/
def firstP (p : Nat → Bool) (n f : Nat) : Option Nat := (List.range n).find? fun i => decide (f ≤ i) && p i

theorem firstP_some {p : Nat → Bool} {n f i : Nat} : firstP p n f = some i ↔ i < n ∧ (f ≤ i ∧ p i = true) ∧ ∀ j, j < i → f ≤ j → p j = false := by
  unfold firstP
  rw [find_range]
  simp

theorem firstP_none {p : Nat → Bool} {n f : Nat} : firstP p n f = none ↔ ∀ j, j < n → f ≤ j → p j = false := by
  unfold firstP
  rw [find_range_none]
  simp

theorem seekWord_bit (ws : List W64) (b : Bool) {f w j : Nat} (hw : f / 64 ≤ w) (hj : j < 64) : (seekWord ws (turnW b) f w).getLsbD j = (decide (f ≤ w * 64 + j) && (bitAt ws (w * 64 + j) != b)) := by
  have hb : bitAt ws (w * 64 + j) = (ws.getD w 0).getLsbD j := by
    unfold bitAt
    rw [show (w * 64 + j) / 64 = w by omega, show (w * 64 + j) % 64 = j by omega]
  have hx : (ws.getD w 0 ^^^ turnW b).getLsbD j = (bitAt ws (w * 64 + j) != b) := by
    rw [BitVec.getLsbD_xor, turn_bit b hj, hb]
  unfold seekWord
  by_cases q : w = f / 64
  · rw [if_pos q, BitVec.getLsbD_and, hx, BitVec.getLsbD_shiftLeft, BitVec.getLsbD_allOnes, Bool.and_comm]
    congr 1
    by_cases z : f ≤ w * 64 + j
    · rw [decide_eq_true z]; simp [hj]; omega
    · rw [decide_eq_false z]; simp [hj]; omega
  · rw [if_neg q, hx, decide_eq_true (show f ≤ w * 64 + j by omega), Bool.true_and]

theorem seek_loop (h : RowAt M R cnt ws) (f : Nat) (hf : f ≤ 70000) (b : Bool) (hm : 1 ≤ m) : ∀ (d w mm : Nat), ws.length - w = d → f / 64 ≤ w → (∀ i, f ≤ i → i < w * 64 → (bitAt ws i != b) = false) → d + 1 ≤ mm →
    ∃ (x : Nat) (r : Bool), runLoop Tryd.prog HK Tryd.f43 0 [0, 1, 2, 6, 7, 8] m mm (seekFr R f (turnW b) 0 false w) M (afterLoop Tryd.prog HK Tryd.f43 0 m) = some (.tup [.int .i64 x, .bool r], M) ∧
      (r = true → firstP (fun i => bitAt ws i != b) R.n f = some x) ∧ (r = false → firstP (fun i => bitAt ws i != b) R.n f = none) := by
  intro d
  induction d with
  | zero =>
    intro w mm hd hw hno hmm
    obtain ⟨mm, rfl⟩ : ∃ k, mm = k + 1 := ⟨mm - 1, by omega⟩
    refine ⟨0, false, ?_, by simp, fun _ => ?_⟩
    · rw [runLoop_succ, seekFr, seek_body]
      have hnl : decide ((w : Int) < (ws.length : Int)) = false := by simp; omega
      simp only [bO, aL, iF, row_cells h.row, List.getElem?_cons_zero, List.getElem?_cons_succ, hnl, onward_exit, seek_end]
      rfl
    · rw [firstP_none]
      intro j hj hfj
      have := h.len
      exact hno j hfj (by omega)
  | succ d ih =>
    intro w mm hd hw hno hmm
    obtain ⟨mm, rfl⟩ : ∃ k, mm = k + 1 := ⟨mm - 1, by omega⟩
    have hwl : w < ws.length := by omega
    rw [runLoop_succ, seek_round h f w hf hwl (turnW b) hm]
    by_cases hx : seekWord ws (turnW b) f w = 0
    · rw [if_pos hx, onward_normal]
      refine ih (w + 1) mm (by omega) (by omega) (fun i hfi hi => ?_) (by omega)
      by_cases q : i < w * 64
      · exact hno i hfi q
      · obtain ⟨j, rfl⟩ : ∃ j, i = w * 64 + j := ⟨i - w * 64, by omega⟩
        have hb := seekWord_bit ws b hw (show j < 64 by omega)
        rw [hx, show decide (f ≤ w * 64 + j) = true by simpa using hfi, Bool.true_and] at hb
        rw [← hb]; simp
    · rw [if_neg hx, onward_ret]
      obtain ⟨t1, t2, t3⟩ := tz_spec hx
      have hb := seekWord_bit ws b hw t1
      rw [t2] at hb
      have hb' : f ≤ w * 64 + tz (seekWord ws (turnW b) f w) ∧ (bitAt ws (w * 64 + tz (seekWord ws (turnW b) f w)) != b) = true := by simpa using hb.symm
      have hmin : ∀ j, j < w * 64 + tz (seekWord ws (turnW b) f w) → f ≤ j → (bitAt ws j != b) = false := by
        intro j hj hfj
        by_cases q : j < w * 64
        · exact hno j hfj q
        · obtain ⟨i, rfl⟩ : ∃ i, j = w * 64 + i := ⟨j - w * 64, by omega⟩
          have hb2 := seekWord_bit ws b hw (show i < 64 by omega)
          rw [t3 i (by omega), show decide (f ≤ w * 64 + i) = true by simpa using hfj, Bool.true_and] at hb2
          exact hb2.symm
      refine ⟨w * 64 + tz (seekWord ws (turnW b) f w), decide (w * 64 + tz (seekWord ws (turnW b) f w) < R.n), ?_, fun hr => ?_, fun hr => ?_⟩
      · rw [seekFr, seek_ret]
      · rw [firstP_some]
        exact ⟨by simpa using hr, hb', hmin⟩
      · rw [firstP_none]
        intro j hj hfj
        have : R.n ≤ w * 64 + tz (seekWord ws (turnW b) f w) := by simpa using hr
        exact hmin j (by omega) hfj

/-- what Free and Next tell -/
def placeA : Option Nat → AV
  | some i => .tup [.int .i64 i, .bool true]
  | none => .tup [.int .i64 0, .bool false]

theorem seek_run (h : RowAt M R cnt ws) (i : Int) (hi : i < R.n) (b : Bool) (hm : 1030 ≤ m) :
    ∃ (x : Nat) (r : Bool), call m 43 [.ptr (some (R.a, 0)), .int .i64 i, .int .u64 (u64 (turnW b))] M = some (.tup [.int .i64 x, .bool r], M) ∧
      (r = true → firstP (fun i => bitAt ws i != b) R.n i.toNat = some x) ∧ (r = false → firstP (fun i => bitAt ws i != b) R.n i.toNat = none) := by
  obtain ⟨k, rfl⟩ : ∃ k, m = k + 1 := ⟨m - 1, by omega⟩
  have hle := R.le
  have hlen := h.len
  have hmax : (if i > 0 then i else 0) = (i.toNat : Int) := by split <;> omega
  have := seek_loop h i.toNat (by omega) b (m := k) (by omega) _ (i.toNat / 64) k rfl (Nat.le_refl _) (fun j h1 h2 => by omega) (by omega)
  rw [call, acall_run Tryd.func43 (hk (by decide)), seek_eq, hmax, idiv _ (by omega)]
  exact this

theorem told_run (i : Int) (ok : Bool) (hm : 1 ≤ m) : call m 42 [.int .i64 i, .bool ok] M = some (if ok then .tup [.int .i64 i, .bool true] else .tup [.int .i64 0, .bool false], M) := by
  obtain ⟨k, rfl⟩ : ∃ k, m = k + 1 := ⟨m - 1, by omega⟩
  rw [call, acall_run Tryd.func42 (hk (by decide)), told_eq]
  cases ok <;> rfl

theorem next_run (h : RowAt M R cnt ws) (i : Int) (hm : 1031 ≤ m) : call m 11 [.ptr (some (R.a, 0)), .int .i64 i] M = some (placeA (firstP (bitAt ws) R.n i.toNat), M) := by
  obtain ⟨k, rfl⟩ : ∃ k, m = k + 1 := ⟨m - 1, by omega⟩
  have hl := len_run h (m := k) (by omega)
  rw [call, acall_run Tryd.func11 (hk (by decide)), next_eq]
  simp only [hl, bO, aI]
  by_cases hi : (R.n : Int) ≤ i
  · rw [show decide (i ≥ (R.n : Int)) = true by simpa using hi, iT]
    have : firstP (bitAt ws) R.n i.toNat = none := by rw [firstP_none]; intro j h1 h2; omega
    rw [this]; rfl
  · obtain ⟨x, r, h1, h2, h3⟩ := seek_run h i (by omega) false (m := k) (by omega)
    have e : (fun i => bitAt ws i != false) = bitAt ws := by funext i; simp
    rw [e] at h2 h3
    have h1' : call k 43 [.ptr (some (R.a, 0)), .int .i64 i, .int .u64 0] M = some (.tup [.int .i64 x, .bool r], M) := h1
    rw [show decide (i ≥ (R.n : Int)) = false by simp; omega, iF]
    cases r with
    | true => simp only [h1', bO, aT, aC, aI, aB, aN, told_run (x : Int) true (m := k) (by omega), if_true, h2 rfl, placeA, List.getElem?_cons_zero, List.getElem?_cons_succ]
    | false => simp only [h1', bO, aT, aC, aI, aB, aN, told_run (x : Int) false (m := k) (by omega), Bool.false_eq_true, if_false, h3 rfl, placeA, List.getElem?_cons_zero, List.getElem?_cons_succ]

theorem free_run (h : RowAt M R cnt ws) (i : Int) (hm : 1031 ≤ m) : call m 13 [.ptr (some (R.a, 0)), .int .i64 i] M = some (placeA (firstP (fun j => !bitAt ws j) R.n i.toNat), M) := by
  obtain ⟨k, rfl⟩ : ∃ k, m = k + 1 := ⟨m - 1, by omega⟩
  have hl := len_run h (m := k) (by omega)
  rw [call, acall_run Tryd.func13 (hk (by decide)), free_eq]
  simp only [hl, bO, aI]
  by_cases hi : (R.n : Int) ≤ i
  · rw [show decide (i ≥ (R.n : Int)) = true by simpa using hi, iT]
    have : firstP (fun j => !bitAt ws j) R.n i.toNat = none := by rw [firstP_none]; intro j h1 h2; omega
    rw [this]; rfl
  · obtain ⟨x, r, h1, h2, h3⟩ := seek_run h i (by omega) true (m := k) (by omega)
    have e : (fun i => bitAt ws i != true) = (fun j => !bitAt ws j) := by funext i; simp
    rw [e] at h2 h3
    have h1' : call k 43 [.ptr (some (R.a, 0)), .int .i64 i, .int .u64 18446744073709551615] M = some (.tup [.int .i64 x, .bool r], M) := h1
    rw [show decide (i ≥ (R.n : Int)) = false by simp; omega, iF]
    cases r with
    | true => simp only [h1', bO, aT, aC, aI, aB, aN, told_run (x : Int) true (m := k) (by omega), if_true, h2 rfl, placeA, List.getElem?_cons_zero, List.getElem?_cons_succ]
    | false => simp only [h1', bO, aT, aC, aI, aB, aN, told_run (x : Int) false (m := k) (by omega), Bool.false_eq_true, if_false, h3 rfl, placeA, List.getElem?_cons_zero, List.getElem?_cons_succ]

theorem RowAt.of {M' : AMem} (h : RowAt M R cnt ws) (h0 : M'.get 0 = M.get 0) (ha : M'.get R.a = M.get R.a) (hb : M'.get R.b = M.get R.b) : RowAt M' R cnt ws :=
  ⟨ha.trans h.row, hb.trans h.words, h.len, h.top, h0.trans h.tab⟩

end
end Go.Proofs.YtiecjbgefkelfaaDoor
