/-
  'sluicegatelaw04.BitsPlay' answers true, told of the abstract memory.
-/
import Derived.Test.YtiecjbgefkelfaaDoorBitsRef
namespace Go.Proofs.YtiecjbgefkelfaaDoor
open Go.Ab
set_option linter.unusedVariables false
set_option linter.unusedSimpArgs false

theorem firstP_ext {p q : Nat → Bool} {n : Nat} (h : ∀ j, j < n → p j = q j) (f : Nat) : firstP p n f = firstP q n f := by
  cases e : firstP q n f with
  | some i =>
    obtain ⟨h1, ⟨h2, h3⟩, h4⟩ := firstP_some.1 e
    rw [firstP_some]
    exact ⟨h1, ⟨h2, by rw [h i h1]; exact h3⟩, fun j hj hf => by rw [h j (by omega)]; exact h4 j hj hf⟩
  | none =>
    rw [firstP_none] at e ⊢
    exact fun j hj hf => by rw [h j hj]; exact e j hj hf

/-- the acts that came in -/
def actCells (xs : List (Int × Int)) : List AV := xs.flatMap fun x => [.int .i64 x.1, .int .i64 x.2]

theorem actCells_get : ∀ {xs : List (Int × Int)} {w : Nat}, w < xs.length → (actCells xs)[w * 2 + 0]? = some (.int .i64 (xs.getD w (0, 0)).1) ∧ (actCells xs)[w * 2 + 1]? = some (.int .i64 (xs.getD w (0, 0)).2)
  | [], w, h => absurd h (Nat.not_lt_zero _)
  | x :: xs, 0, _ => ⟨rfl, rfl⟩
  | x :: xs, w + 1, h => by
    have := actCells_get (xs := xs) (w := w) (by simpa using h)
    have e : ∀ b, (w + 1) * 2 + b = (w * 2 + b) + 1 + 1 := fun b => by omega
    show (AV.int .i64 x.1 :: AV.int .i64 x.2 :: actCells xs)[_]? = _ ∧ (AV.int .i64 x.1 :: AV.int .i64 x.2 :: actCells xs)[_]? = _
    rw [e, e, List.getElem?_cons_succ, List.getElem?_cons_succ, List.getElem?_cons_succ, List.getElem?_cons_succ]
    simpa using this

structure ActIn (M : AMem) (s : Option (Nat × Nat)) (l : Nat) (xs : List (Int × Int)) : Prop where
  len : xs.length = l
  at' : l = 0 ∨ (s = some (1, 0) ∧ M.get 1 = some (.ro (actCells xs)))

theorem ActIn.of {M M' : AMem} {s : Option (Nat × Nat)} {l : Nat} {xs : List (Int × Int)} (h : ActIn M s l xs) (hk : M'.get 1 = M.get 1) : ActIn M' s l xs := ⟨h.len, by rw [hk]; exact h.at'⟩

/-- what holds between the rounds -/
structure InvP (M : AMem) (R : RowS) (s : Option (Nat × Nat)) (l : Nat) (xs : List (Int × Int)) (cnt : Nat) (ws : List W64) (p : Nat) (bs : List Bool) : Prop where
  row : RowAt M R cnt ws
  ref : RefAt M p R.n bs
  sl : ActIn M s l xs
  rel : ∀ j, j < R.n → bs.getD j false = bitAt ws j
  num : cnt = cB (bitAt ws) R.n
  lt : R.a < M.next ∧ R.b < M.next ∧ p < M.next ∧ 2 ≤ M.next
  big : 2 ≤ R.a ∧ 2 ≤ R.b ∧ 2 ≤ p ∧ p ≠ R.a ∧ p ≠ R.b

section
variable {M : AMem} {R : RowS} {cnt : Nat} {ws : List W64} {m : Nat} {s : Option (Nat × Nat)} {l : Nat} {xs : List (Int × Int)} {c pc : Option Nat} {p : Nat} {bs : List Bool}

theorem RowAt.of {M' : AMem} (h : RowAt M R cnt ws) (h0 : M'.get 0 = M.get 0) (ha : M'.get R.a = M.get R.a) (hb : M'.get R.b = M.get R.b) : RowAt M' R cnt ws :=
  ⟨ha.trans h.row, hb.trans h.words, h.len, h.top, h0.trans h.tab⟩

abbrev frP (n : Nat) (s : Option (Nat × Nat)) (l : Nat) (c : Option Nat) (ask : Int) (a : Nat) (p : Nat) (pc : Option Nat) (w : Nat) : Fr :=
  mkFr [(0, .int .i64 n), (1, .slice s l c), (2, .int .i64 ask), (6, .bool false), (7, .ptr (some (a, 0))), (8, .int .i64 0), (9, .slice (some (p, 0)) n pc), (10, .int .i64 w)]

abbrev frQ (n : Nat) (s : Option (Nat × Nat)) (l : Nat) (c : Option Nat) (ask : Int) (a : Nat) (p : Nat) (pc : Option Nat) (w : Nat) (kd : Int) : Fr :=
  mkFr [(0, .int .i64 n), (1, .slice s l c), (2, .int .i64 ask), (6, .bool false), (7, .ptr (some (a, 0))), (8, .int .i64 0), (9, .slice (some (p, 0)) n pc), (10, .int .i64 w), (11, .bool true), (81, .int .i64 kd)]

/-- the round behind its switch -/
theorem play_check (h : InvP M R s l xs cnt ws p bs) (ask : Int) {w : Nat} (hw : w < 60) (kd : Int) (hm : 70000 ≤ m) (k : AExit → Fr → AMem → Option (AV × AMem)) :
    behindBlk Tryd.prog HK Tryd.f4 0 2 m [0, 1, 2, 6, 7, 8, 9, 10] k .normal (frQ R.n s l c ask R.a p pc w kd) M = k .normal (frP R.n s l c ask R.a p pc (w + 1)) M := by
  have hle := R.le
  have h1 := free_run h.row ask (m := m) (by omega)
  have h2 := first_run (c := pc) h.ref hle ask false (m := m) (by omega)
  have h3 := next_run h.row ask (m := m) (by omega)
  have h4 := first_run (c := pc) h.ref hle ask true (m := m) (by omega)
  have h5 := len_run h.row (m := m) (by omega)
  have h6 := count_run h.row (m := m) (by omega)
  have h7 := rcount_run (c := pc) h.ref hle (m := m) (by omega)
  rw [firstP_ext (q := fun j => !bitAt ws j) (fun j hj => by rw [h.rel j hj]; cases bitAt ws j <;> rfl)] at h2
  rw [firstP_ext (q := bitAt ws) (fun j hj => by rw [h.rel j hj]; cases bitAt ws j <;> rfl)] at h4
  rw [cB_ext (q := bitAt ws) (fun j hj => h.rel j hj), ← h.num] at h7
  obtain ⟨b, h8, h9⟩ : ∃ b, call m 12 [.ptr (some (R.a, 0)), .int .i64 ask] M = some (.bool b, M) ∧ call m 23 [.slice (some (p, 0)) R.n pc, .int .i64 ask] M = some (.bool b, M) := by
    by_cases hi : 0 ≤ ask ∧ ask < (R.n : Int)
    · obtain ⟨j, rfl⟩ : ∃ j : Nat, ask = j := ⟨ask.toNat, by omega⟩
      have hj : j < R.n := by omega
      refine ⟨bitAt ws j, has_in h.row hj (by omega), ?_⟩
      rw [rhas_in (c := pc) h.ref hj (by omega), h.rel j hj]
    · exact ⟨false, has_out h.row hi (by omega), rhas_out (p := p) hi (by omega)⟩
  have hw1 : IntKind.i64.wrap ((w : Int) + 1) = ((w + 1 : Nat) : Int) := by rw [wrap_i64 (by omega) (by omega)]; rfl
  rw [placeA_eq] at h1 h2 h3 h4
  rw [frQ, play_rest]
  have hne : ∀ x : Int, (x != x) = false := fun x => by simp
  have hbb : ∀ x : Bool, ((x == x) != true) = false := fun x => by cases x <;> rfl
  simp only [Bool.not_true, ff, iT, cond_false, iF, h1, bO, aT, aC, aI, aB, aN, h2, h3, h4, hne, hbb, h5, h6, h7, h8, h9, hw1]

/-- what the switch leaves: all is in order still -/
abbrev SwOk (m : Nat) (n : Nat) (s : Option (Nat × Nat)) (l : Nat) (c : Option Nat) (ask : Int) (xs : List (Int × Int)) (w : Nat) (kd : Int) (k : AExit → Fr → AMem → Option (AV × AMem)) (r : Option (AV × AMem)) : Prop :=
  ∃ (R' : RowS) (M' : AMem) (cnt' : Nat) (ws' : List W64) (p' : Nat) (pc' : Option Nat) (bs' : List Bool), R'.n = n ∧ InvP M' R' s l xs cnt' ws' p' bs' ∧ r = k .normal (frQ n s l c ask R'.a p' pc' w kd) M'

theorem ActIn.gets {M : AMem} (h : ActIn M s l xs) {w : Nat} (hw : w < l) : s = some (1, 0) ∧ M.row 1 = some (actCells xs) ∧ (actCells xs)[w * 2 + 0]? = some (.int .i64 (xs.getD w (0, 0)).1) ∧ (actCells xs)[w * 2 + 1]? = some (.int .i64 (xs.getD w (0, 0)).2) := by
  rcases h.at' with h0 | ⟨h1, h2⟩
  · omega
  · have := actCells_get (xs := xs) (w := w) (by rw [h.len]; exact hw)
    exact ⟨h1, row_ro h2, this.1, this.2⟩

/-- Set on both sides -/
theorem both_set (h : InvP M R s l xs cnt ws p bs) (i : Int) (hm : 70000 ≤ m) : ∃ (M1 M2 : AMem) (cnt' : Nat) (ws' : List W64) (p' : Nat) (pc' : Option Nat) (bs' : List Bool) (v : Int),
    call m 17 [.slice (some (p, 0)) R.n pc, .int .i64 i] M = some (.tup [.slice (some (p', 0)) R.n pc', .int .i64 v], M1) ∧ M1.get 1 = M.get 1 ∧
    call m 10 [.ptr (some (R.a, 0)), .int .i64 i] M1 = some (.int .i64 v, M2) ∧ InvP M2 R s l xs cnt' ws' p' bs' := by
  have hle := R.le
  obtain ⟨l1, l2, l3, l4⟩ := h.lt
  obtain ⟨b1, b2, b3, b4, b5⟩ := h.big
  by_cases hi : 0 ≤ i ∧ i < (R.n : Int)
  · obtain ⟨j, rfl⟩ : ∃ j : Nat, i = j := ⟨i.toNat, by omega⟩
    have hj : j < R.n := by omega
    have e1 := rset_in (c := pc) h.ref l3 hle hj (m := m) (by omega)
    rw [h.rel j hj] at e1
    have hcle : cnt ≤ R.n := by rw [h.num]; exact cB_le _ _
    by_cases hb : bitAt ws j = true
    · rw [hb, if_pos rfl] at e1
      have e2 := set_in h.row hj (m := m) (by omega) hcle
      rw [hb, if_pos rfl] at e2
      exact ⟨M, M, cnt, ws, p, pc, bs, 10, e1, rfl, e2, h⟩
    · have hb' : bitAt ws j = false := by simpa using hb
      rw [hb', if_neg (by simp)] at e1
      generalize hM1 : ((M.new (.cells [] 0 true)).new (.cells (bs.map AV.bool) 1 true)).set (M.next + 1) (.cells ((bs.set j true).map AV.bool) 1 true) = M1 at *
      have hget : ∀ q, q < M.next → M1.get q = M.get q := fun q hq => by
        rw [← hM1, AMem.get_set, AMem.get_new, AMem.get_new, AMem.next_new, if_neg (by omega), if_neg (by omega), if_neg (by omega)]
      have hnew : M1.get (M.next + 1) = some (.cells ((bs.set j true).map AV.bool) 1 true) := by rw [← hM1, AMem.get_set, if_pos rfl]
      have hnx : M1.next = M.next + 2 := by rw [← hM1]; rfl
      have hrow1 : RowAt M1 R cnt ws := h.row.of (hget 0 (by omega)) (hget _ l1) (hget _ l2)
      have e2 := set_in hrow1 hj (m := m) (by omega) hcle
      rw [hb', if_neg (by simp)] at e2
      have hd := h.row.div_lt hj
      have hbit := fun i => bitAt_or hd i
      have hlen : (ws.set (j / 64) (ws.getD (j / 64) 0 ||| 1#64 <<< (j % 64))).length = ws.length := List.length_set
      generalize ws.set (j / 64) (ws.getD (j / 64) 0 ||| 1#64 <<< (j % 64)) = ws' at *
      have hbit' : ∀ i, bitAt ws' i = (decide (i = j) || bitAt ws i) := hbit
      have hcast : ((cnt : Int) + 1) = ((cnt + 1 : Nat) : Int) := rfl
      rw [hcast] at e2
      have hrow2 := RowAt.put hrow1 (cnt' := cnt + 1) (ws' := ws') hlen (fun i hi => by rw [hbit', h.row.top i hi]; simp; omega) (by omega) (by omega)
      have hget2 : ∀ q, q ≠ R.a → q ≠ R.b → (R.put M1 ((cnt + 1 : Nat) : Int) ws').get q = M1.get q := fun q h1 h2 => by
        unfold RowS.put; rw [AMem.get_set, if_neg h1, AMem.get_set, if_neg h2]
      refine ⟨M1, _, cnt + 1, ws', M.next + 1, none, bs.set j true, 0, e1, hget 1 (by omega), e2, hrow2, ⟨⟨1, true, ?_⟩, by rw [List.length_set]; exact h.ref.len⟩, h.sl.of ?_, fun q hq => ?_, ?_, ?_, by omega⟩
      · rw [hget2 _ (by omega) (by omega)]; exact hnew
      · rw [hget2 _ (by omega) (by omega)]; exact hget 1 (by omega)
      · rw [hbit', List.getD_eq_getElem?_getD, List.getElem?_set]
        have := h.ref.len
        by_cases e : j = q
        · subst e; rw [if_pos rfl, if_pos (by omega)]; simp
        · rw [if_neg e, ← List.getD_eq_getElem?_getD, h.rel q hq]; simp; omega
      · rw [h.num, cB_set hb' (show bitAt ws' j = true by rw [hbit']; simp) (fun i hi => by rw [hbit']; simp [hi]) hj]
      · have : (R.put M1 ((cnt + 1 : Nat) : Int) ws').next = M1.next := rfl
        rw [this, hnx]; omega
  · exact ⟨M, M, cnt, ws, p, pc, bs, 4, rset_out hi (by omega), rfl, set_out h.row hi (by omega), h⟩

/-- Clear on both sides -/
theorem both_clear (h : InvP M R s l xs cnt ws p bs) (i : Int) (hm : 70000 ≤ m) : ∃ (M1 M2 : AMem) (cnt' : Nat) (ws' : List W64) (p' : Nat) (pc' : Option Nat) (bs' : List Bool) (v : Int),
    call m 18 [.slice (some (p, 0)) R.n pc, .int .i64 i] M = some (.tup [.slice (some (p', 0)) R.n pc', .int .i64 v], M1) ∧ M1.get 1 = M.get 1 ∧
    call m 19 [.ptr (some (R.a, 0)), .int .i64 i] M1 = some (.int .i64 v, M2) ∧ InvP M2 R s l xs cnt' ws' p' bs' := by
  have hle := R.le
  obtain ⟨l1, l2, l3, l4⟩ := h.lt
  obtain ⟨b1, b2, b3, b4, b5⟩ := h.big
  by_cases hi : 0 ≤ i ∧ i < (R.n : Int)
  · obtain ⟨j, rfl⟩ : ∃ j : Nat, i = j := ⟨i.toNat, by omega⟩
    have hj : j < R.n := by omega
    have e1 := rclear_in (c := pc) h.ref l3 hle hj (m := m) (by omega)
    rw [h.rel j hj] at e1
    have hcle : cnt ≤ R.n := by rw [h.num]; exact cB_le _ _
    by_cases hb : bitAt ws j = true
    · rw [hb, if_pos rfl] at e1
      generalize hM1 : ((M.new (.cells [] 0 true)).new (.cells (bs.map AV.bool) 1 true)).set (M.next + 1) (.cells ((bs.set j false).map AV.bool) 1 true) = M1 at *
      have hget : ∀ q, q < M.next → M1.get q = M.get q := fun q hq => by
        rw [← hM1, AMem.get_set, AMem.get_new, AMem.get_new, AMem.next_new, if_neg (by omega), if_neg (by omega), if_neg (by omega)]
      have hnew : M1.get (M.next + 1) = some (.cells ((bs.set j false).map AV.bool) 1 true) := by rw [← hM1, AMem.get_set, if_pos rfl]
      have hnx : M1.next = M.next + 2 := by rw [← hM1]; rfl
      have hrow1 : RowAt M1 R cnt ws := h.row.of (hget 0 (by omega)) (hget _ l1) (hget _ l2)
      have e2 := clear_in hrow1 hj (m := m) (by omega) hcle
      rw [hb, if_pos rfl] at e2
      have hd := h.row.div_lt hj
      have hbit := fun i => bitAt_andNot hd i
      have hlen : (ws.set (j / 64) (ws.getD (j / 64) 0 &&& ~~~ (1#64 <<< (j % 64)))).length = ws.length := List.length_set
      generalize ws.set (j / 64) (ws.getD (j / 64) 0 &&& ~~~ (1#64 <<< (j % 64))) = ws' at *
      have hbit' : ∀ i, bitAt ws' i = (!decide (i = j) && bitAt ws i) := hbit
      have hone : cB (bitAt ws) R.n = cB (bitAt ws') R.n + 1 := cB_set (show bitAt ws' j = false by rw [hbit']; simp) hb (fun i hi => by rw [hbit']; simp [hi]) hj
      have hcast : ((cnt : Int) - 1) = ((cB (bitAt ws') R.n : Nat) : Int) := by rw [h.num, hone]; omega
      rw [hcast] at e2
      have hrow2 := RowAt.put hrow1 (cnt' := cB (bitAt ws') R.n) (ws' := ws') hlen (fun i hi => by rw [hbit', h.row.top i hi]; simp) (by omega) (by omega)
      have hget2 : ∀ q, q ≠ R.a → q ≠ R.b → (R.put M1 ((cB (bitAt ws') R.n : Nat) : Int) ws').get q = M1.get q := fun q h1 h2 => by
        unfold RowS.put; rw [AMem.get_set, if_neg h1, AMem.get_set, if_neg h2]
      refine ⟨M1, _, cB (bitAt ws') R.n, ws', M.next + 1, none, bs.set j false, 0, e1, hget 1 (by omega), e2, hrow2, ⟨⟨1, true, ?_⟩, by rw [List.length_set]; exact h.ref.len⟩, h.sl.of ?_, fun q hq => ?_, rfl, ?_, by omega⟩
      · rw [hget2 _ (by omega) (by omega)]; exact hnew
      · rw [hget2 _ (by omega) (by omega)]; exact hget 1 (by omega)
      · rw [hbit', List.getD_eq_getElem?_getD, List.getElem?_set]
        have := h.ref.len
        by_cases e : j = q
        · subst e; rw [if_pos rfl, if_pos (by omega)]; simp
        · rw [if_neg e, ← List.getD_eq_getElem?_getD, h.rel q hq]
          have : ¬ q = j := fun e' => e e'.symm
          simp [this]
      · have : (R.put M1 ((cB (bitAt ws') R.n : Nat) : Int) ws').next = M1.next := rfl
        rw [this, hnx]; omega
    · have hb' : bitAt ws j = false := by simpa using hb
      rw [hb', if_neg (by simp)] at e1
      have e2 := clear_in h.row hj (m := m) (by omega) hcle
      rw [hb', if_neg (by simp)] at e2
      exact ⟨M, M, cnt, ws, p, pc, bs, 9, e1, rfl, e2, h⟩
  · exact ⟨M, M, cnt, ws, p, pc, bs, 4, rclear_out hi (by omega), rfl, clear_out h.row hi (by omega), h⟩

/-- Set, or Clear, of a row turns its own blocks alone -/
theorem set_any (h : RowAt M R cnt ws) (hc : cnt = cB (bitAt ws) R.n) (hb : 2 ≤ R.a ∧ 2 ≤ R.b) (i : Int) (hm : 70000 ≤ m) : ∃ (v : Int) (M' : AMem) (cnt' : Nat) (ws' : List W64), call m 10 [.ptr (some (R.a, 0)), .int .i64 i] M = some (.int .i64 v, M') ∧ M'.next = M.next ∧ (∀ q, q ≠ R.a → q ≠ R.b → M'.get q = M.get q) ∧ RowAt M' R cnt' ws' ∧ cnt' ≤ R.n := by
  have hle := R.le
  have hcle : cnt ≤ R.n := by rw [hc]; exact cB_le _ _
  by_cases hi : 0 ≤ i ∧ i < (R.n : Int)
  · obtain ⟨j, rfl⟩ : ∃ j : Nat, i = j := ⟨i.toNat, by omega⟩
    have hj : j < R.n := by omega
    have e2 := set_in h hj (m := m) (by omega) hcle
    by_cases q : bitAt ws j = true
    · rw [q, if_pos rfl] at e2
      exact ⟨10, M, cnt, ws, e2, rfl, fun _ _ _ => rfl, h, hcle⟩
    · have hb' : bitAt ws j = false := by simpa using q
      rw [hb', if_neg (by simp)] at e2
      have hd := h.div_lt hj
      have hbit := fun i => bitAt_or hd i
      have hlen : (ws.set (j / 64) (ws.getD (j / 64) 0 ||| 1#64 <<< (j % 64))).length = ws.length := List.length_set
      generalize ws.set (j / 64) (ws.getD (j / 64) 0 ||| 1#64 <<< (j % 64)) = ws' at *
      have hbit' : ∀ i, bitAt ws' i = (decide (i = j) || bitAt ws i) := hbit
      have hcast : ((cnt : Int) + 1) = ((cnt + 1 : Nat) : Int) := rfl
      rw [hcast] at e2
      have hone : cB (bitAt ws') R.n = cB (bitAt ws) R.n + 1 := cB_set hb' (show bitAt ws' j = true by rw [hbit']; simp) (fun i hi => by rw [hbit']; simp [hi]) hj
      have := cB_le (bitAt ws') R.n
      exact ⟨0, _, cnt + 1, ws', e2, rfl, fun q h1 h2 => by unfold RowS.put; rw [AMem.get_set, if_neg h1, AMem.get_set, if_neg h2], RowAt.put h hlen (fun i hi => by rw [hbit', h.top i hi]; simp; omega) (by omega) (by omega), by omega⟩
  · exact ⟨4, M, cnt, ws, set_out h hi (by omega), rfl, fun _ _ _ => rfl, h, hcle⟩

theorem clear_zero (h : RowAt M R cnt ws) (hcle : cnt ≤ R.n) (hm : 70000 ≤ m) : ∃ (v : Int) (M' : AMem), call m 19 [.ptr (some (R.a, 0)), .int .i64 0] M = some (.int .i64 v, M') ∧ M'.next = M.next ∧ (∀ q, q ≠ R.a → q ≠ R.b → M'.get q = M.get q) := by
  have hpos := R.pos
  have e2 := clear_in h (j := 0) hpos (m := m) (by omega) hcle
  by_cases q : bitAt ws 0 = true
  · rw [q, if_pos rfl] at e2
    exact ⟨0, _, e2, rfl, fun q h1 h2 => by unfold RowS.put; rw [AMem.get_set, if_neg h1, AMem.get_set, if_neg h2]⟩
  · rw [if_neg q] at e2
    exact ⟨9, M, e2, rfl, fun _ _ _ => rfl⟩

/-- a round's fork -/
theorem fork_on (h : InvP M R s l xs cnt ws p bs) (i : Int) (hm : 70000 ≤ m) : ∃ (R' : RowS) (M1 M2 M3 : AMem) (v1 v2 : Int),
    R'.n = R.n ∧ call m 20 [.ptr (some (R.a, 0))] M = some (.ptr (some (R'.a, 0)), M1) ∧ M1.get 1 = M.get 1 ∧ call m 10 [.ptr (some (R.a, 0)), .int .i64 i] M1 = some (.int .i64 v1, M2) ∧
    call m 19 [.ptr (some (R.a, 0)), .int .i64 0] M2 = some (.int .i64 v2, M3) ∧ InvP M3 R' s l xs cnt ws p bs := by
  obtain ⟨l1, l2, l3, l4⟩ := h.lt
  obtain ⟨b1, b2, b3, b4, b5⟩ := h.big
  have e1 := fork_run h.row l2 l1 (m := m) (by omega)
  generalize hM1 : ((M.new (.cells [] 0 true)).new (.cells (ws.map wA) 1 true)).new (.cells [.int .i64 R.n, .int .i64 cnt, .slice (some (M.next + 1, 0)) ws.length none] 0 true) = M1 at *
  have hget : ∀ q, q < M.next → M1.get q = M.get q := fun q hq => by
    rw [← hM1, AMem.get_new, AMem.get_new, AMem.get_new, AMem.next_new, AMem.next_new, if_neg (by omega), if_neg (by omega), if_neg (by omega)]
  have hnx : M1.next = M.next + 3 := by rw [← hM1]; rfl
  have hrow1 : RowAt M1 R cnt ws := h.row.of (hget 0 (by omega)) (hget _ l1) (hget _ l2)
  have hga : M1.get (M.next + 2) = some (.cells [.int .i64 R.n, .int .i64 cnt, .slice (some (M.next + 1, 0)) ws.length none] 0 true) := by rw [← hM1, AMem.get_new, AMem.next_new, AMem.next_new, if_pos rfl]
  have hgb : M1.get (M.next + 1) = some (.cells (ws.map wA) 1 true) := by rw [← hM1, AMem.get_new, AMem.get_new, AMem.next_new, AMem.next_new, if_neg (by omega), if_pos rfl]
  obtain ⟨v1, M2, cnt2, ws2, e2, n2, g2, r2, c2⟩ := set_any hrow1 h.num ⟨b1, b2⟩ i hm
  obtain ⟨v2, M3, e3, n3, g3⟩ := clear_zero r2 c2 hm
  let R' : RowS := ⟨M.next + 2, M.next + 1, R.n, none, 0, 1, true, true, by omega, R.pos, R.le⟩
  have hg : ∀ q, q ≠ R.a → q ≠ R.b → M3.get q = M1.get q := fun q h1 h2 => (g3 q h1 h2).trans (g2 q h1 h2)
  refine ⟨R', M1, M2, M3, v1, v2, rfl, e1, hget 1 (by omega), e2, e3, ⟨?_, ?_, h.row.len, h.row.top, ?_⟩, ⟨?_, h.ref.len⟩, h.sl.of ?_, h.rel, h.num, ?_, ?_⟩
  · show M3.get (M.next + 2) = _
    rw [hg _ (by omega) (by omega)]; exact hga
  · show M3.get (M.next + 1) = _
    rw [hg _ (by omega) (by omega)]; exact hgb
  · rw [hg 0 (by omega) (by omega), hget 0 (by omega)]; exact h.row.tab
  · obtain ⟨sz, cl, hr⟩ := h.ref.get
    exact ⟨sz, cl, by rw [hg p b4 b5, hget p l3]; exact hr⟩
  · rw [hg 1 (by omega) (by omega), hget 1 (by omega)]
  · show M.next + 2 < M3.next ∧ M.next + 1 < M3.next ∧ p < M3.next ∧ 2 ≤ M3.next
    rw [n3, n2, hnx]; omega
  · show 2 ≤ M.next + 2 ∧ 2 ≤ M.next + 1 ∧ 2 ≤ p ∧ p ≠ M.next + 2 ∧ p ≠ M.next + 1
    omega

/-- the switch -/
theorem play_sw (h : InvP M R s l xs cnt ws p bs) {w : Nat} (hw : w < l) (kd : Int) (hm : 70000 ≤ m) (ask : Int) (j70 j71 j73 j74 j79 j80 : AV) (k : AExit → Fr → AMem → Option (AV × AMem)) :
    SwOk m R.n s l c ask xs w kd k (runBlk Tryd.prog HK Tryd.f4 0 2 m (mkFr [(0, .int .i64 R.n), (1, .slice s l c), (2, .int .i64 ask), (6, .bool false), (7, .ptr (some (R.a, 0))), (8, .int .i64 0), (9, .slice (some (p, 0)) R.n pc), (10, .int .i64 w), (11, .bool true), (67, .int .i64 w), (68, .slice s l c), (69, .int .i64 l), (70, j70), (71, j71), (72, .int .i64 w), (73, j73), (74, j74), (77, .slice s l c), (78, .int .i64 w), (79, j79), (80, j80), (81, .int .i64 kd)]) M k) := by
  obtain ⟨g1, g2, g3, g4⟩ := h.sl.gets hw
  rw [play_switch]
  generalize hI : (xs.getD w (0, 0)).2 = i at *
  have hee : ∀ v : Int, (v == v) = true := fun v => by simp
  by_cases k01 : kd = 0 ∨ kd = 1
  · obtain ⟨M1, M2, cnt', ws', p', pc', bs', v, e1, hg, e2, inv⟩ := both_set (pc := pc) h i hm
    obtain ⟨_, g2', _, _⟩ := (h.sl.of hg).gets hw
    refine ⟨R, M2, cnt', ws', p', pc', bs', rfl, inv, ?_⟩
    rcases k01 with rfl | rfl
    · simp only [show ((0 : Int) == 0) = true from rfl, iT, dnat, dlt hw, Bool.and_self, nT, g1, bO, g2, Nat.zero_add, Int.toNat_natCast, g4, aI, e1, aT, aC, aL, aN, g2', e2, hee]
    · simp only [show ((1 : Int) == 0) = false from rfl, show ((1 : Int) == 1) = true from rfl, iT, iF, dnat, dlt hw, Bool.and_self, nT, g1, bO, g2, Nat.zero_add, Int.toNat_natCast, g4, aI, e1, aT, aC, aL, aN, g2', e2, hee]
  · have n0 : (kd == 0) = false := by simp; omega
    have n1 : (kd == 1) = false := by simp; omega
    by_cases k2 : kd = 2
    · subst k2
      obtain ⟨M1, M2, cnt', ws', p', pc', bs', v, e1, hg, e2, inv⟩ := both_clear (pc := pc) h i hm
      obtain ⟨_, g2', _, _⟩ := (h.sl.of hg).gets hw
      refine ⟨R, M2, cnt', ws', p', pc', bs', rfl, inv, ?_⟩
      simp only [n0, n1, show ((2 : Int) == 2) = true from rfl, iT, iF, dnat, dlt hw, Bool.and_self, nT, g1, bO, g2, Nat.zero_add, Int.toNat_natCast, g4, aI, e1, aT, aC, aL, aN, g2', e2, hee]
    · have n2 : (kd == 2) = false := by simp; omega
      by_cases k3 : kd = 3
      · subst k3
        obtain ⟨R', M1, M2, M3, v1, v2, hn, e1, hg, e2, e3, inv⟩ := fork_on h i hm
        obtain ⟨_, g2', _, _⟩ := (h.sl.of hg).gets hw
        refine ⟨R', M3, cnt, ws, p, pc, bs, hn, inv, ?_⟩
        simp only [n0, n1, n2, show ((3 : Int) == 3) = true from rfl, iT, iF, dnat, dlt hw, Bool.and_self, nT, g1, bO, Nat.zero_add, Int.toNat_natCast, g4, aI, aP, e1, g2', e2, e3]
      · have n3 : (kd == 3) = false := by simp; omega
        refine ⟨R, M, cnt, ws, p, pc, bs, rfl, h, ?_⟩
        simp only [n0, n1, n2, n3, iF]

theorem InvP.roots (h : InvP M R s l xs cnt ws p bs) : Roots mem0 M := by
  have hg : ∀ α B, mem0.get α = some B → α = 0 ∧ B = .ro (tabInts.map (AV.int .u8)) := by
    intro α B e
    unfold mem0 at e
    rw [AMem.get_new] at e
    by_cases q : α = 0
    · rw [if_pos q] at e; cases e; exact ⟨q, rfl⟩
    · rw [if_neg q] at e
      have : (Tri.nil : Tri ABlk).get α = none := Tri.get_nil α
      unfold AMem.get at e
      rw [this] at e; cases e
  refine ⟨by have := h.lt; show 1 ≤ M.next; omega, fun α B e => ?_, fun α B e => ?_⟩
  · obtain ⟨rfl, rfl⟩ := hg α B e; exact h.row.tab
  · obtain ⟨rfl, rfl⟩ := hg α B e
    exact ⟨Nat.zero_lt_one, _, rfl, by decide⟩

theorem play_last (h : InvP M R s l xs cnt ws p bs) (ask : Int) (w : Nat) (hm : 70000 ≤ m) : afterLoop Tryd.prog HK Tryd.f4 0 m (.exit 0) (frP R.n s l c ask R.a p pc w) M = some (.bool true, M) := by
  have ha := awake_run h.roots (m := m) (by omega)
  rw [frP, play_end]
  simp only [ha, bO, aB]

theorem play_loop (ask : Int) (hm : 70000 ≤ m) (n : Nat) : ∀ (d w mm : Nat) {M : AMem} {R : RowS} {cnt : Nat} {ws : List W64} {p : Nat} {pc : Option Nat} {bs : List Bool}, R.n = n → InvP M R s l xs cnt ws p bs → 60 - w = d → d + 1 ≤ mm → w ≤ l →
    ∃ M', runLoop Tryd.prog HK Tryd.f4 0 [0, 1, 2, 6, 7, 8, 9, 10] m mm (frP n s l c ask R.a p pc w) M (afterLoop Tryd.prog HK Tryd.f4 0 m) = some (.bool true, M') := by
  intro d
  induction d with
  | zero =>
    intro w mm M R cnt ws p pc bs hn h hd hmm hwl
    obtain ⟨mm, rfl⟩ : ∃ k, mm = k + 1 := ⟨mm - 1, by omega⟩
    subst hn
    refine ⟨M, ?_⟩
    rw [runLoop_succ]
    conv => lhs; rw [frP, play_body]
    have hd5 : decide ((w : Int) < 60) = false := by simp; omega
    have hl := play_last (c := c) (pc := pc) h ask w hm
    by_cases q : w < l
    · simp only [dlt q, hd5, tt, cond_true, iT, iF, onward_exit]; exact hl
    · have : decide ((w : Int) < (l : Int)) = false := by simp; omega
      simp only [this, ft, iF, onward_exit]; exact hl
  | succ d ih =>
    intro w mm M R cnt ws p pc bs hn h hd hmm hwl
    obtain ⟨mm, rfl⟩ : ∃ k, mm = k + 1 := ⟨mm - 1, by omega⟩
    subst hn
    by_cases q : w < l
    · obtain ⟨g1, g2, g3, g4⟩ := h.sl.gets q
      have hd5 : decide ((w : Int) < 60) = true := by simp; omega
      rw [runLoop_succ]
      conv => arg 1; ext M'; lhs; rw [frP, play_body]
      simp only [dlt q, hd5, tt, cond_true, iT, dnat, Bool.and_self, nT, g1, bO, g2, Nat.zero_add, Int.toNat_natCast, g3, aI]
      generalize hkd : (xs.getD w (0, 0)).1 = kd
      obtain ⟨R', M1, cnt', ws', p', pc', bs', hn', inv, e⟩ := play_sw (c := c) (pc := pc) h q kd hm ask (.bool true) (.bool true) (.bool true) (.bool true) (.ptr (some (1, 0 + w * 2))) (.ptr (some (1, 0 + w * 2 + 0))) (behindBlk Tryd.prog HK Tryd.f4 0 2 m [0, 1, 2, 6, 7, 8, 9, 10] (onward Tryd.prog HK Tryd.f4 0 [0, 1, 2, 6, 7, 8, 9, 10] m mm (afterLoop Tryd.prog HK Tryd.f4 0 m)))
      have hc := play_check (c := c) (pc := pc') inv ask (w := w) (by omega) kd hm (onward Tryd.prog HK Tryd.f4 0 [0, 1, 2, 6, 7, 8, 9, 10] m mm (afterLoop Tryd.prog HK Tryd.f4 0 m))
      rw [hn'] at hc
      obtain ⟨M', hM'⟩ := ih (w + 1) mm (pc := pc') hn' inv (by omega) (by omega) (by omega)
      refine ⟨M', ?_⟩
      have e' := e.trans (hc.trans ((onward_normal ..).trans hM'))
      simp only [g1, Nat.zero_add] at e'
      exact e'
    · refine ⟨M, ?_⟩
      rw [runLoop_succ]
      conv => lhs; rw [frP, play_body]
      have hl := play_last (c := c) (pc := pc) h ask w hm
      have : decide ((w : Int) < (l : Int)) = false := by simp; omega
      simp only [this, ft, iF, onward_exit]; exact hl

theorem rep_bools : ∀ n : Nat, repA [.bool false] n = (List.replicate n false).map AV.bool
  | 0 => rfl
  | n + 1 => by
    show [AV.bool false] ++ repA [.bool false] n = _
    rw [rep_bools n, List.replicate_succ]; rfl

/-- BitsPlay, at every number, acts and place -/
theorem play_run {M : AMem} (hm : 70001 ≤ m) (hs : ActIn M s l xs) (i ask : Int) (hr : Roots mem0 M) (ht : M.get 0 = some (.ro (tabInts.map (AV.int .u8)))) (hn : 2 ≤ M.next) :
    isT (call (m + 1) 4 [.int .i64 i, .slice s l c, .int .i64 ask] M) = true := by
  rw [call, acall_run Tryd.func4 (hk (by decide)), play_eq]
  by_cases hi : i < 1 ∨ 65536 < i
  · have h8 := new_out (M := M) (m := m) hi (by omega)
    have ha := awake_run hr (m := m) (by omega)
    simp only [h8, bO, aT, aC, aP, aI, aN, eN, show ((true : Bool) != false) = true from rfl, tt, iT, cond_true, show (((2 : Int) == 2) == true) = true from rfl, show ((2 : Int) == 2) = true from rfl]
    by_cases q : i < 1
    · rw [decide_eq_true q]
      simp only [tf, iF, iT, ha, bO, aB]; rfl
    · rw [decide_eq_false q, decide_eq_true (show i > 65536 by omega)]
      simp only [ff, iT, cond_false, ha, bO, aB]; rfl
  · obtain ⟨n, rfl⟩ : ∃ n : Nat, i = n := ⟨i.toNat, by omega⟩
    have h8 := new_in (M := M) (n := n) (m := m) (by omega) (by omega) (by omega)
    let R : RowS := ⟨M.next + 1, M.next, n, some ((n + 63) / 64), 0, 0, true, true, by omega, by omega, by omega⟩
    have hget : ∀ q, q < M.next → ((M.new (.cells ((List.replicate ((n + 63) / 64) 0#64).map wA) 0 true)).new (.cells [.int .i64 n, .int .i64 0, .slice (some (M.next, 0)) ((n + 63) / 64) (some ((n + 63) / 64))] 0 true)).get q = M.get q := fun q hq => by
      rw [AMem.get_new, AMem.get_new, AMem.next_new, if_neg (by omega), if_neg (by omega)]
    have hnx : ((M.new (.cells ((List.replicate ((n + 63) / 64) 0#64).map wA) 0 true)).new (.cells [.int .i64 n, .int .i64 0, .slice (some (M.next, 0)) ((n + 63) / 64) (some ((n + 63) / 64))] 0 true)).next = M.next + 2 := rfl
    have hrow : RowAt ((M.new (.cells ((List.replicate ((n + 63) / 64) 0#64).map wA) 0 true)).new (.cells [.int .i64 n, .int .i64 0, .slice (some (M.next, 0)) ((n + 63) / 64) (some ((n + 63) / 64))] 0 true)) R 0 (List.replicate ((n + 63) / 64) 0#64) := by
      refine ⟨?_, ?_, by simp [R], fun i _ => bitAt_rep _ _, ?_⟩
      · rw [AMem.get_new, AMem.next_new, if_pos (show R.a = M.next + 1 from rfl)]
        simp [R]
      · rw [AMem.get_new, AMem.get_new, AMem.next_new, if_neg (show ¬ R.b = _ by show ¬ M.next = M.next + 1; omega), if_pos (show R.b = M.next from rfl)]
      · rw [hget 0 (by omega)]; exact ht
    generalize hM1 : (M.new (.cells ((List.replicate ((n + 63) / 64) 0#64).map wA) 0 true)).new (.cells [.int .i64 n, .int .i64 0, .slice (some (M.next, 0)) ((n + 63) / 64) (some ((n + 63) / 64))] 0 true) = M1 at *
    have e1 : decide ((n : Int) < 1) = false := by simp; omega
    have e2 : decide ((n : Int) > 65536) = false := by simp; omega
    have hroots : Roots mem0 M1 := ⟨by show 1 ≤ M1.next; omega, fun α B e => by
      have h1 := (hr.ro α B e).1
      have h2 : mem0.next = 1 := rfl
      rw [hget α (by omega)]; exact hr.sub α B e, hr.ro⟩
    simp only [h8, bO, aT, aC, aP, aI, aN, e1, e2, ff, iT, cond_false, iF, show ((0 : Int) != 0) = false from rfl, eS, show ((false : Bool) != false) = false from rfl]
    by_cases q : 300 < n
    · have e3 : decide ((n : Int) > 300) = true := by simp; omega
      have h5 := len_run hrow (m := m) (by omega)
      have h6 := count_run hrow (m := m) (by omega)
      have ha := awake_run hroots (m := m) (by omega)
      have hnn : ((R.n : Int) == (n : Int)) = true := by show ((n : Int) == (n : Int)) = true; simp
      have h5' : call m 15 [.ptr (some (M.next + 1, 0))] M1 = some (.int .i64 R.n, M1) := h5
      have h6' : call m 14 [.ptr (some (M.next + 1, 0))] M1 = some (.int .i64 ((0 : Nat) : Int), M1) := h6
      simp only [e3, iT, h5', bO, aI, hnn, tt, h6', cond_true, show ((((0 : Nat) : Int)) == 0) = true from rfl, ha, aB]; rfl
    · have e3 : decide ((n : Int) > 300) = false := by simp; omega
      have h9 := rnew_run (M := M1) (n := n) (by omega) (m := m) (by omega)
      simp only [e3, iF, h9, bO, aL]
      have hget2 : ∀ q, q < M1.next → (M1.new (.cells (repA [.bool false] n) 0 true)).get q = M1.get q := fun q hq => by rw [AMem.get_new, if_neg (by omega)]
      have inv : InvP (M1.new (.cells (repA [.bool false] n) 0 true)) R s l xs 0 (List.replicate ((n + 63) / 64) 0#64) M1.next (List.replicate n false) := by
        refine ⟨hrow.of (hget2 0 (by omega)) (hget2 _ (by show M.next + 1 < M1.next; omega)) (hget2 _ (by show M.next < M1.next; omega)), ⟨⟨0, true, ?_⟩, List.length_replicate⟩, hs.of ?_, fun j _ => ?_, ?_, ?_, ?_⟩
        · rw [AMem.get_new, if_pos rfl, rep_bools]
        · rw [hget2 1 (by omega), hget 1 (by omega)]
        · rw [bitAt_rep, List.getD_eq_getElem?_getD, List.getElem?_replicate]; split <;> rfl
        · exact (cB_gap (a := 0) (b := R.n) (by omega) (fun j _ _ => bitAt_rep _ _)).symm
        · show M.next + 1 < M1.next + 1 ∧ M.next < M1.next + 1 ∧ M1.next < M1.next + 1 ∧ 2 ≤ M1.next + 1
          omega
        · show 2 ≤ M.next + 1 ∧ 2 ≤ M.next ∧ 2 ≤ M1.next ∧ M1.next ≠ M.next + 1 ∧ M1.next ≠ M.next
          omega
      obtain ⟨M', hM'⟩ := play_loop (c := c) (m := m) ask (by omega) n 60 0 m (pc := some n) rfl inv rfl (by omega) (by omega)
      exact (congrArg isT hM').trans rfl
end
end Go.Proofs.YtiecjbgefkelfaaDoor
