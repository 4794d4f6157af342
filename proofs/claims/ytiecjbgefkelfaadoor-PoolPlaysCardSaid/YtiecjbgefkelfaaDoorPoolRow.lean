/-
  What the functions of pool do, told of the abstract memory.
-/
import Derived.Test.YtiecjbgefkelfaaDoorBitsRef
import Derived.Test.YtiecjbgefkelfaaDoorPoolEq
namespace Go.Proofs.YtiecjbgefkelfaaDoor
open Go.Ab
set_option linter.unusedVariables false
set_option linter.unusedSimpArgs false

theorem u54 : Tryd.prog.underlying 54 = some (.slice 52) := by kernel_rfl

/-- a slice that grew of nothing -/
structure Grown (M : AMem) (u : Option (Nat × Nat)) (l : Nat) (c : Option Nat) (xs : List AV) : Prop where
  len : xs.length = l
  is : (u = none ∧ l = 0 ∧ c = some 0) ∨ (∃ b cl, u = some (b, 0) ∧ c = none ∧ 0 < l ∧ b < M.next ∧ M.get b = some (.cells xs 1 cl))

/-- 'append(xs, x)' on such a slice, at one cell an element -/
theorem append_one {st e : TypeId} {ie : TypeInfo} {z : AV} (hu : Tryd.prog.underlying st = some (.slice e)) (hi : Tryd.prog.info? e = some ie) (hz : zeroA Tryd.prog e = some z) (h1 : z.cells.length = 1) (h2 : ie.size = 1) (h3 : ie.bytes ≤ 8)
    {M : AMem} {u : Option (Nat × Nat)} {l : Nat} {c : Option Nat} {xs : List AV} {v : AV} (h : Grown M u l c xs) (hl : l ≤ 65536) (hv : flatA v = true) :
    ∃ M', appendA Tryd.prog (M.new (.cells [v] 0 true)) st st u l c (.slice (some (M.next, 0)) 1 (some 1)) = some ((some (M.next + 1, 0), l + 1, none), M') ∧
      Grown M' (some (M.next + 1, 0)) (l + 1) none (xs ++ [v]) ∧ M'.next = M.next + 2 ∧ ∀ q, q < M.next → (∀ b, u = some (b, 0) → q ≠ b) → M'.get q = M.get q := by
  have hb : (l + 1) * ie.bytes ≤ roomA ∧ l + 1 ≤ roomA := by
    have : (l + 1) * ie.bytes ≤ 65537 * 8 := Nat.mul_le_mul (by omega) h3
    unfold roomA; omega
  have hrow : (M.new (.cells [v] 0 true)).row M.next = some [v] := row_cells (by rw [AMem.get_new, if_pos rfl])
  have hsrc : srcCells (M.new (.cells [v] 0 true)) 1 1 (.slice (some (M.next, 0)) 1 (some 1)) = some [v] := by
    unfold srcCells
    simp only [Nat.le_refl, if_true, Nat.one_ne_zero, if_false]
    unfold cellsFrom
    rw [hrow]
    simp
  have key : appendA Tryd.prog (M.new (.cells [v] 0 true)) st st u l c (.slice (some (M.next, 0)) 1 (some 1)) = growA (M.new (.cells [v] 0 true)) 1 u l c 1 [v] := by
    unfold appendA
    simp only [hu, hi, hz, h1, h2, ne_eq, not_true_eq_false, Nat.one_ne_zero, or_self, if_false, srcLen, Option.map_some, hsrc, hb, and_self, if_true]
  have hlen := h.len
  rcases h.is with ⟨rfl, rfl, rfl⟩ | ⟨b, cl, rfl, rfl, hpos, hbn, hg⟩
  · have hx : xs = [] := List.eq_nil_of_length_eq_zero hlen
    subst hx
    refine ⟨(M.new (.cells [v] 0 true)).new (.cells [v] 1 true), ?_, ⟨rfl, .inr ⟨M.next + 1, true, rfl, rfl, Nat.zero_lt_one, ?_, ?_⟩⟩, rfl, fun q hq _ => ?_⟩
    · rw [key]; unfold growA srcCells
      simp only [Nat.one_ne_zero, if_false, Nat.zero_add, show ¬ 1 ≤ 0 by omega, if_true, List.nil_append, AMem.next_new]
    · rw [AMem.next_new, AMem.next_new]; omega
    · rw [AMem.get_new, AMem.next_new, if_pos rfl]; rfl
    · rw [AMem.get_new, AMem.get_new, AMem.next_new, if_neg (by omega), if_neg (by omega)]
  · have hg' : (M.new (.cells [v] 0 true)).get b = some (.cells xs 1 cl) := by rw [AMem.get_new, if_neg (by omega)]; exact hg
    have hold : srcCells (M.new (.cells [v] 0 true)) 1 l (.slice (some (b, 0)) l none) = some xs := by
      unfold srcCells
      simp only [Nat.le_refl, if_true, show ¬ l = 0 by omega, if_false]
      unfold cellsFrom
      rw [row_cells hg']
      simp only [Nat.mul_one, Nat.zero_add, hlen, Nat.le_refl, if_true, List.drop_zero, List.take_of_length_le (Nat.le_of_eq hlen)]
    refine ⟨((M.new (.cells [v] 0 true)).kill b).new (.cells (xs ++ [v]) 1 cl), ?_, ⟨by rw [List.length_append, hlen]; rfl, .inr ⟨M.next + 1, cl, rfl, rfl, by omega, ?_, ?_⟩⟩, rfl, fun q hq hne => ?_⟩
    · rw [key]; unfold growA
      simp only [Nat.one_ne_zero, if_false, hg', hpos, List.all_cons, List.all_nil, hv, Bool.and_self, and_self, if_true, hold, AMem.next_new]
    · rw [AMem.next_new, AMem.next_kill, AMem.next_new]; omega
    · rw [AMem.get_new, AMem.next_kill, AMem.next_new, if_pos rfl]
    · rw [AMem.get_new, AMem.next_kill, AMem.next_new, if_neg (by omega), AMem.get_kill, if_neg (hne b rfl), AMem.get_new, if_neg (by omega)]

/-! ### places from one on -/
def placesP (p : Nat → Bool) (n f : Nat) : List Nat := (List.range n).filter fun j => decide (f ≤ j) && p j

theorem firstP_head (p : Nat → Bool) (n f : Nat) : firstP p n f = (placesP p n f).head? := by
  unfold firstP placesP
  rw [List.head?_filter]

theorem placesP_tail {p : Nat → Bool} {n f i : Nat} {T : List Nat} (h : placesP p n f = i :: T) : placesP p n (i + 1) = T := by
  have hp : (placesP p n f).Pairwise (· < ·) := List.Pairwise.filter _ List.pairwise_lt_range
  have hi : i ∈ placesP p n f := by rw [h]; exact List.mem_cons_self ..
  have hfi : f ≤ i := by unfold placesP at hi; simp at hi; omega
  have e : placesP p n (i + 1) = (placesP p n f).filter fun j => decide (i + 1 ≤ j) := by
    unfold placesP
    rw [List.filter_filter]
    apply List.filter_congr
    intro j _
    by_cases q : i + 1 ≤ j
    · simp [q, show f ≤ j by omega]
    · simp [q]
  rw [h] at hp
  obtain ⟨h1, _⟩ := List.pairwise_cons.1 hp
  rw [e, h, List.filter_cons, if_neg (by simp)]
  exact List.filter_eq_self.2 fun j hj => by have := h1 j hj; exact decide_eq_true (by omega)

theorem firstP_from {p q : Nat → Bool} {n f : Nat} (h : ∀ j, f ≤ j → j < n → p j = q j) : firstP p n f = firstP q n f := by
  cases e : firstP q n f with
  | some i =>
    obtain ⟨h1, ⟨h2, h3⟩, h4⟩ := firstP_some.1 e
    rw [firstP_some]
    exact ⟨h1, ⟨h2, by rw [h i h2 h1]; exact h3⟩, fun j hj hf => by rw [h j hf (by omega)]; exact h4 j hj hf⟩
  | none =>
    rw [firstP_none] at e ⊢
    exact fun j hj hf => by rw [h j hf hj]; exact e j hj hf

theorem cB_places (p : Nat → Bool) : ∀ n, (placesP p n 0).length = cB p n
  | 0 => rfl
  | n + 1 => by
    have := cB_places p n
    unfold placesP at this ⊢
    rw [List.range_succ, List.filter_append, List.length_append, this]
    show _ = cB p n + (if p n = true then 1 else 0)
    cases h : p n <;> simp [h]

/-! ### a pool -/
structure PoolAt (M : AMem) (a : Nat) (R : RowS) (cnt : Nat) (ws : List W64) : Prop where
  row : RowAt M R cnt ws
  get : ∃ s l, M.get a = some (.cells [.ptr (some (R.a, 0))] s l)
  num : cnt = cB (bitAt ws) R.n
  lt : a < M.next ∧ R.a < M.next ∧ R.b < M.next
  big : 2 ≤ a ∧ 2 ≤ R.a ∧ 2 ≤ R.b ∧ a ≠ R.a ∧ a ≠ R.b

section
variable {M : AMem} {a : Nat} {R : RowS} {cnt : Nat} {ws : List W64} {m : Nat}

theorem PoolAt.cell (h : PoolAt M a R cnt ws) : M.row a = some [.ptr (some (R.a, 0))] := by obtain ⟨s, l, h⟩ := h.get; exact row_cells h
theorem PoolAt.le (h : PoolAt M a R cnt ws) : cnt ≤ R.n := by rw [h.num]; exact cB_le _ _

theorem PoolAt.of {M' : AMem} (h : PoolAt M a R cnt ws) (hn : M.next ≤ M'.next) (h0 : M'.get 0 = M.get 0) (ha : M'.get a = M.get a) (h1 : M'.get R.a = M.get R.a) (h2 : M'.get R.b = M.get R.b) : PoolAt M' a R cnt ws :=
  ⟨h.row.of h0 h1 h2, by rw [ha]; exact h.get, h.num, ⟨by have := h.lt; omega, by have := h.lt; omega, by have := h.lt; omega⟩, h.big⟩

theorem pnone_run (h : PoolAt M a R cnt ws) (hm : 1 ≤ m) : call m 46 [.ptr (some (a, 0))] M = some (.bool false, M) := by
  obtain ⟨k, rfl⟩ : ∃ k, m = k + 1 := ⟨m - 1, by omega⟩
  rw [call, acall_run Tryd.func46 (hk (by decide)), pnone_eq]
  simp only [h.cell, bO, List.getElem?_cons_zero, aP, eS]; rfl

theorem held_run (h : PoolAt M a R cnt ws) (hm : 3 ≤ m) : call m 28 [.ptr (some (a, 0))] M = some (.int .i64 cnt, M) := by
  obtain ⟨k, rfl⟩ : ∃ k, m = k + 1 := ⟨m - 1, by omega⟩
  have h1 := pnone_run h (m := k) (by omega)
  have h2 := count_run h.row (m := k) (by omega)
  rw [call, acall_run Tryd.func28 (hk (by decide)), held_eq]
  simp only [h1, bO, aB, iF, h.cell, List.getElem?_cons_zero, aP, h2, aI]

theorem pfree_run (h : PoolAt M a R cnt ws) (hm : 3 ≤ m) : call m 29 [.ptr (some (a, 0))] M = some (.int .i64 ((R.n - cnt : Nat) : Int), M) := by
  obtain ⟨k, rfl⟩ : ∃ k, m = k + 1 := ⟨m - 1, by omega⟩
  have h1 := pnone_run h (m := k) (by omega)
  have h2 := count_run h.row (m := k) (by omega)
  have h3 := len_run h.row (m := k) (by omega)
  have hle := R.le
  have hc := h.le
  have hw : IntKind.i64.wrap ((R.n : Int) - (cnt : Int)) = ((R.n - cnt : Nat) : Int) := by rw [wrap_i64 (by omega) (by omega)]; omega
  rw [call, acall_run Tryd.func29 (hk (by decide)), pfree_eq]
  simp only [h1, bO, aB, iF, h.cell, List.getElem?_cons_zero, aP, h2, h3, aI, beqA_ptr, beqA_int, nT, hw]

theorem wrap_u32_i64 {i : Nat} (h : i < 4294967296) : IntKind.i64.wrap (i : Int) = (i : Int) := wrap_i64 (by omega) (by omega)

theorem phas_run (h : PoolAt M a R cnt ws) {i : Nat} (hi : i < 4294967296) (hm : 5 ≤ m) : call m 40 [.ptr (some (a, 0)), .int .u32 i] M = some (.bool (decide (i < R.n) && bitAt ws i), M) := by
  obtain ⟨k, rfl⟩ : ∃ k, m = k + 1 := ⟨m - 1, by omega⟩
  have h1 := pnone_run h (m := k) (by omega)
  rw [call, acall_run Tryd.func40 (hk (by decide)), phas_eq]
  by_cases q : i < R.n
  · have h2 := has_in h.row q (m := k) (by omega)
    simp only [h1, bO, aB, Bool.not_false, tt, iT, h.cell, List.getElem?_cons_zero, aP, wrap_u32_i64 hi, h2, cond_true, decide_eq_true q, Bool.true_and]
  · have h2 := has_out h.row (i := (i : Int)) (by omega) (m := k) (by omega)
    simp only [h1, bO, aB, Bool.not_false, tt, iT, h.cell, List.getElem?_cons_zero, aP, wrap_u32_i64 hi, h2, cond_true, decide_eq_false q, Bool.false_and]

theorem mark_run (h : PoolAt M a R cnt ws) {i : Nat} (hi : i < 4294967296) (hm : 5 ≤ m) : call m 35 [.ptr (some (a, 0)), .int .u32 i] M = bindO (call (m - 1) 10 [.ptr (some (R.a, 0)), .int .i64 i] M) fun r => Ab.asInt .i64 r.1 fun n => some (.int .i64 n, r.2) := by
  obtain ⟨k, rfl⟩ : ∃ k, m = k + 1 := ⟨m - 1, by omega⟩
  have h1 := pnone_run h (m := k) (by omega)
  rw [call, acall_run Tryd.func35 (hk (by decide)), mark_eq]
  simp only [h1, bO, aB, iF, h.cell, List.getElem?_cons_zero, aP, wrap_u32_i64 hi, Nat.add_sub_cancel]

theorem give_run (h : PoolAt M a R cnt ws) {i : Nat} (hi : i < 4294967296) (hm : 5 ≤ m) : call m 27 [.ptr (some (a, 0)), .int .u32 i] M = if i = 0 then some (.int .i64 2, M) else bindO (call (m - 1) 19 [.ptr (some (R.a, 0)), .int .i64 i] M) fun r => Ab.asInt .i64 r.1 fun n => some (.int .i64 n, r.2) := by
  obtain ⟨k, rfl⟩ : ∃ k, m = k + 1 := ⟨m - 1, by omega⟩
  have h1 := pnone_run h (m := k) (by omega)
  rw [call, acall_run Tryd.func27 (hk (by decide)), give_eq]
  by_cases q : i = 0
  · subst q
    simp only [h1, bO, aB, iF, if_true]; rfl
  · have e : ((i : Int) == 0) = false := by simp; omega
    simp only [h1, bO, aB, iF, e, h.cell, List.getElem?_cons_zero, aP, wrap_u32_i64 hi, Nat.add_sub_cancel, if_neg q]

/-- Set of a free place -/
theorem pset (h : PoolAt M a R cnt ws) {j : Nat} (hj : j < R.n) (hb : bitAt ws j = false) (hm : 4 ≤ m) : ∃ (ws' : List W64) (M' : AMem), call m 10 [.ptr (some (R.a, 0)), .int .i64 j] M = some (.int .i64 0, M') ∧ PoolAt M' a R (cnt + 1) ws' ∧
    (∀ i, bitAt ws' i = (decide (i = j) || bitAt ws i)) ∧ M'.next = M.next ∧ ∀ q, q ≠ R.a → q ≠ R.b → M'.get q = M.get q := by
  obtain ⟨b1, b2, b3, b4, b5⟩ := h.big
  have e2 := set_in h.row hj (m := m) hm h.le
  rw [hb, if_neg (by simp)] at e2
  have hd := h.row.div_lt hj
  have hbit := fun i => bitAt_or hd i
  have hlen : (ws.set (j / 64) (ws.getD (j / 64) 0 ||| 1#64 <<< (j % 64))).length = ws.length := List.length_set
  generalize ws.set (j / 64) (ws.getD (j / 64) 0 ||| 1#64 <<< (j % 64)) = ws' at *
  have hbit' : ∀ i, bitAt ws' i = (decide (i = j) || bitAt ws i) := hbit
  have hcast : ((cnt : Int) + 1) = ((cnt + 1 : Nat) : Int) := rfl
  rw [hcast] at e2
  have hf : ∀ q, q ≠ R.a → q ≠ R.b → (R.put M ((cnt + 1 : Nat) : Int) ws').get q = M.get q := fun q h1 h2 => by
    unfold RowS.put; rw [AMem.get_set, if_neg h1, AMem.get_set, if_neg h2]
  refine ⟨ws', _, e2, ⟨RowAt.put h.row hlen (fun i hi => by rw [hbit', h.row.top i hi]; simp; omega) (by omega) (by omega), by rw [hf a b4 b5]; exact h.get, ?_, h.lt, h.big⟩, hbit', rfl, hf⟩
  rw [h.num, cB_set hb (show bitAt ws' j = true by rw [hbit']; simp) (fun i hi => by rw [hbit']; simp [hi]) hj]

/-- Clear of a taken place -/
theorem pclear (h : PoolAt M a R cnt ws) {j : Nat} (hj : j < R.n) (hb : bitAt ws j = true) (hm : 4 ≤ m) : ∃ (cnt' : Nat) (ws' : List W64) (M' : AMem), cnt = cnt' + 1 ∧ call m 19 [.ptr (some (R.a, 0)), .int .i64 j] M = some (.int .i64 0, M') ∧ PoolAt M' a R cnt' ws' ∧
    (∀ i, bitAt ws' i = (!decide (i = j) && bitAt ws i)) ∧ M'.next = M.next ∧ ∀ q, q ≠ R.a → q ≠ R.b → M'.get q = M.get q := by
  obtain ⟨b1, b2, b3, b4, b5⟩ := h.big
  have e2 := clear_in h.row hj (m := m) hm h.le
  rw [hb, if_pos rfl] at e2
  have hd := h.row.div_lt hj
  have hbit := fun i => bitAt_andNot hd i
  have hlen : (ws.set (j / 64) (ws.getD (j / 64) 0 &&& ~~~ (1#64 <<< (j % 64)))).length = ws.length := List.length_set
  generalize ws.set (j / 64) (ws.getD (j / 64) 0 &&& ~~~ (1#64 <<< (j % 64))) = ws' at *
  have hbit' : ∀ i, bitAt ws' i = (!decide (i = j) && bitAt ws i) := hbit
  have hone : cB (bitAt ws) R.n = cB (bitAt ws') R.n + 1 := cB_set (show bitAt ws' j = false by rw [hbit']; simp) hb (fun i hi => by rw [hbit']; simp [hi]) hj
  have hcast : ((cnt : Int) - 1) = ((cB (bitAt ws') R.n : Nat) : Int) := by rw [h.num, hone]; omega
  rw [hcast] at e2
  have hf : ∀ q, q ≠ R.a → q ≠ R.b → (R.put M ((cB (bitAt ws') R.n : Nat) : Int) ws').get q = M.get q := fun q h1 h2 => by
    unfold RowS.put; rw [AMem.get_set, if_neg h1, AMem.get_set, if_neg h2]
  exact ⟨cB (bitAt ws') R.n, ws', _, by rw [h.num, hone], e2, ⟨RowAt.put h.row hlen (fun i hi => by rw [hbit', h.row.top i hi]; simp) (by omega) (by omega), by rw [hf a b4 b5]; exact h.get, rfl, h.lt, h.big⟩, hbit', rfl, hf⟩

/-! ### Grab -/
abbrev uA (j : Nat) : AV := .int .u32 (j : Int)

abbrev grabFr (a : Nat) (k : Nat) (u : Option (Nat × Nat)) (l : Nat) (c : Option Nat) (at0 t : Nat) : Fr :=
  mkFr [(0, .ptr (some (a, 0))), (1, .int .i64 k), (4, .slice none 0 (some 0)), (5, .int .i64 0), (6, .slice u l c), (7, .int .i64 at0), (21, .int .i64 k), (22, .int .i64 t)]

theorem u32_wrap {j : Nat} (h : j < 4294967296) : IntKind.u32.wrap (j : Int) = (j : Int) := by
  unfold IntKind.wrap
  simp only [IntKind.signed, IntKind.bits, Bool.false_and, Bool.false_eq_true, if_false]
  omega

/-- the rounds of Grab: 'b0' is where its own blocks begin -/
theorem grab_loop (k b0 : Nat) (hm : 1100 ≤ m) : ∀ (d t mm : Nat) {M : AMem} {cnt : Nat} {ws : List W64} {u : Option (Nat × Nat)} {c : Option Nat} {at0 : Nat} {got : List Nat}, PoolAt M a R cnt ws → k - t = d → t ≤ k → d + 1 ≤ mm → k ≤ 65536 →
    Grown M u t c (got.map uA) → (∀ b, u = some (b, 0) → b0 ≤ b) → b0 ≤ M.next → a < b0 → R.a < b0 → R.b < b0 → 2 ≤ b0 → d ≤ (placesP (fun j => !bitAt ws j) R.n at0).length →
    ∃ (M' : AMem) (cnt' : Nat) (ws' : List W64) (u' : Option (Nat × Nat)) (c' : Option Nat), runLoop Tryd.prog HK Tryd.f26 0 [0, 1, 4, 5, 6, 7, 21, 22] m mm (grabFr a k u t c at0 t) M (afterLoop Tryd.prog HK Tryd.f26 0 m) = some (.tup [.slice u' k c', .int .i64 0], M') ∧
      PoolAt M' a R cnt' ws' ∧ cnt' = cnt + d ∧ Grown M' u' k c' ((got ++ (placesP (fun j => !bitAt ws j) R.n at0).take d).map uA) ∧ (∀ i, bitAt ws' i = (decide (i ∈ (placesP (fun j => !bitAt ws j) R.n at0).take d) || bitAt ws i)) ∧
      (∀ q, q < b0 → q ≠ R.a → q ≠ R.b → M'.get q = M.get q) ∧ b0 ≤ M'.next := by
  intro d
  induction d with
  | zero =>
    intro t mm M cnt ws u c at0 got h hd ht hmm hk hg hu hb0 ha hra hrb h2 hlen
    obtain ⟨mm, rfl⟩ : ∃ k, mm = k + 1 := ⟨mm - 1, by omega⟩
    obtain rfl : t = k := by omega
    refine ⟨M, cnt, ws, u, c, ?_, h, rfl, by simpa using hg, fun i => by simp, fun _ _ _ _ => rfl, hb0⟩
    rw [runLoop_succ, grabFr, grab_body (i := 0)]
    have : decide ((t : Int) < (t : Int)) = false := by simp
    rw [this, iF, onward_exit, grab_end]
  | succ d ih =>
    intro t mm M cnt ws u c at0 got h hd ht hmm hk hg hu hb0 ha hra hrb h2 hlen
    obtain ⟨mm, rfl⟩ : ∃ k, mm = k + 1 := ⟨mm - 1, by omega⟩
    have hle := R.le
    cases hP : placesP (fun j => !bitAt ws j) R.n at0 with
    | nil => rw [hP] at hlen; simp at hlen
    | cons x T =>
      rw [hP] at hlen
      have hf := free_run h.row (at0 : Int) (m := m) (by omega)
      rw [Int.toNat_natCast, firstP_head, hP, List.head?_cons] at hf
      have hx : firstP (fun j => !bitAt ws j) R.n at0 = some x := by rw [firstP_head, hP]; rfl
      obtain ⟨x1, ⟨x2, x3⟩, x4⟩ := firstP_some.1 hx
      have hxb : bitAt ws x = false := by simpa using x3
      obtain ⟨ws1, M1, e1, p1, hb1, n1, f1⟩ := pset h x1 hxb (m := m) (by omega)
      have hg1 : Grown M1 u t c (got.map uA) := ⟨hg.len, by
        rcases hg.is with hh | ⟨b, cl, e1, e2, e3, e4, e5⟩
        · exact .inl hh
        · have := hu b e1
          exact .inr ⟨b, cl, e1, e2, e3, by omega, by rw [f1 b (by omega) (by omega)]; exact e5⟩⟩
      obtain ⟨M2, e2, hg2, n2, f2⟩ := append_one (e := 52) u54 (show Tryd.prog.info? 52 = some _ from rfl) (show zeroA Tryd.prog 52 = some (.int .u32 0) by kernel_rfl) rfl (by kernel_rfl) (by decide) hg1 (by omega) (v := uA x) rfl
      have hub : ∀ q, q < b0 → ∀ b, u = some (b, 0) → q ≠ b := fun q hq b hb => by have := hu b hb; omega
      have p2 : PoolAt M2 a R (cnt + 1) ws1 := p1.of (by omega) (f2 0 (by omega) (hub 0 (by omega))) (f2 a (by omega) (hub a ha)) (f2 R.a (by omega) (hub _ hra)) (f2 R.b (by omega) (hub _ hrb))
      have hT : placesP (fun j => !bitAt ws1 j) R.n (x + 1) = T := by
        have e : placesP (fun j => !bitAt ws1 j) R.n (x + 1) = placesP (fun j => !bitAt ws j) R.n (x + 1) := by
          unfold placesP
          apply List.filter_congr
          intro j _
          by_cases q : x + 1 ≤ j
          · simp [q, hb1, show ¬ j = x by omega]
          · simp [q]
        rw [e]; exact placesP_tail hP
      have hmap : got.map uA ++ [uA x] = (got ++ [x]).map uA := by simp
      rw [hmap] at hg2
      obtain ⟨M', cnt', ws', u', c', er, hp', hc', hg', hb', hf', hn'⟩ := ih (t + 1) mm (at0 := x + 1) (got := got ++ [x]) p2 (by omega) (by omega) (by omega) hk hg2 (fun b hb => by cases hb; omega) (by omega) ha hra hrb h2 (by rw [hT]; simp at hlen; omega)
      rw [hT] at hg' hb'
      refine ⟨M', cnt', ws', u', c', ?_, hp', by omega, ?_, fun i => ?_, fun q hq h1 h2 => ?_, hn'⟩
      · have hw1 : IntKind.i64.wrap ((x : Int) + 1) = ((x + 1 : Nat) : Int) := by rw [wrap_i64 (by omega) (by omega)]; rfl
        have ht1 : IntKind.i64.wrap ((t : Int) + 1) = ((t + 1 : Nat) : Int) := by rw [wrap_i64 (by omega) (by omega)]; rfl
        have hlt : decide ((t : Int) < (k : Int)) = true := by simp; omega
        rw [runLoop_succ, grabFr, grab_body (i := 0)]
        simp only [hlt, iT, h.cell, bO, List.getElem?_cons_zero, aP, hf, placeA, aT, aC, aI, aB, aN, e1, p1.cell, u32_wrap (show x < 4294967296 by omega), e2, hw1, ht1, onward_normal]
        exact er
      · rw [List.take_succ_cons, show got ++ x :: T.take d = (got ++ [x]) ++ T.take d by simp]
        exact hg'
      · rw [hb', hb1, List.take_succ_cons]
        by_cases q : i = x
        · subst q; simp
        · simp [q]
      · rw [hf' q hq h1 h2, f2 q (by omega) (hub q hq), f1 q h1 h2]

theorem grab_neg (h : PoolAt M a R cnt ws) {k : Int} (hk0 : k < 0) (hm : 5 ≤ m) : call m 26 [.ptr (some (a, 0)), .int .i64 k] M = some (.tup [.slice none 0 (some 0), .int .i64 2], M) := by
  obtain ⟨f, rfl⟩ : ∃ k, m = k + 1 := ⟨m - 1, by omega⟩
  have h1 := pnone_run h (m := f) (by omega)
  rw [call, acall_run Tryd.func26 (hk (by decide)), grab_eq]
  simp only [h1, bO, aB, iF, decide_eq_true hk0, iT]

theorem grab_full (h : PoolAt M a R cnt ws) {k : Int} (hk0 : ((R.n - cnt : Nat) : Int) < k) (hm : 5 ≤ m) : call m 26 [.ptr (some (a, 0)), .int .i64 k] M = some (.tup [.slice none 0 (some 0), .int .i64 11], M) := by
  obtain ⟨f, rfl⟩ : ∃ k, m = k + 1 := ⟨m - 1, by omega⟩
  have h1 := pnone_run h (m := f) (by omega)
  have h2 := pfree_run h (m := f) (by omega)
  rw [call, acall_run Tryd.func26 (hk (by decide)), grab_eq]
  simp only [h1, bO, aB, iF, decide_eq_false (show ¬ k < 0 by omega), h2, aI, decide_eq_true (show k > ((R.n - cnt : Nat) : Int) by omega), iT]

/-- the first k free places are given out -/
theorem grab_ok (h : PoolAt M a R cnt ws) {k : Nat} (hk0 : k ≤ R.n - cnt) (hm : 70000 ≤ m) :
    ∃ (M' : AMem) (ws' : List W64) (u' : Option (Nat × Nat)) (c' : Option Nat), call m 26 [.ptr (some (a, 0)), .int .i64 k] M = some (.tup [.slice u' k c', .int .i64 0], M') ∧
      PoolAt M' a R (cnt + k) ws' ∧ Grown M' u' k c' (((placesP (fun j => !bitAt ws j) R.n 0).take k).map uA) ∧ (∀ i, bitAt ws' i = (decide (i ∈ (placesP (fun j => !bitAt ws j) R.n 0).take k) || bitAt ws i)) ∧
      (∀ q, q < M.next → q ≠ R.a → q ≠ R.b → M'.get q = M.get q) ∧ M.next ≤ M'.next := by
  obtain ⟨f, rfl⟩ : ∃ k, m = k + 1 := ⟨m - 1, by omega⟩
  have hle := R.le
  have h1 := pnone_run h (m := f) (by omega)
  have h2 := pfree_run h (m := f) (by omega)
  have hlen : (placesP (fun j => !bitAt ws j) R.n 0).length = R.n - cnt := by
    rw [cB_places, h.num]; have := cB_not (bitAt ws) R.n; omega
  obtain ⟨l1, l2, l3⟩ := h.lt
  obtain ⟨b1, b2, b3, b4, b5⟩ := h.big
  obtain ⟨M', cnt', ws', u', c', er, hp, hc, hg, hb, hf, hn⟩ := grab_loop k M.next (m := f) (by omega) k 0 f (at0 := 0) (got := []) h rfl (by omega) (by omega) (by omega) ⟨rfl, .inl ⟨rfl, rfl, rfl⟩⟩ (fun b hb => by cases hb) (Nat.le_refl _) l1 l2 l3 (by omega) (by omega)
  subst hc
  refine ⟨M', ws', u', c', ?_, hp, by simpa using hg, hb, hf, hn⟩
  rw [call, acall_run Tryd.func26 (hk (by decide)), grab_eq]
  simp only [h1, bO, aB, iF, decide_eq_false (show ¬ (k : Int) < 0 by omega), h2, aI, decide_eq_false (show ¬ (k : Int) > ((R.n - cnt : Nat) : Int) by omega)]
  exact er

theorem take_full (h : PoolAt M a R cnt ws) (hk0 : R.n = cnt) (hm : 6 ≤ m) : call m 25 [.ptr (some (a, 0))] M = some (.tup [.int .u32 0, .int .i64 11], M) := by
  obtain ⟨f, rfl⟩ : ∃ k, m = k + 1 := ⟨m - 1, by omega⟩
  have h1 := grab_full h (k := 1) (by omega) (m := f) (by omega)
  rw [call, acall_run Tryd.func25 (hk (by decide)), take_eq]
  simp only [h1, bO, aT, aC, aL, aI, aN, show ((11 : Int) != 0) = true from rfl, iT]

theorem take_ok (h : PoolAt M a R cnt ws) (hk0 : cnt < R.n) (hm : 70001 ≤ m) :
    ∃ (M' : AMem) (ws' : List W64) (x : Nat), call m 25 [.ptr (some (a, 0))] M = some (.tup [.int .u32 x, .int .i64 0], M') ∧
      PoolAt M' a R (cnt + 1) ws' ∧ (placesP (fun j => !bitAt ws j) R.n 0).take 1 = [x] ∧ (∀ i, bitAt ws' i = (decide (i = x) || bitAt ws i)) ∧
      (∀ q, q < M.next → q ≠ R.a → q ≠ R.b → M'.get q = M.get q) ∧ M.next ≤ M'.next := by
  obtain ⟨f, rfl⟩ : ∃ k, m = k + 1 := ⟨m - 1, by omega⟩
  obtain ⟨M', ws', u', c', e, hp, hg, hb, hf, hn⟩ := grab_ok h (k := 1) (by omega) (m := f) (by omega)
  have hlen : (placesP (fun j => !bitAt ws j) R.n 0).length = R.n - cnt := by
    rw [cB_places, h.num]; have := cB_not (bitAt ws) R.n; omega
  cases hP : placesP (fun j => !bitAt ws j) R.n 0 with
  | nil => rw [hP] at hlen; simp at hlen; omega
  | cons x T =>
    rw [hP] at hg hb
    simp only [List.take_succ_cons, List.take_zero, List.map_cons, List.map_nil] at hg hb
    have e' : call f 26 [.ptr (some (a, 0)), .int .i64 1] M = some (.tup [.slice u' 1 c', .int .i64 0], M') := e
    refine ⟨M', ws', x, ?_, hp, rfl, fun i => by rw [hb]; simp, hf, hn⟩
    rcases hg.is with ⟨_, h0, _⟩ | ⟨b, cl, rfl, rfl, _, _, hgb⟩
    · cases h0
    · rw [call, acall_run Tryd.func25 (hk (by decide)), take_eq]
      simp only [e', bO, aT, aC, aL, aI, aN, show ((0 : Int) != 0) = false from rfl, iF, show decide ((0 : Int) < ((1 : Nat) : Int)) = true from rfl, nT, row_cells hgb, Nat.zero_add, List.getElem?_cons_zero]

theorem pnew_run {n : Nat} (h1 : 5 ≤ n) (h2 : n ≤ 65536) (h0 : 2 ≤ M.next) (ht : M.get 0 = some (.ro (tabInts.map (AV.int .u8)))) (hm : 6 ≤ m) :
    ∃ (R : RowS) (ws : List W64) (M' : AMem), R.n = n ∧ call m 24 [.int .i64 n] M = some (.tup [.ptr (some (M.next + 2, 0)), .int .i64 0], M') ∧ PoolAt M' (M.next + 2) R 1 ws ∧ (∀ i, bitAt ws i = decide (i = 0)) ∧
      (∀ q, q < M.next → M'.get q = M.get q) ∧ M'.next = M.next + 3 := by
  obtain ⟨f, rfl⟩ : ∃ k, m = k + 1 := ⟨m - 1, by omega⟩
  have h8 := new_in (M := M) (n := n) (m := f) (by omega) h2 (by omega)
  let R : RowS := ⟨M.next + 1, M.next, n, some ((n + 63) / 64), 0, 0, true, true, by omega, by omega, by omega⟩
  generalize hM1 : (M.new (.cells ((List.replicate ((n + 63) / 64) 0#64).map wA) 0 true)).new (.cells [.int .i64 n, .int .i64 0, .slice (some (M.next, 0)) ((n + 63) / 64) (some ((n + 63) / 64))] 0 true) = M1 at *
  have hget : ∀ q, q < M.next → M1.get q = M.get q := fun q hq => by
    rw [← hM1, AMem.get_new, AMem.get_new, AMem.next_new, if_neg (by omega), if_neg (by omega)]
  have hnx : M1.next = M.next + 2 := by rw [← hM1]; rfl
  have hrow : RowAt M1 R 0 (List.replicate ((n + 63) / 64) 0#64) := by
    refine ⟨?_, ?_, by simp [R], fun i _ => bitAt_rep _ _, ?_⟩
    · rw [← hM1, AMem.get_new, AMem.next_new, if_pos (show R.a = M.next + 1 from rfl)]
      simp [R]
    · rw [← hM1, AMem.get_new, AMem.get_new, AMem.next_new, if_neg (show ¬ R.b = _ by show ¬ M.next = M.next + 1; omega), if_pos (show R.b = M.next from rfl)]
    · rw [hget 0 (by omega)]; exact ht
  have hpos : 0 < R.n := R.pos
  have e2 := set_in hrow (j := 0) hpos (m := f) (by omega) (Nat.zero_le _)
  rw [bitAt_rep, if_neg (by simp)] at e2
  have hd := hrow.div_lt hpos
  have hbit := fun i => bitAt_or hd i
  have hlen : ((List.replicate ((n + 63) / 64) 0#64).set (0 / 64) ((List.replicate ((n + 63) / 64) 0#64).getD (0 / 64) 0 ||| 1#64 <<< (0 % 64))).length = (List.replicate ((n + 63) / 64) 0#64).length := List.length_set
  generalize (List.replicate ((n + 63) / 64) 0#64).set (0 / 64) ((List.replicate ((n + 63) / 64) 0#64).getD (0 / 64) 0 ||| 1#64 <<< (0 % 64)) = ws' at *
  have hbit' : ∀ i, bitAt ws' i = decide (i = 0) := fun i => by
    have := hbit i
    rw [bitAt_rep, Bool.or_false] at this
    exact this
  have hput := RowAt.put hrow (cnt' := 1) (ws' := ws') hlen (fun i hi => by rw [hbit']; have : 0 < i := Nat.lt_of_lt_of_le hpos hi; simp; omega) (by show M.next + 1 ≠ 0; omega) (by show M.next ≠ 0; omega)
  have hcast : (((0 : Nat) : Int) + 1) = ((1 : Nat) : Int) := rfl
  rw [hcast] at e2
  generalize hM2 : R.put M1 ((1 : Nat) : Int) ws' = M2 at *
  have hf2 : ∀ q, q < M.next → M2.get q = M1.get q := fun q hq => by
    rw [← hM2]; unfold RowS.put
    rw [AMem.get_set, if_neg (show ¬ q = R.a by show ¬ q = M.next + 1; omega), AMem.get_set, if_neg (show ¬ q = R.b by show ¬ q = M.next; omega)]
  have hn2 : M2.next = M.next + 2 := by rw [← hM2]; exact hnx
  have e10 : call f 10 [.ptr (some (M.next + 1, 0)), .int .i64 0] M1 = some (.int .i64 0, M2) := e2
  have hnew : ∀ q, q < M.next + 2 → (M2.new (.cells [.ptr (some (M.next + 1, 0))] 0 true)).get q = M2.get q := fun q hq => by rw [AMem.get_new, if_neg (by omega)]
  refine ⟨R, ws', M2.new (.cells [.ptr (some (M.next + 1, 0))] 0 true), rfl, ?_, ⟨hput.of (hnew 0 (by omega)) (hnew _ (by show M.next + 1 < M.next + 2; omega)) (hnew _ (by show M.next < M.next + 2; omega)), ⟨0, true, ?_⟩, ?_, ?_, ?_⟩, hbit', fun q hq => ?_, ?_⟩
  · rw [call, acall_run Tryd.func24 (hk (by decide)), pnew_eq]
    simp only [decide_eq_false (show ¬ (n : Int) < 5 by omega), iF, h8, bO, aT, aC, aP, aI, aN, show ((0 : Int) != 0) = false from rfl, e10]
    rw [← hn2]
    rfl
  · rw [AMem.get_new, if_pos hn2.symm]
  · rw [cB_ext (q := fun j => decide (j = 0)) (fun j _ => hbit' j)]
    have : cB (fun j => decide (j = 0)) R.n = cB (fun _ => false) R.n + 1 := cB_set (i := 0) rfl (by simp) (fun j hj => by simp [hj]) hpos
    rw [this, cB_gap (a := 0) (b := R.n) (by omega) (fun _ _ _ => rfl)]; rfl
  · show M.next + 2 < M2.next + 1 ∧ M.next + 1 < M2.next + 1 ∧ M.next < M2.next + 1
    omega
  · show 2 ≤ M.next + 2 ∧ 2 ≤ M.next + 1 ∧ 2 ≤ M.next ∧ M.next + 2 ≠ M.next + 1 ∧ M.next + 2 ≠ M.next
    omega
  · rw [hnew q (by omega), hf2 q hq, hget q hq]
  · rw [AMem.next_new, hn2]
end
end Go.Proofs.YtiecjbgefkelfaaDoor
