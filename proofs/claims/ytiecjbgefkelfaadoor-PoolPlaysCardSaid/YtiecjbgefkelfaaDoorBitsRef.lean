/-
  What the reference of bits does (lists of bools), and a row's fork, told of the abstract memory.
-/
import Derived.Test.YtiecjbgefkelfaaDoorBitsAllRun
import Derived.Test.YtiecjbgefkelfaaDoorPlayEq
namespace Go.Proofs.YtiecjbgefkelfaaDoor
open Go.Ab
set_option linter.unusedVariables false
set_option linter.unusedSimpArgs false
set_option maxRecDepth 100000

theorem clone_eq2 (H : Hook) (b l : Nat) (c : Option Nat) (n : Nat) (M : AMem) : run Tryd.prog H Tryd.f45 n [.slice (some (b, 0)) l c] M =
  bindO (appendA Tryd.prog (M.new (ABlk.cells [] 0 true)) 76 76 (some (M.next, 0)) 0 (some 0) (AV.slice (some (b, 0)) l c)) fun r => some (AV.slice r.fst.fst r.fst.snd.fst r.fst.snd.snd, r.snd) := by kernel_rfl

theorem u37 : Tryd.prog.underlying 37 = some (.slice 4) := by kernel_rfl
theorem u76 : Tryd.prog.underlying 76 = some (.slice 67) := by kernel_rfl

/-- 'append([]T{}, xs...)' at one cell an element -/
theorem append_copy {st e : TypeId} {ie : TypeInfo} {z : AV} (hu : Tryd.prog.underlying st = some (.slice e)) (hi : Tryd.prog.info? e = some ie) (hz : zeroA Tryd.prog e = some z) (h1 : z.cells.length = 1) (h2 : ie.size = 1) (h3 : ie.bytes ≤ 8)
    {M : AMem} {p n : Nat} {c : Option Nat} {cs : List AV} {sz : Nat} {cl : Bool} (hM : M.get p = some (.cells cs sz cl)) (hp : p < M.next) (hl : cs.length = n) (hn : 0 < n) (hr : n ≤ 65536) :
    appendA Tryd.prog (M.new (.cells [] 0 true)) st st (some (M.next, 0)) 0 (some 0) (.slice (some (p, 0)) n c) = some ((some (M.next + 1, 0), n, none), (M.new (.cells [] 0 true)).new (.cells cs 1 true)) := by
  have hM' : (M.new (.cells [] 0 true)).row p = some cs := row_cells (by rw [AMem.get_new, if_neg (by omega)]; exact hM)
  have hb : (0 + n) * ie.bytes ≤ roomA ∧ 0 + n ≤ roomA := by
    have : n * ie.bytes ≤ 65536 * 8 := Nat.mul_le_mul hr h3
    rw [Nat.zero_add]
    unfold roomA; omega
  have hn0 : ¬ n = 0 := by omega
  have hsrc : srcCells (M.new (.cells [] 0 true)) 1 n (.slice (some (p, 0)) n c) = some cs := by
    unfold srcCells
    simp only [Nat.le_refl, if_true, if_neg hn0]
    unfold cellsFrom
    rw [hM']
    simp only [Nat.mul_one, Nat.zero_add, hl, Nat.le_refl, if_true, List.drop_zero, List.take_of_length_le (Nat.le_of_eq hl)]
  unfold appendA
  simp only [hu, hi, hz, h1, h2, ne_eq, not_true_eq_false, Nat.one_ne_zero, or_self, if_false, srcLen, Option.map_some, hsrc, hb, and_self, if_true]
  unfold growA
  simp only [hn0, if_false, show ¬ 0 + n ≤ 0 by omega]
  unfold srcCells
  simp only [Nat.zero_le, if_true, List.nil_append, AMem.next_new]
  rw [Nat.zero_add]

section
variable {M : AMem} {R : RowS} {cnt : Nat} {ws : List W64} {m : Nat}

/-- a list of bools in memory -/
structure RefAt (M : AMem) (p n : Nat) (bs : List Bool) : Prop where
  get : ∃ sz cl, M.get p = some (.cells (bs.map AV.bool) sz cl)
  len : bs.length = n

theorem RefAt.row {p n : Nat} {bs : List Bool} (h : RefAt M p n bs) : M.row p = some (bs.map AV.bool) := by obtain ⟨sz, cl, h⟩ := h.get; exact row_cells h

theorem ref_get {bs : List Bool} {i : Nat} (h : i < bs.length) : (bs.map AV.bool)[i]? = some (.bool (bs.getD i false)) := by
  rw [List.getElem?_map, List.getElem?_eq_getElem h, List.getD_eq_getElem?_getD, List.getElem?_eq_getElem h]; rfl

theorem with_run {p n : Nat} {bs : List Bool} {c : Option Nat} (h : RefAt M p n bs) (hp : p < M.next) (hn : n ≤ 65536) {i : Nat} (hi : i < n) (t : Bool) (hm : 1 ≤ m) :
    call m 44 [.slice (some (p, 0)) n c, .int .i64 i, .bool t] M = some (.slice (some (M.next + 1, 0)) n none, ((M.new (.cells [] 0 true)).new (.cells (bs.map AV.bool) 1 true)).set (M.next + 1) (.cells ((bs.set i t).map AV.bool) 1 true)) := by
  obtain ⟨k, rfl⟩ : ∃ k, m = k + 1 := ⟨m - 1, by omega⟩
  obtain ⟨sz, cl, hg⟩ := h.get
  have ha := append_copy (c := c) u37 (show Tryd.prog.info? 4 = some _ from rfl) (show zeroA Tryd.prog 4 = some (.bool false) by kernel_rfl) rfl (by kernel_rfl) (by decide) hg hp (by rw [List.length_map]; exact h.len) (by omega) hn
  rw [call, acall_run Tryd.func44 (hk (by decide)), with_eq, ha]
  have hl := h.len
  have hg2 : ((M.new (.cells [] 0 true)).new (.cells (bs.map AV.bool) 1 true)).get (M.next + 1) = some (.cells (bs.map AV.bool) 1 true) := by rw [AMem.get_new, AMem.next_new, if_pos rfl]
  have hset : ((List.take i (bs.map AV.bool)).append [AV.bool t]).append (List.drop (i + 1) (bs.map AV.bool)) = (bs.set i t).map AV.bool := by
    rw [List.map_set]
    show (List.take i (bs.map AV.bool) ++ [AV.bool t]) ++ List.drop (i + 1) (bs.map AV.bool) = _
    rw [List.append_assoc, List.set_eq_take_append_cons_drop, if_pos (by simp; omega)]; rfl
  simp only [bO, dnat, dlt hi, Bool.and_self, nT, hg2, gC, Int.toNat_natCast, Nat.zero_add, Nat.mul_one, show i + 1 ≤ (bs.map AV.bool).length by simp; omega, if_true, hset]

theorem clone_run (h : RowAt M R cnt ws) (hb : R.b < M.next) (hm : 1 ≤ m) :
    call m 45 [.slice (some (R.b, 0)) ws.length R.c] M = some (.slice (some (M.next + 1, 0)) ws.length none, (M.new (.cells [] 0 true)).new (.cells (ws.map wA) 1 true)) := by
  obtain ⟨k, rfl⟩ : ∃ k, m = k + 1 := ⟨m - 1, by omega⟩
  have hpos := R.pos
  have hle := R.le
  have hlen := h.len
  have ha := append_copy (c := R.c) u76 (show Tryd.prog.info? 67 = some _ from rfl) (show zeroA Tryd.prog 67 = some (.int .u64 0) by kernel_rfl) rfl (by kernel_rfl) (by decide) h.words hb (List.length_map ..) (by omega) (by omega)
  rw [call, acall_run Tryd.func45 (hk (by decide)), clone_eq2, ha]
  rfl

theorem fork_run (h : RowAt M R cnt ws) (hb0 : R.b < M.next) (ha0 : R.a < M.next) (hm : 2 ≤ m) :
    call m 20 [.ptr (some (R.a, 0))] M = some (.ptr (some (M.next + 2, 0)), ((M.new (.cells [] 0 true)).new (.cells (ws.map wA) 1 true)).new (.cells [.int .i64 R.n, .int .i64 cnt, .slice (some (M.next + 1, 0)) ws.length none] 0 true)) := by
  obtain ⟨k, rfl⟩ : ∃ k, m = k + 1 := ⟨m - 1, by omega⟩
  have hl := len_run h (m := k) (by omega)
  have hc := clone_run h hb0 (m := k) (by omega)
  have h0 : ((R.n : Int) == 0) = false := by have := R.pos; simp; omega
  rw [call, acall_run Tryd.func20 (hk (by decide)), fork_eq]
  simp only [hl, bO, aI, h0, iF, row_cells h.row, List.getElem?_cons_zero, List.getElem?_cons_succ, aL, beqA_int, beqA_ptr, beqA_sl, nT, hc]
  have hfill : (if (AV.int IntKind.i64 (R.n : Int)).cells.length ≠ Tryd.prog.types[3].size then none
        else
          if (AV.int IntKind.i64 (cnt : Int)).cells.length ≠ Tryd.prog.types[3].size then none
          else
            if (AV.slice (some (M.next + 1, 0)) ws.length none).cells.length ≠ Tryd.prog.types[76].size then none
            else
              some
                (AV.int IntKind.i64 (R.n : Int) ::
                  AV.int IntKind.i64 (cnt : Int) ::
                    AV.slice (some (M.next + 1, 0)) ws.length none ::
                      List.drop (2 + 1)
                        (AV.int IntKind.i64 (R.n : Int) ::
                          AV.int IntKind.i64 (cnt : Int) ::
                            List.drop (1 + 1)
                              (AV.int IntKind.i64 (R.n : Int) ::
                                List.drop (0 + 1)
                                  [AV.int IntKind.i64 0, AV.int IntKind.i64 0, AV.slice none 0 (some 0)])))) = some [AV.int IntKind.i64 (R.n : Int), AV.int IntKind.i64 (cnt : Int), AV.slice (some (M.next + 1, 0)) ws.length none] := by
    generalize ws.length = W
    kernel_rfl
  simp only [hfill, bO, aG, aC, aI, aL, aN, AMem.get_new, AMem.next_new, if_true]
  have hb : ∀ (x y : Int) (p : Option (Nat × Nat)) (l : Nat) (c : Option Nat), beqBlk (some (.cells [.int .i64 x, .int .i64 y, .slice p l c] 0 true)) (.cells [.int .i64 x, .int .i64 y, .slice p l c] 0 true) = true := fun x y p l c => by
    simp [beqBlk, beqA.beqL, beqA_int, beqA_sl]
  have hg : ∀ (x y : Int) (p : Option (Nat × Nat)) (l : Nat) (c : Option Nat), beqA 9 (.agg [.int .i64 x, .int .i64 y, .slice p l c]) (.agg [.int .i64 x, .int .i64 y, .slice p l c]) = true := fun x y p l c => by
    simp [beqA, beqA.beqL]
  have hrow : (((M.new (.cells [] 0 true)).new (.cells (ws.map wA) 1 true)).new (.cells [.int .i64 R.n, .int .i64 cnt, .slice (some (M.next + 1, 0)) ws.length none] 0 true)).row R.a = some [.int .i64 R.n, .int .i64 cnt, .slice (some (R.b, 0)) ws.length R.c] := by
    refine row_cells (s := R.s1) (l := R.l1) ?_
    rw [AMem.get_new, AMem.get_new, AMem.get_new, AMem.next_new, AMem.next_new, if_neg (by omega), if_neg (by omega), if_neg (by omega)]
    exact h.row
  simp only [hb, hg, nT, bO, beqA_int, beqA_sl, beqA_ptr, hrow, List.getElem?_cons_zero, List.getElem?_cons_succ, aI]

/-! ### the reference -/
theorem rhas_in {p n : Nat} {bs : List Bool} {c : Option Nat} (h : RefAt M p n bs) {i : Nat} (hi : i < n) (hm : 1 ≤ m) : call m 23 [.slice (some (p, 0)) n c, .int .i64 i] M = some (.bool (bs.getD i false), M) := by
  obtain ⟨k, rfl⟩ : ∃ k, m = k + 1 := ⟨m - 1, by omega⟩
  rw [call, acall_run Tryd.func23 (hk (by decide)), rhas_eq]
  have hr := ref_get (bs := bs) (i := i) (by rw [h.len]; exact hi)
  have e0 : decide ((i : Int) ≥ 0) = true := by simp
  simp only [e0, tt, iT, cond_true, dlt hi, dnat, Bool.and_self, nT, bO, h.row, Nat.zero_add, Nat.mul_one, Int.toNat_natCast, hr, aB]

theorem rhas_out {p n : Nat} {c : Option Nat} {s : Option (Nat × Nat)} {i : Int} (hi : ¬(0 ≤ i ∧ i < (n : Int))) (hm : 1 ≤ m) : call m 23 [.slice s n c, .int .i64 i] M = some (.bool false, M) := by
  obtain ⟨k, rfl⟩ : ∃ k, m = k + 1 := ⟨m - 1, by omega⟩
  rw [call, acall_run Tryd.func23 (hk (by decide)), rhas_eq]
  by_cases q : i ≥ 0
  · rw [decide_eq_true q, decide_eq_false (show ¬ i < (n : Int) by omega)]; rfl
  · rw [decide_eq_false q]; rfl

theorem rset_in {p n : Nat} {bs : List Bool} {c : Option Nat} (h : RefAt M p n bs) (hp : p < M.next) (hn : n ≤ 65536) {i : Nat} (hi : i < n) (hm : 2 ≤ m) :
    call m 17 [.slice (some (p, 0)) n c, .int .i64 i] M = if bs.getD i false then some (.tup [.slice (some (p, 0)) n c, .int .i64 10], M) else
      some (.tup [.slice (some (M.next + 1, 0)) n none, .int .i64 0], ((M.new (.cells [] 0 true)).new (.cells (bs.map AV.bool) 1 true)).set (M.next + 1) (.cells ((bs.set i true).map AV.bool) 1 true)) := by
  obtain ⟨k, rfl⟩ : ∃ k, m = k + 1 := ⟨m - 1, by omega⟩
  have hw := with_run (c := c) h hp hn hi true (m := k) (by omega)
  rw [call, acall_run Tryd.func17 (hk (by decide)), rset_eq]
  have hr := ref_get (bs := bs) (i := i) (by rw [h.len]; exact hi)
  have e0 : decide ((i : Int) < 0) = false := by simp
  have e1 : decide ((i : Int) ≥ (n : Int)) = false := by simp; omega
  simp only [e0, ff, iT, cond_false, e1, iF, dnat, dlt hi, Bool.and_self, nT, bO, h.row, Nat.zero_add, Nat.mul_one, Int.toNat_natCast, hr, aB, hw, aL]
  cases bs.getD i false <;> rfl

theorem rset_out {n : Nat} {c : Option Nat} {s : Option (Nat × Nat)} {i : Int} (hi : ¬(0 ≤ i ∧ i < (n : Int))) (hm : 1 ≤ m) : call m 17 [.slice s n c, .int .i64 i] M = some (.tup [.slice s n c, .int .i64 4], M) := by
  obtain ⟨k, rfl⟩ : ∃ k, m = k + 1 := ⟨m - 1, by omega⟩
  rw [call, acall_run Tryd.func17 (hk (by decide)), rset_eq]
  by_cases q : i < 0
  · rw [decide_eq_true q]; rfl
  · rw [decide_eq_false q, decide_eq_true (show i ≥ (n : Int) by omega)]; rfl

theorem rclear_in {p n : Nat} {bs : List Bool} {c : Option Nat} (h : RefAt M p n bs) (hp : p < M.next) (hn : n ≤ 65536) {i : Nat} (hi : i < n) (hm : 2 ≤ m) :
    call m 18 [.slice (some (p, 0)) n c, .int .i64 i] M = if bs.getD i false then some (.tup [.slice (some (M.next + 1, 0)) n none, .int .i64 0], ((M.new (.cells [] 0 true)).new (.cells (bs.map AV.bool) 1 true)).set (M.next + 1) (.cells ((bs.set i false).map AV.bool) 1 true)) else
      some (.tup [.slice (some (p, 0)) n c, .int .i64 9], M) := by
  obtain ⟨k, rfl⟩ : ∃ k, m = k + 1 := ⟨m - 1, by omega⟩
  have hw := with_run (c := c) h hp hn hi false (m := k) (by omega)
  rw [call, acall_run Tryd.func18 (hk (by decide)), rclear_eq]
  have hr := ref_get (bs := bs) (i := i) (by rw [h.len]; exact hi)
  have e0 : decide ((i : Int) < 0) = false := by simp
  have e1 : decide ((i : Int) ≥ (n : Int)) = false := by simp; omega
  simp only [e0, ff, iT, cond_false, e1, iF, dnat, dlt hi, Bool.and_self, nT, bO, h.row, Nat.zero_add, Nat.mul_one, Int.toNat_natCast, hr, aB, hw, aL]
  cases bs.getD i false <;> rfl

theorem rclear_out {n : Nat} {c : Option Nat} {s : Option (Nat × Nat)} {i : Int} (hi : ¬(0 ≤ i ∧ i < (n : Int))) (hm : 1 ≤ m) : call m 18 [.slice s n c, .int .i64 i] M = some (.tup [.slice s n c, .int .i64 4], M) := by
  obtain ⟨k, rfl⟩ : ∃ k, m = k + 1 := ⟨m - 1, by omega⟩
  rw [call, acall_run Tryd.func18 (hk (by decide)), rclear_eq]
  by_cases q : i < 0
  · rw [decide_eq_true q]; rfl
  · rw [decide_eq_false q, decide_eq_true (show i ≥ (n : Int) by omega)]; rfl

theorem rnew_run {n : Nat} (hn : n ≤ 65536) (hm : 1 ≤ m) : call m 16 [.int .i64 n] M = some (.slice (some (M.next, 0)) n (some n), M.new (.cells (repA [.bool false] n) 0 true)) := by
  obtain ⟨k, rfl⟩ : ∃ k, m = k + 1 := ⟨m - 1, by omega⟩
  rw [call, acall_run Tryd.func16 (hk (by decide)), rnew_eq, show Tryd.prog.types[4].bytes = 1 by kernel_rfl, decide_eq_true (show (0 : Int) ≤ (n : Int) by omega), decide_eq_true (show (n : Int) ≤ (n : Int) by omega), decide_eq_true (show (n : Int) ≤ 140737488355328 by omega), decide_eq_true (show (n : Int).toNat * 1 ≤ 140737488355328 by omega)]
  rfl

theorem first_loop {p n : Nat} {bs : List Bool} {c : Option Nat} (h : RefAt M p n bs) (hn : n ≤ 65536) (f : Int) (t : Bool) (hm : 1 ≤ m) : ∀ (d w mm : Nat), n - w = d → w ≤ n → (∀ j, j < w → f ≤ (j : Int) → (bs.getD j false == t) = false) → d + 1 ≤ mm →
    runLoop Tryd.prog HK Tryd.f21 0 [0, 1, 2, 6, 7, 8] m mm (mkFr [(0, .slice (some (p, 0)) n c), (1, .int .i64 f), (2, .bool t), (6, .int .i64 0), (7, .bool false), (8, .int .i64 w)]) M (afterLoop Tryd.prog HK Tryd.f21 0 m) =
      some (placeA (firstP (fun j => bs.getD j false == t) n f.toNat), M) := by
  intro d
  induction d with
  | zero =>
    intro w mm hd hw hno hmm
    obtain ⟨mm, rfl⟩ : ∃ k, mm = k + 1 := ⟨mm - 1, by omega⟩
    have hnl : decide ((w : Int) < (n : Int)) = false := by simp; omega
    have : firstP (fun j => bs.getD j false == t) n f.toNat = none := by
      rw [firstP_none]; intro j h1 h2; exact hno j (by omega) (by omega)
    rw [runLoop_succ, first_body, hnl, iF, onward_exit, first_end, this]; rfl
  | succ d ih =>
    intro w mm hd hw hno hmm
    obtain ⟨mm, rfl⟩ : ∃ k, mm = k + 1 := ⟨mm - 1, by omega⟩
    have hwl : w < n := by omega
    have hr := ref_get (bs := bs) (i := w) (by rw [h.len]; exact hwl)
    have hw1 : IntKind.i64.wrap ((w : Int) + 1) = ((w + 1 : Nat) : Int) := by rw [wrap_i64 (by omega) (by omega)]; rfl
    rw [runLoop_succ, first_body]
    by_cases hf : f ≤ (w : Int)
    · have hg : decide ((w : Int) ≥ f) = true := by simpa using hf
      simp only [dlt hwl, iT, hg, tt, dnat, Bool.and_self, nT, bO, h.row, Nat.zero_add, Nat.mul_one, Int.toNat_natCast, hr, aB, cond_true, hw1]
      cases e : (bs.getD w false == t) with
      | true =>
        rw [show ((true : Bool) != false) = true from rfl, iT, onward_ret, first_ret]
        have : firstP (fun j => bs.getD j false == t) n f.toNat = some w := by
          rw [firstP_some]
          exact ⟨hwl, ⟨by omega, e⟩, fun j h1 h2 => hno j h1 (by omega)⟩
        rw [this]; rfl
      | false =>
        rw [show ((false : Bool) != false) = false from rfl, iF, onward_normal]
        exact ih (w + 1) mm (by omega) (by omega) (fun j hj hfj => by
          by_cases q : j = w
          · subst q; exact e
          · exact hno j (by omega) hfj) (by omega)
    · have hg : decide ((w : Int) ≥ f) = false := by simp; omega
      simp only [dlt hwl, iT, hg, ft, iF, hw1, onward_normal]
      exact ih (w + 1) mm (by omega) (by omega) (fun j hj hfj => by
        by_cases q : j = w
        · subst q; omega
        · exact hno j (by omega) hfj) (by omega)

theorem first_run {p n : Nat} {bs : List Bool} {c : Option Nat} (h : RefAt M p n bs) (hn : n ≤ 65536) (f : Int) (t : Bool) (hm : n + 3 ≤ m) :
    call m 21 [.slice (some (p, 0)) n c, .int .i64 f, .bool t] M = some (placeA (firstP (fun j => bs.getD j false == t) n f.toNat), M) := by
  obtain ⟨k, rfl⟩ : ∃ k, m = k + 1 := ⟨m - 1, by omega⟩
  rw [call, acall_run Tryd.func21 (hk (by decide)), first_eq]
  exact first_loop h hn f t (m := k) (by omega) n 0 k rfl (by omega) (fun j hj => by omega) (by omega)

theorem rcount_loop {p n : Nat} {bs : List Bool} {c : Option Nat} (h : RefAt M p n bs) (hn : n ≤ 65536) (hm : 1 ≤ m) : ∀ (d i mm : Nat), n - i = d → i ≤ n → d + 1 ≤ mm →
    runLoop Tryd.prog HK Tryd.f22 0 [0, 2, 3, 4] m mm (mkFr [(0, .slice (some (p, 0)) n c), (2, .int .i64 0), (3, .int .i64 (cB (fun j => bs.getD j false) i)), (4, .int .i64 i)]) M (afterLoop Tryd.prog HK Tryd.f22 0 m) =
      some (.int .i64 (cB (fun j => bs.getD j false) n), M) := by
  intro d
  induction d with
  | zero =>
    intro i mm hd hi hmm
    obtain ⟨mm, rfl⟩ : ∃ k, mm = k + 1 := ⟨mm - 1, by omega⟩
    have hnl : decide ((i : Int) < (n : Int)) = false := by simp; omega
    rw [runLoop_succ, rcount_body, hnl, iF, onward_exit, rcount_end, show i = n by omega]
  | succ d ih =>
    intro i mm hd hi hmm
    obtain ⟨mm, rfl⟩ : ∃ k, mm = k + 1 := ⟨mm - 1, by omega⟩
    have hil : i < n := by omega
    have hr := ref_get (bs := bs) (i := i) (by rw [h.len]; exact hil)
    have hcl := cB_le (fun j => bs.getD j false) i
    have hw1 : IntKind.i64.wrap ((i : Int) + 1) = ((i + 1 : Nat) : Int) := by rw [wrap_i64 (by omega) (by omega)]; rfl
    have hc1 : IntKind.i64.wrap ((cB (fun j => bs.getD j false) i : Int) + 1) = ((cB (fun j => bs.getD j false) i + 1 : Nat) : Int) := by rw [wrap_i64 (by omega) (by omega)]; rfl
    rw [runLoop_succ, rcount_body]
    simp only [dlt hil, iT, dnat, Bool.and_self, nT, bO, h.row, Nat.zero_add, Nat.mul_one, Int.toNat_natCast, hr, aB, hw1, hc1]
    have hstep : cB (fun j => bs.getD j false) (i + 1) = cB (fun j => bs.getD j false) i + (if bs.getD i false then 1 else 0) := rfl
    have := ih (i + 1) mm (by omega) (by omega) (by omega)
    cases e : bs.getD i false with
    | true => rw [iT, onward_normal]; rw [hstep, e] at this; exact this
    | false => rw [iF, onward_normal]; rw [hstep, e] at this; exact this

theorem rcount_run {p n : Nat} {bs : List Bool} {c : Option Nat} (h : RefAt M p n bs) (hn : n ≤ 65536) (hm : n + 3 ≤ m) : call m 22 [.slice (some (p, 0)) n c] M = some (.int .i64 (cB (fun j => bs.getD j false) n), M) := by
  obtain ⟨k, rfl⟩ : ∃ k, m = k + 1 := ⟨m - 1, by omega⟩
  rw [call, acall_run Tryd.func22 (hk (by decide)), rcount_eq]
  exact rcount_loop h hn (m := k) (by omega) n 0 k rfl (by omega) (by omega)
end
end Go.Proofs.YtiecjbgefkelfaaDoor
