/-
  What the reference of pool does (lists of bools), and a pool's row of held blocks, told of the abstract memory.
-/
import Derived.Test.YtiecjbgefkelfaaDoorOnceRun
import Derived.Test.YtiecjbgefkelfaaDoorPlaysEq
namespace Go.Proofs.YtiecjbgefkelfaaDoor
open Go.Ab
set_option linter.unusedVariables false
set_option linter.unusedSimpArgs false
set_option maxRecDepth 100000

/-! ### slices that grow of nothing, told or not -/
structure Gr (M : AMem) (u : Option (Nat × Nat)) (l : Nat) (c : Option Nat) (xs : List AV) : Prop where
  len : xs.length = l
  is : (l = 0 ∧ c = some 0) ∨ (∃ b cl, u = some (b, 0) ∧ c = none ∧ 0 < l ∧ b < M.next ∧ M.get b = some (.cells xs 1 cl))

theorem Grown.gr {M : AMem} {u : Option (Nat × Nat)} {l : Nat} {c : Option Nat} {xs : List AV} (h : Grown M u l c xs) : Gr M u l c xs :=
  ⟨h.len, by
    rcases h.is with ⟨_, h1, h2⟩ | h
    · exact .inl ⟨h1, h2⟩
    · exact .inr h⟩

theorem Gr.of {M M' : AMem} {u : Option (Nat × Nat)} {l : Nat} {c : Option Nat} {xs : List AV} (h : Gr M u l c xs) (hn : M.next ≤ M'.next) (hg : ∀ b, u = some (b, 0) → b < M.next → M'.get b = M.get b) : Gr M' u l c xs :=
  ⟨h.len, by
    rcases h.is with h | ⟨b, cl, h1, h2, h3, h4, h5⟩
    · exact .inl h
    · exact .inr ⟨b, cl, h1, h2, h3, by omega, by rw [hg b h1 h4]; exact h5⟩⟩

theorem Gr.get {M : AMem} {u : Option (Nat × Nat)} {l : Nat} {c : Option Nat} {vs : List AV} (h : Gr M u l c vs) {x : Nat} (hx : x < l) : ∃ b, u = some (b, 0) ∧ M.row b = some vs := by
  rcases h.is with ⟨h0, _⟩ | ⟨b, cl, h1, _, _, _, h2⟩
  · omega
  · exact ⟨b, h1, row_cells h2⟩

theorem gr_append {st e : TypeId} {ie : TypeInfo} {z : AV} (hu : Tryd.prog.underlying st = some (.slice e)) (hi : Tryd.prog.info? e = some ie) (hz : zeroA Tryd.prog e = some z) (h1 : z.cells.length = 1) (h2 : ie.size = 1) (h3 : ie.bytes ≤ 8)
    {M : AMem} {u : Option (Nat × Nat)} {l : Nat} {c : Option Nat} {xs : List AV} {v : AV} (h : Gr M u l c xs) (hl : l ≤ 65536) (hv : flatA v = true) :
    ∃ M', appendA Tryd.prog (M.new (.cells [v] 0 true)) st st u l c (.slice (some (M.next, 0)) 1 (some 1)) = some ((some (M.next + 1, 0), l + 1, none), M') ∧
      Gr M' (some (M.next + 1, 0)) (l + 1) none (xs ++ [v]) ∧ M'.next = M.next + 2 ∧ ∀ q, q < M.next → (∀ b, u = some (b, 0) → q ≠ b) → M'.get q = M.get q := by
  rcases h.is with ⟨rfl, rfl⟩ | ⟨b, cl, rfl, rfl, hpos, hbn, hg⟩
  · have hb : (0 + 1) * ie.bytes ≤ roomA ∧ 0 + 1 ≤ roomA := by unfold roomA; omega
    have hrow : (M.new (.cells [v] 0 true)).row M.next = some [v] := row_cells (by rw [AMem.get_new, if_pos rfl])
    have hsrc : srcCells (M.new (.cells [v] 0 true)) 1 1 (.slice (some (M.next, 0)) 1 (some 1)) = some [v] := by
      unfold srcCells
      simp only [Nat.le_refl, if_true, Nat.one_ne_zero, if_false]
      unfold cellsFrom
      rw [hrow]
      simp
    have key : appendA Tryd.prog (M.new (.cells [v] 0 true)) st st u 0 (some 0) (.slice (some (M.next, 0)) 1 (some 1)) = growA (M.new (.cells [v] 0 true)) 1 u 0 (some 0) 1 [v] := by
      unfold appendA
      simp only [hu, hi, hz, h1, h2, ne_eq, not_true_eq_false, Nat.one_ne_zero, or_self, if_false, srcLen, Option.map_some, hsrc, hb, and_self, if_true]
    have hx : xs = [] := List.eq_nil_of_length_eq_zero h.len
    subst hx
    refine ⟨(M.new (.cells [v] 0 true)).new (.cells [v] 1 true), ?_, ⟨rfl, .inr ⟨M.next + 1, true, rfl, rfl, Nat.zero_lt_one, ?_, ?_⟩⟩, rfl, fun q hq _ => ?_⟩
    · rw [key]; unfold growA srcCells
      cases u <;> simp only [Nat.one_ne_zero, if_false, Nat.zero_add, show ¬ 1 ≤ 0 by omega, if_true, List.nil_append, AMem.next_new, Nat.le_refl]
    · rw [AMem.next_new, AMem.next_new]; omega
    · rw [AMem.get_new, AMem.next_new, if_pos rfl]; rfl
    · rw [AMem.get_new, AMem.get_new, AMem.next_new, if_neg (by omega), if_neg (by omega)]
  · obtain ⟨M', e, g, hn, hf⟩ := append_one hu hi hz h1 h2 h3 (M := M) (u := some (b, 0)) (l := l) (c := none) (xs := xs) ⟨h.len, .inr ⟨b, cl, rfl, rfl, hpos, hbn, hg⟩⟩ hl hv
    exact ⟨M', e, g.gr, hn, hf⟩

theorem gr_u32 {M : AMem} {u : Option (Nat × Nat)} {l : Nat} {c : Option Nat} {got : List Nat} {x : Nat} (h : Gr M u l c (got.map uA)) (hl : l ≤ 65536) :
    ∃ M', appendA Tryd.prog (M.new (.cells [.int .u32 x] 0 true)) 54 54 u l c (.slice (some (M.next, 0)) 1 (some 1)) = some ((some (M.next + 1, 0), l + 1, none), M') ∧
      Gr M' (some (M.next + 1, 0)) (l + 1) none ((got ++ [x]).map uA) ∧ M'.next = M.next + 2 ∧ ∀ q, q < M.next → (∀ b, u = some (b, 0) → q ≠ b) → M'.get q = M.get q := by
  have := gr_append (e := 52) u54 (show Tryd.prog.info? 52 = some _ from rfl) (show zeroA Tryd.prog 52 = some (.int .u32 0) by kernel_rfl) rfl (by kernel_rfl) (by decide) h hl (v := uA x) rfl
  rw [show (got ++ [x]).map uA = got.map uA ++ [uA x] by simp]
  exact this

/-! ### places, step by step -/
theorem placesP_succ (p : Nat → Bool) (n f : Nat) : placesP p (n + 1) f = placesP p n f ++ (if f ≤ n ∧ p n = true then [n] else []) := by
  unfold placesP
  rw [List.range_succ, List.filter_append]
  by_cases h : f ≤ n ∧ p n = true
  · rw [if_pos h]; simp [h.1, h.2]
  · rw [if_neg h]
    congr 1
    rw [List.filter_cons, if_neg (by simpa using h)]
    rfl

theorem placesP_nil (p : Nat → Bool) {n f : Nat} (h : n ≤ f) : placesP p n f = [] := by
  unfold placesP
  rw [List.filter_eq_nil_iff]
  intro j hj
  have := List.mem_range.1 hj
  simp; omega

theorem placesP_step (p : Nat → Bool) : ∀ {n w : Nat}, w < n → placesP p n w = (if p w then [w] else []) ++ placesP p n (w + 1)
  | 0, w, h => absurd h (Nat.not_lt_zero _)
  | n + 1, w, h => by
    rw [placesP_succ, placesP_succ]
    by_cases e : w = n
    · subst e
      rw [placesP_nil p (Nat.le_refl _), placesP_nil p (Nat.le_succ _), if_neg (show ¬ (w + 1 ≤ w ∧ p w = true) by omega)]
      cases p w <;> simp
    · rw [placesP_step p (show w < n by omega), List.append_assoc]
      congr 2
      simp [show w ≤ n by omega, show w + 1 ≤ n by omega]

theorem placesP_ext {p q : Nat → Bool} {n f : Nat} (h : ∀ j, f ≤ j → j < n → p j = q j) : placesP p n f = placesP q n f := by
  unfold placesP
  apply List.filter_congr
  intro j hj
  by_cases e : f ≤ j
  · rw [h j e (List.mem_range.1 hj)]
  · simp [e]

theorem placesP_mem {p : Nat → Bool} {n f j : Nat} (h : j ∈ placesP p n f) : f ≤ j ∧ j < n ∧ p j = true := by
  unfold placesP at h
  rw [List.mem_filter, List.mem_range, Bool.and_eq_true, decide_eq_true_eq] at h
  exact ⟨h.2.1, h.1, h.2.2⟩

section
variable {M : AMem} {m : Nat}

theorem r7with_run {p n : Nat} {bs : List Bool} {c : Option Nat} (h : RefAt M p n bs) (hp : p < M.next) (hn : n ≤ 65536) {i : Nat} (hi : i < n) (t : Bool) (hm : 1 ≤ m) :
    ∃ M', call m 47 [.slice (some (p, 0)) n c, .int .i64 i, .bool t] M = some (.slice (some (M.next + 1, 0)) n none, M') ∧ RefAt M' (M.next + 1) n (bs.set i t) ∧ M'.next = M.next + 2 ∧ ∀ q, q < M.next → M'.get q = M.get q := by
  obtain ⟨k, rfl⟩ : ∃ k, m = k + 1 := ⟨m - 1, by omega⟩
  obtain ⟨sz, cl, hg⟩ := h.get
  have ha := append_copy (c := c) u37 (show Tryd.prog.info? 4 = some _ from rfl) (show zeroA Tryd.prog 4 = some (.bool false) by kernel_rfl) rfl (by kernel_rfl) (by decide) hg hp (by rw [List.length_map]; exact h.len) (by omega) hn
  have hl := h.len
  have hg2 : ((M.new (.cells [] 0 true)).new (.cells (bs.map AV.bool) 1 true)).get (M.next + 1) = some (.cells (bs.map AV.bool) 1 true) := by rw [AMem.get_new, AMem.next_new, if_pos rfl]
  have hset : ((List.take i (bs.map AV.bool)).append [AV.bool t]).append (List.drop (i + 1) (bs.map AV.bool)) = (bs.set i t).map AV.bool := by
    rw [List.map_set]
    show (List.take i (bs.map AV.bool) ++ [AV.bool t]) ++ List.drop (i + 1) (bs.map AV.bool) = _
    rw [List.append_assoc, List.set_eq_take_append_cons_drop, if_pos (by simp; omega)]; rfl
  refine ⟨((M.new (.cells [] 0 true)).new (.cells (bs.map AV.bool) 1 true)).set (M.next + 1) (.cells ((bs.set i t).map AV.bool) 1 true), ?_, ⟨⟨1, true, by rw [AMem.get_set, if_pos rfl]⟩, by rw [List.length_set]; exact hl⟩, rfl, fun q hq => ?_⟩
  · rw [call, acall_run Tryd.func47 (hk (by decide)), r7with_eq, ha]
    simp only [bO, dnat, dlt hi, Bool.and_self, nT, hg2, gC, Int.toNat_natCast, Nat.zero_add, Nat.mul_one, show i + 1 ≤ (bs.map AV.bool).length by simp; omega, if_true, hset]
  · rw [AMem.get_set, if_neg (by omega), AMem.get_new, AMem.next_new, if_neg (by omega), AMem.get_new, if_neg (by omega)]

theorem getD_set {bs : List Bool} {i : Nat} (hi : i < bs.length) (t : Bool) (j : Nat) : (bs.set i t).getD j false = if j = i then t else bs.getD j false := by
  rw [List.getD_eq_getElem?_getD, List.getElem?_set]
  by_cases e : i = j
  · subst e; rw [if_pos rfl, if_pos hi, if_pos rfl]; rfl
  · rw [if_neg e, if_neg (fun h => e h.symm), List.getD_eq_getElem?_getD]

theorem r7new_run {n : Nat} (h1 : 0 < n) (hn : n ≤ 65536) (hm : 1 ≤ m) : ∃ M' bs, call m 31 [.int .i64 n] M = some (.slice (some (M.next, 0)) n (some n), M') ∧ RefAt M' M.next n bs ∧ (∀ j, bs.getD j false = decide (j = 0)) ∧ M'.next = M.next + 1 ∧ ∀ q, q < M.next → M'.get q = M.get q := by
  obtain ⟨k, rfl⟩ : ∃ k, m = k + 1 := ⟨m - 1, by omega⟩
  have hrep : ∀ k, repA [.bool false] k = (List.replicate k false).map AV.bool := fun k => by
    induction k with
    | zero => rfl
    | succ k ih => rw [List.replicate_succ, List.map_cons, ← ih]; rfl
  obtain ⟨k', hk'⟩ : ∃ k', n = k' + 1 := ⟨n - 1, by omega⟩
  refine ⟨(M.new (.cells (repA [.bool false] n) 0 true)).set M.next (.cells ((true :: List.replicate k' false).map AV.bool) 0 true), true :: List.replicate k' false, ?_, ⟨⟨0, true, by rw [AMem.get_set, if_pos rfl]⟩, by rw [hk']; simp⟩, fun j => ?_, rfl, fun q hq => ?_⟩
  · rw [call, acall_run Tryd.func31 (hk (by decide)), r7new_eq, show Tryd.prog.types[4].bytes = 1 by kernel_rfl, decide_eq_true (show (0 : Int) ≤ (n : Int) by omega), decide_eq_true (show (n : Int) ≤ (n : Int) by omega), decide_eq_true (show (n : Int) ≤ 140737488355328 by omega), decide_eq_true (show (n : Int).toNat * 1 ≤ 140737488355328 by omega),
      decide_eq_true (show (0 : Int) < (((n : Int).toNat : Nat) : Int) by omega)]
    have hg : (M.new (ABlk.cells (repA [AV.bool false] n) 0 true)).get M.next = some (.cells (repA [.bool false] n) 0 true) := by rw [AMem.get_new, if_pos rfl]
    have hc : (if 0 + 1 ≤ (repA [AV.bool false] n).length then some (AV.bool true :: List.drop (0 + 1) (repA [AV.bool false] n)) else none) = some ((true :: List.replicate k' false).map AV.bool) := by
      rw [hrep, hk', List.replicate_succ, List.map_cons]
      simp
    simp only [Bool.and_self, nT, hg, gC, hc, bO, Int.toNat_natCast]
  · cases j with
    | zero => rfl
    | succ j => rw [List.getD_cons_succ, List.getD_eq_getElem?_getD, List.getElem?_replicate]; simp; split <;> rfl
  · rw [AMem.get_set, if_neg (by omega), AMem.get_new, if_neg (by omega)]

theorem r7free_loop {p n : Nat} {bs : List Bool} {c : Option Nat} (h : RefAt M p n bs) (hn : n ≤ 65536) (hm : 1 ≤ m) : ∀ (d i mm : Nat), n - i = d → i ≤ n → d + 1 ≤ mm →
    runLoop Tryd.prog HK Tryd.f39 0 [0, 2, 3, 4] m mm (mkFr [(0, .slice (some (p, 0)) n c), (2, .int .i64 0), (3, .int .i64 (cB (fun j => !bs.getD j false) i)), (4, .int .i64 i)]) M (afterLoop Tryd.prog HK Tryd.f39 0 m) =
      some (.int .i64 (cB (fun j => !bs.getD j false) n), M) := by
  intro d
  induction d with
  | zero =>
    intro i mm hd hi hmm
    obtain ⟨mm, rfl⟩ : ∃ k, mm = k + 1 := ⟨mm - 1, by omega⟩
    have hnl : decide ((i : Int) < (n : Int)) = false := by simp; omega
    rw [runLoop_succ, r7free_body, hnl, iF, onward_exit, r7free_end, show i = n by omega]
  | succ d ih =>
    intro i mm hd hi hmm
    obtain ⟨mm, rfl⟩ : ∃ k, mm = k + 1 := ⟨mm - 1, by omega⟩
    have hil : i < n := by omega
    have hr := ref_get (bs := bs) (i := i) (by rw [h.len]; exact hil)
    have hcl := cB_le (fun j => !bs.getD j false) i
    have hw1 : IntKind.i64.wrap ((i : Int) + 1) = ((i + 1 : Nat) : Int) := by rw [wrap_i64 (by omega) (by omega)]; rfl
    have hc1 : IntKind.i64.wrap ((cB (fun j => !bs.getD j false) i : Int) + 1) = ((cB (fun j => !bs.getD j false) i + 1 : Nat) : Int) := by rw [wrap_i64 (by omega) (by omega)]; rfl
    rw [runLoop_succ, r7free_body]
    simp only [dlt hil, iT, dnat, Bool.and_self, nT, bO, h.row, Nat.zero_add, Nat.mul_one, Int.toNat_natCast, hr, aB, hw1, hc1]
    have hstep : cB (fun j => !bs.getD j false) (i + 1) = cB (fun j => !bs.getD j false) i + (if (!bs.getD i false) = true then 1 else 0) := rfl
    have := ih (i + 1) mm (by omega) (by omega) (by omega)
    cases e : bs.getD i false with
    | true => rw [Bool.not_true, iF, onward_normal]; rw [hstep, e] at this; exact this
    | false => rw [Bool.not_false, iT, onward_normal]; rw [hstep, e] at this; exact this

theorem r7free_run {p n : Nat} {bs : List Bool} {c : Option Nat} (h : RefAt M p n bs) (hn : n ≤ 65536) (hm : n + 3 ≤ m) : call m 39 [.slice (some (p, 0)) n c] M = some (.int .i64 (cB (fun j => !bs.getD j false) n), M) := by
  obtain ⟨k, rfl⟩ : ∃ k, m = k + 1 := ⟨m - 1, by omega⟩
  rw [call, acall_run Tryd.func39 (hk (by decide)), r7free_eq]
  exact r7free_loop h hn (m := k) (by omega) n 0 k rfl (by omega) (by omega)

abbrev g7Fr (p n : Nat) (qc : Option Nat) (k : Nat) (u : Option (Nat × Nat)) (ul : Nat) (uc : Option Nat) (w : Nat) : Fr :=
  mkFr [(0, .slice (some (p, 0)) n qc), (1, .int .i64 k), (4, .slice none 0 (some 0)), (5, .slice none 0 (some 0)), (6, .int .i64 0), (7, .slice u ul uc), (8, .int .i64 w)]

theorem r7grab_loop (k n b0 : Nat) (hn : n ≤ 65536) (hk0 : k ≤ 65536) (hm : 1 ≤ m) : ∀ (d w mm : Nat) {M : AMem} {p : Nat} {bs : List Bool} {qc : Option Nat} {u : Option (Nat × Nat)} {uc : Option Nat} {got : List Nat}, RefAt M p n bs → p < M.next → b0 ≤ M.next → n - w = d → w ≤ n → d + 1 ≤ mm →
    Gr M u got.length uc (got.map uA) → (∀ b, u = some (b, 0) → b0 ≤ b ∧ b < M.next ∧ b ≠ p) → got.length ≤ k →
    ∃ (M' : AMem) (p' : Nat) (bs' : List Bool) (qc' : Option Nat) (u' : Option (Nat × Nat)) (ul' : Nat) (uc' : Option Nat), runLoop Tryd.prog HK Tryd.f32 0 [0, 1, 4, 5, 6, 7, 8] m mm (g7Fr p n qc k u got.length uc w) M (afterLoop Tryd.prog HK Tryd.f32 0 m) = some (.tup [.slice (some (p', 0)) n qc', .slice u' ul' uc', .int .i64 0], M') ∧
      RefAt M' p' n bs' ∧ p' < M'.next ∧ (p' = p ∨ b0 ≤ p') ∧ Gr M' u' ul' uc' ((got ++ (placesP (fun j => !bs.getD j false) n w).take (k - got.length)).map uA) ∧ (∀ b, u' = some (b, 0) → b0 ≤ b ∧ b < M'.next ∧ b ≠ p') ∧
      (∀ i, bs'.getD i false = (decide (i ∈ (placesP (fun j => !bs.getD j false) n w).take (k - got.length)) || bs.getD i false)) ∧ (∀ q, q < b0 → M'.get q = M.get q) ∧ b0 ≤ M'.next := by
  intro d
  induction d with
  | zero =>
    intro w mm M p bs qc u uc got h hp hb0 hd hw hmm hg hu hk1
    obtain ⟨mm, rfl⟩ : ∃ k, mm = k + 1 := ⟨mm - 1, by omega⟩
    refine ⟨M, p, bs, qc, u, got.length, uc, ?_, h, hp, .inl rfl, by rw [placesP_nil _ (by omega)]; simpa using hg, hu, fun i => by rw [placesP_nil _ (by omega)]; simp, fun _ _ => rfl, hb0⟩
    have hnl : decide ((w : Int) < (n : Int)) = false := by simp; omega
    rw [runLoop_succ, g7Fr, r7grab_body, hnl]
    simp only [ft, iF, onward_exit, r7grab_end]
  | succ d ih =>
    intro w mm M p bs qc u uc got h hp hb0 hd hw hmm hg hu hk1
    obtain ⟨mm, rfl⟩ : ∃ k, mm = k + 1 := ⟨mm - 1, by omega⟩
    have hwl : w < n := by omega
    by_cases hfull : got.length < k
    · have hkk : decide (((got.length : Nat) : Int) < (k : Int)) = true := by simp; omega
      have hr := ref_get (bs := bs) (i := w) (by rw [h.len]; exact hwl)
      have hw1 : IntKind.i64.wrap ((w : Int) + 1) = ((w + 1 : Nat) : Int) := by rw [wrap_i64 (by omega) (by omega)]; rfl
      have hstep := placesP_step (fun j => !bs.getD j false) hwl
      cases hbw : bs.getD w false with
      | true =>
        rw [hbw] at hstep
        simp only [Bool.not_true, Bool.false_eq_true, if_false, List.nil_append] at hstep
        rw [hstep]
        obtain ⟨M', p', bs', qc', u', ul', uc', er, r1, r2, r3, r4, r5, r6, r7, r8⟩ := ih (w + 1) mm (qc := qc) h hp hb0 (by omega) (by omega) (by omega) hg hu hk1
        refine ⟨M', p', bs', qc', u', ul', uc', ?_, r1, r2, r3, r4, r5, r6, r7, r8⟩
        rw [runLoop_succ, g7Fr, r7grab_body]
        rw [hbw] at hr
        simp only [dlt hwl, hkk, tt, iT, cond_true, dnat, Bool.and_self, nT, bO, h.row, Nat.zero_add, Nat.mul_one, Int.toNat_natCast, hr, aB, Bool.not_true, iF, hw1, onward_normal]
        exact er
      | false =>
        rw [hbw] at hstep
        simp only [Bool.not_false, if_true, List.singleton_append] at hstep
        obtain ⟨M1, e1, h1, n1, f1⟩ := r7with_run (c := qc) h hp hn hwl true (m := m) hm
        have hg1 : Gr M1 u got.length uc (got.map uA) := hg.of (by omega) (fun b hb hlt => f1 b hlt)
        obtain ⟨M2, e2, g2, n2, f2⟩ := gr_u32 (x := w) hg1 (by omega)
        have h2 : RefAt M2 (M.next + 1) n (bs.set w true) := by
          obtain ⟨sz, cl, hh⟩ := h1.get
          exact ⟨⟨sz, cl, by rw [f2 _ (by omega) (fun b hb => by have := hu b hb; omega)]; exact hh⟩, h1.len⟩
        have hsd : ∀ j, (bs.set w true).getD j false = (decide (j = w) || bs.getD j false) := fun j => by
          rw [getD_set (by rw [h.len]; exact hwl)]; by_cases e : j = w <;> simp [e]
        have hpl : placesP (fun j => !(bs.set w true).getD j false) n (w + 1) = placesP (fun j => !bs.getD j false) n (w + 1) :=
          placesP_ext fun j h1 h2 => by simp only [hsd]; rw [decide_eq_false (by omega)]; rfl
        have hlen : (got ++ [w]).length = got.length + 1 := by simp
        obtain ⟨M', p', bs', qc', u', ul', uc', er, r1, r2, r3, r4, r5, r6, r7, r8⟩ := ih (w + 1) mm (M := M2) (p := M.next + 1) (bs := bs.set w true) (qc := none) (u := some (M1.next + 1, 0)) (uc := none) (got := got ++ [w]) h2 (by omega) (by omega) (by omega) (by omega) (by omega) (by rw [hlen]; exact g2) (fun b hb => by cases hb; omega) (by omega)
        rw [hpl, hlen] at r4 r6
        have hk2 : k - got.length = (k - (got.length + 1)) + 1 := by omega
        refine ⟨M', p', bs', qc', u', ul', uc', ?_, r1, r2, .inr (by omega), ?_, r5, fun i => ?_, fun q hq => ?_, r8⟩
        · rw [runLoop_succ, g7Fr, r7grab_body]
          rw [hbw] at hr
          have hb1 := h1
          simp only [dlt hwl, hkk, tt, iT, cond_true, dnat, Bool.and_self, nT, bO, h.row, Nat.zero_add, Nat.mul_one, Int.toNat_natCast, hr, aB, Bool.not_false, e1, aL, u32_wrap (show w < 4294967296 by omega), e2, hw1, onward_normal]
          rw [hlen] at er
          exact er
        · rw [hstep, hk2, List.take_succ_cons, show got ++ w :: (placesP (fun j => !bs.getD j false) n (w + 1)).take (k - (got.length + 1)) = (got ++ [w]) ++ (placesP (fun j => !bs.getD j false) n (w + 1)).take (k - (got.length + 1)) by simp]
          exact r4
        · rw [hstep, hk2, List.take_succ_cons, r6, hsd]
          by_cases e : i = w
          · simp [e]
          · simp [e]
        · rw [r7 q hq, f2 q (by omega) (fun b hb => by have := hu b hb; omega), f1 q (by omega)]
    · have hkk : decide (((got.length : Nat) : Int) < (k : Int)) = false := by simp; omega
      have hz : k - got.length = 0 := by omega
      refine ⟨M, p, bs, qc, u, got.length, uc, ?_, h, hp, .inl rfl, by rw [hz]; simpa using hg, hu, fun i => by rw [hz]; simp, fun _ _ => rfl, hb0⟩
      rw [runLoop_succ, g7Fr, r7grab_body]
      simp only [dlt hwl, hkk, tt, cond_true, iT, iF, onward_exit, r7grab_end]

theorem r7grab_neg {p n : Nat} {qc : Option Nat} {s : Option (Nat × Nat)} {k : Int} (hk0 : k < 0) (hm : 1 ≤ m) : call m 32 [.slice s n qc, .int .i64 k] M = some (.tup [.slice s n qc, .slice none 0 (some 0), .int .i64 2], M) := by
  obtain ⟨f, rfl⟩ : ∃ k, m = k + 1 := ⟨m - 1, by omega⟩
  rw [call, acall_run Tryd.func32 (hk (by decide)), r7grab_eq]
  simp only [decide_eq_true hk0, iT]

theorem r7grab_full {p n : Nat} {bs : List Bool} {qc : Option Nat} (h : RefAt M p n bs) (hn : n ≤ 65536) {k : Int} (hk0 : (cB (fun j => !bs.getD j false) n : Int) < k) (hm : n + 4 ≤ m) : call m 32 [.slice (some (p, 0)) n qc, .int .i64 k] M = some (.tup [.slice (some (p, 0)) n qc, .slice none 0 (some 0), .int .i64 11], M) := by
  obtain ⟨f, rfl⟩ : ∃ k, m = k + 1 := ⟨m - 1, by omega⟩
  have h1 := r7free_run (c := qc) h hn (m := f) (by omega)
  rw [call, acall_run Tryd.func32 (hk (by decide)), r7grab_eq]
  simp only [decide_eq_false (show ¬ k < 0 by omega), iF, h1, bO, aI, decide_eq_true (show k > (cB (fun j => !bs.getD j false) n : Int) by omega), iT]

theorem r7grab_ok {p n : Nat} {bs : List Bool} {qc : Option Nat} (h : RefAt M p n bs) (hp : p < M.next) (hn : n ≤ 65536) {k : Nat} (hk0 : k ≤ cB (fun j => !bs.getD j false) n) (hm : n + 4 ≤ m) :
    ∃ (M' : AMem) (p' : Nat) (bs' : List Bool) (qc' : Option Nat) (u' : Option (Nat × Nat)) (ul' : Nat) (uc' : Option Nat), call m 32 [.slice (some (p, 0)) n qc, .int .i64 k] M = some (.tup [.slice (some (p', 0)) n qc', .slice u' ul' uc', .int .i64 0], M') ∧
      RefAt M' p' n bs' ∧ p' < M'.next ∧ (p' = p ∨ M.next ≤ p') ∧ Gr M' u' ul' uc' (((placesP (fun j => !bs.getD j false) n 0).take k).map uA) ∧ (∀ b, u' = some (b, 0) → M.next ≤ b ∧ b < M'.next ∧ b ≠ p') ∧
      (∀ i, bs'.getD i false = (decide (i ∈ (placesP (fun j => !bs.getD j false) n 0).take k) || bs.getD i false)) ∧ (∀ q, q < M.next → M'.get q = M.get q) ∧ M.next ≤ M'.next := by
  obtain ⟨f, rfl⟩ : ∃ k, m = k + 1 := ⟨m - 1, by omega⟩
  have h1 := r7free_run (c := qc) h hn (m := f) (by omega)
  have hcl := cB_le (fun j => !bs.getD j false) n
  have hold : ∀ q, q < M.next → (M.new (.cells [] 0 true)).get q = M.get q := fun q hq => by rw [AMem.get_new, if_neg (by omega)]
  have h' : RefAt (M.new (.cells [] 0 true)) p n bs := by
    obtain ⟨sz, cl, hh⟩ := h.get
    exact ⟨⟨sz, cl, by rw [hold p hp]; exact hh⟩, h.len⟩
  obtain ⟨M', p', bs', qc', u', ul', uc', er, r1, r2, r3, r4, r5, r6, r7, r8⟩ := r7grab_loop k n M.next (m := f) hn (by omega) (by omega) n 0 f (qc := qc) (u := some (M.next, 0)) (uc := some 0) (got := []) h' (by rw [AMem.next_new]; omega) (by rw [AMem.next_new]; omega) rfl (by omega) (by omega) ⟨rfl, .inl ⟨rfl, rfl⟩⟩ (fun b hb => by cases hb; rw [AMem.next_new]; omega) (by simp)
  simp only [List.length_nil, Nat.sub_zero, List.nil_append] at er r4 r6
  refine ⟨M', p', bs', qc', u', ul', uc', ?_, r1, r2, r3, r4, r5, r6, fun q hq => (r7 q hq).trans (hold q hq), r8⟩
  rw [call, acall_run Tryd.func32 (hk (by decide)), r7grab_eq]
  simp only [decide_eq_false (show ¬ (k : Int) < 0 by omega), iF, h1, bO, aI, decide_eq_false (show ¬ (k : Int) > (cB (fun j => !bs.getD j false) n : Int) by omega)]
  exact er

theorem wrap_u64 {x : Nat} (h : x < 18446744073709551616) : IntKind.u64.wrap (x : Int) = (x : Int) := by
  unfold IntKind.wrap
  simp only [IntKind.signed, IntKind.bits, Bool.false_and, Bool.false_eq_true, if_false]
  omega

theorem r7mark_run {p n : Nat} {bs : List Bool} {qc : Option Nat} (h : RefAt M p n bs) (hp : p < M.next) (hn : n ≤ 65536) {i : Nat} (hi : i < 4294967296) (hm : 2 ≤ m) :
    ∃ (M' : AMem) (p' : Nat) (bs' : List Bool) (qc' : Option Nat), call m 34 [.slice (some (p, 0)) n qc, .int .u32 i] M = some (.tup [.slice (some (p', 0)) n qc', .int .i64 (if n ≤ i then 4 else if bs.getD i false = true then 10 else 0)], M') ∧
      RefAt M' p' n bs' ∧ p' < M'.next ∧ (p' = p ∨ M.next ≤ p') ∧ (∀ j, bs'.getD j false = ((decide (j = i) && decide (i < n)) || bs.getD j false)) ∧ (∀ q, q < M.next → M'.get q = M.get q) ∧ M.next ≤ M'.next := by
  obtain ⟨f, rfl⟩ : ∃ k, m = k + 1 := ⟨m - 1, by omega⟩
  have hw0 : IntKind.u64.wrap (i : Int) = (i : Int) := wrap_u64 (by omega)
  have hw2 : IntKind.u64.wrap (n : Int) = (n : Int) := wrap_u64 (by omega)
  by_cases hin : n ≤ i
  · refine ⟨M, p, bs, qc, ?_, h, hp, .inl rfl, fun j => by rw [decide_eq_false (show ¬ i < n by omega)]; simp, fun _ _ => rfl, Nat.le_refl _⟩
    rw [call, acall_run Tryd.func34 (hk (by decide)), r7mark_eq, hw0, hw2, decide_eq_true (show (i : Int) ≥ (n : Int) by omega), iT, if_pos hin]
  · have hil : i < n := by omega
    have hr := ref_get (bs := bs) (i := i) (by rw [h.len]; exact hil)
    cases hbw : bs.getD i false with
    | true =>
      rw [hbw] at hr
      refine ⟨M, p, bs, qc, ?_, h, hp, .inl rfl, fun j => ?_, fun _ _ => rfl, Nat.le_refl _⟩
      · rw [call, acall_run Tryd.func34 (hk (by decide)), r7mark_eq, hw0, hw2, decide_eq_false (show ¬ (i : Int) ≥ (n : Int) by omega), if_neg hin, if_pos rfl]
        simp only [iF, dnat, dlt hil, Bool.and_self, nT, bO, h.row, Nat.zero_add, Nat.mul_one, Int.toNat_natCast, hr, aB, iT]
      · by_cases e : j = i
        · subst e; rw [hbw]; simp
        · simp [e]
    | false =>
      rw [hbw] at hr
      obtain ⟨M1, e1, h1, n1, f1⟩ := r7with_run (c := qc) h hp hn hil true (m := f) (by omega)
      refine ⟨M1, M.next + 1, bs.set i true, none, ?_, h1, by omega, .inr (by omega), fun j => ?_, f1, by omega⟩
      · rw [call, acall_run Tryd.func34 (hk (by decide)), r7mark_eq, hw0, hw2, decide_eq_false (show ¬ (i : Int) ≥ (n : Int) by omega), if_neg hin, if_neg (by simp)]
        simp only [iF, dnat, dlt hil, Bool.and_self, nT, bO, h.row, Nat.zero_add, Nat.mul_one, Int.toNat_natCast, hr, aB, wrap_u32_i64 hi, e1, aL]
      · rw [getD_set (by rw [h.len]; exact hil)]; by_cases e : j = i <;> simp [e, hil]

theorem r7give_run {p n : Nat} {bs : List Bool} {qc : Option Nat} (h : RefAt M p n bs) (hp : p < M.next) (h0 : 0 < n) (hn : n ≤ 65536) {i : Nat} (hi : i < 4294967296) (hm : 2 ≤ m) :
    ∃ (M' : AMem) (p' : Nat) (bs' : List Bool) (qc' : Option Nat), call m 36 [.slice (some (p, 0)) n qc, .int .u32 i] M = some (.tup [.slice (some (p', 0)) n qc', .int .i64 (if i = 0 then 2 else if n ≤ i then 4 else if bs.getD i false = true then 0 else 9)], M') ∧
      RefAt M' p' n bs' ∧ p' < M'.next ∧ (p' = p ∨ M.next ≤ p') ∧ (∀ j, bs'.getD j false = (!(decide (j = i) && decide (0 < i)) && bs.getD j false)) ∧ (∀ q, q < M.next → M'.get q = M.get q) ∧ M.next ≤ M'.next := by
  obtain ⟨f, rfl⟩ : ∃ k, m = k + 1 := ⟨m - 1, by omega⟩
  have hw0 : IntKind.u64.wrap (i : Int) = (i : Int) := wrap_u64 (by omega)
  have hw2 : IntKind.u64.wrap (n : Int) = (n : Int) := wrap_u64 (by omega)
  by_cases hz : i = 0
  · subst hz
    refine ⟨M, p, bs, qc, ?_, h, hp, .inl rfl, fun j => by simp, fun _ _ => rfl, Nat.le_refl _⟩
    rw [call, acall_run Tryd.func36 (hk (by decide)), r7give_eq, hw0, hw2, decide_eq_false (show ¬ ((0 : Nat) : Int) ≥ (n : Int) by omega)]
    rfl
  have hz2 : ((i : Int) == 0) = false := by simp; omega
  rw [if_neg hz]
  by_cases hin : n ≤ i
  · refine ⟨M, p, bs, qc, ?_, h, hp, .inl rfl, fun j => ?_, fun _ _ => rfl, Nat.le_refl _⟩
    · rw [call, acall_run Tryd.func36 (hk (by decide)), r7give_eq, hw0, hw2, decide_eq_true (show (i : Int) ≥ (n : Int) by omega), iT, if_pos hin]
    · by_cases e : j = i
      · subst e; rw [List.getD_eq_getElem?_getD, List.getElem?_eq_none (by rw [h.len]; exact hin)]; simp
      · simp [e]
  · have hil : i < n := by omega
    have hr := ref_get (bs := bs) (i := i) (by rw [h.len]; exact hil)
    cases hbw : bs.getD i false with
    | false =>
      rw [hbw] at hr
      refine ⟨M, p, bs, qc, ?_, h, hp, .inl rfl, fun j => ?_, fun _ _ => rfl, Nat.le_refl _⟩
      · rw [call, acall_run Tryd.func36 (hk (by decide)), r7give_eq, hw0, hw2, decide_eq_false (show ¬ (i : Int) ≥ (n : Int) by omega), if_neg hin, if_neg (by simp), hz2]
        simp only [iF, dnat, dlt hil, Bool.and_self, nT, bO, h.row, Nat.zero_add, Nat.mul_one, Int.toNat_natCast, hr, aB, Bool.not_false, iT]
      · by_cases e : j = i
        · subst e; rw [hbw]; simp
        · simp [e]
    | true =>
      rw [hbw] at hr
      obtain ⟨M1, e1, h1, n1, f1⟩ := r7with_run (c := qc) h hp hn hil false (m := f) (by omega)
      refine ⟨M1, M.next + 1, bs.set i false, none, ?_, h1, by omega, .inr (by omega), fun j => ?_, f1, by omega⟩
      · rw [call, acall_run Tryd.func36 (hk (by decide)), r7give_eq, hw0, hw2, decide_eq_false (show ¬ (i : Int) ≥ (n : Int) by omega), if_neg hin, if_pos rfl, hz2]
        simp only [iF, dnat, dlt hil, Bool.and_self, nT, bO, h.row, Nat.zero_add, Nat.mul_one, Int.toNat_natCast, hr, aB, Bool.not_true, wrap_u32_i64 hi, e1, aL]
      · rw [getD_set (by rw [h.len]; exact hil)]; by_cases e : j = i
        · simp [e]; omega
        · simp [e]

/-! ### rows -/
theorem r7row_loop (n b0 : Nat) (hn : n ≤ 65536) (hm : 1 ≤ m) {p : Nat} {bs : List Bool} {qc : Option Nat} (hpb : p < b0) : ∀ (d w mm : Nat) {M : AMem} {u : Option (Nat × Nat)} {uc : Option Nat} {got : List Nat}, RefAt M p n bs → b0 ≤ M.next → n - w = d → w ≤ n → d + 1 ≤ mm →
    Gr M u got.length uc (got.map uA) → (∀ b, u = some (b, 0) → b0 ≤ b) → got.length ≤ w →
    ∃ (M' : AMem) (u' : Option (Nat × Nat)) (ul' : Nat) (uc' : Option Nat), runLoop Tryd.prog HK Tryd.f38 0 [0, 2, 3, 4] m mm (mkFr [(0, .slice (some (p, 0)) n qc), (2, .slice none 0 (some 0)), (3, .slice u got.length uc), (4, .int .i64 w)]) M (afterLoop Tryd.prog HK Tryd.f38 0 m) = some (.slice u' ul' uc', M') ∧
      Gr M' u' ul' uc' ((got ++ placesP (fun j => bs.getD j false) n w).map uA) ∧ (∀ q, q < b0 → M'.get q = M.get q) ∧ b0 ≤ M'.next := by
  intro d
  induction d with
  | zero =>
    intro w mm M u uc got h hb0 hd hw hmm hg hu hgw
    obtain ⟨mm, rfl⟩ : ∃ k, mm = k + 1 := ⟨mm - 1, by omega⟩
    refine ⟨M, u, got.length, uc, ?_, by rw [placesP_nil _ (by omega)]; simpa using hg, fun _ _ => rfl, hb0⟩
    have hnl : decide ((w : Int) < (n : Int)) = false := by simp; omega
    rw [runLoop_succ, r7row_body, hnl, iF, onward_exit, r7row_end]
  | succ d ih =>
    intro w mm M u uc got h hb0 hd hw hmm hg hu hgw
    obtain ⟨mm, rfl⟩ : ∃ k, mm = k + 1 := ⟨mm - 1, by omega⟩
    have hwl : w < n := by omega
    have hr := ref_get (bs := bs) (i := w) (by rw [h.len]; exact hwl)
    have hw1 : IntKind.i64.wrap ((w : Int) + 1) = ((w + 1 : Nat) : Int) := by rw [wrap_i64 (by omega) (by omega)]; rfl
    have hstep := placesP_step (fun j => bs.getD j false) hwl
    cases hbw : bs.getD w false with
    | false =>
      rw [hbw] at hstep hr
      simp only [Bool.false_eq_true, if_false, List.nil_append] at hstep
      rw [hstep]
      obtain ⟨M', u', ul', uc', er, r1, r2, r3⟩ := ih (w + 1) mm h hb0 (by omega) (by omega) (by omega) hg hu (by omega)
      refine ⟨M', u', ul', uc', ?_, r1, r2, r3⟩
      rw [runLoop_succ, r7row_body]
      simp only [dlt hwl, iT, dnat, Bool.and_self, nT, bO, h.row, Nat.zero_add, Nat.mul_one, Int.toNat_natCast, hr, aB, iF, hw1, onward_normal]
      exact er
    | true =>
      rw [hbw] at hstep hr
      simp only [if_true, List.singleton_append] at hstep
      obtain ⟨M2, e2, g2, n2, f2⟩ := gr_u32 (x := w) hg (by omega)
      have hlen : (got ++ [w]).length = got.length + 1 := by simp
      have h2 : RefAt M2 p n bs := by
        obtain ⟨sz, cl, hh⟩ := h.get
        exact ⟨⟨sz, cl, by rw [f2 _ (by omega) (fun b hb => by have := hu b hb; omega)]; exact hh⟩, h.len⟩
      obtain ⟨M', u', ul', uc', er, r1, r2, r3⟩ := ih (w + 1) mm (M := M2) (u := some (M.next + 1, 0)) (uc := none) (got := got ++ [w]) h2 (by omega) (by omega) (by omega) (by omega) (by rw [hlen]; exact g2) (fun b hb => by cases hb; omega) (by omega)
      refine ⟨M', u', ul', uc', ?_, ?_, fun q hq => ?_, r3⟩
      · rw [runLoop_succ, r7row_body]
        simp only [dlt hwl, iT, dnat, Bool.and_self, nT, bO, h.row, Nat.zero_add, Nat.mul_one, Int.toNat_natCast, hr, aB, u32_wrap (show w < 4294967296 by omega), e2, hw1, onward_normal]
        rw [hlen] at er
        exact er
      · rw [hstep, show got ++ w :: placesP (fun j => bs.getD j false) n (w + 1) = (got ++ [w]) ++ placesP (fun j => bs.getD j false) n (w + 1) by simp]
        exact r1
      · rw [r2 q hq, f2 q (by omega) (fun b hb => by have := hu b hb; omega)]

theorem r7row_run {n p : Nat} {bs : List Bool} {qc : Option Nat} (h : RefAt M p n bs) (hp : p < M.next) (hn : n ≤ 65536) (hm : n + 3 ≤ m) :
    ∃ (M' : AMem) (u' : Option (Nat × Nat)) (ul' : Nat) (uc' : Option Nat), call m 38 [.slice (some (p, 0)) n qc] M = some (.slice u' ul' uc', M') ∧
      Gr M' u' ul' uc' ((placesP (fun j => bs.getD j false) n 0).map uA) ∧ (∀ q, q < M.next → M'.get q = M.get q) ∧ M.next ≤ M'.next := by
  obtain ⟨f, rfl⟩ : ∃ k, m = k + 1 := ⟨m - 1, by omega⟩
  have hold : ∀ q, q < M.next → (M.new (.cells [] 0 true)).get q = M.get q := fun q hq => by rw [AMem.get_new, if_neg (by omega)]
  have h' : RefAt (M.new (.cells [] 0 true)) p n bs := by
    obtain ⟨sz, cl, hh⟩ := h.get
    exact ⟨⟨sz, cl, by rw [hold p hp]; exact hh⟩, h.len⟩
  obtain ⟨M', u', ul', uc', er, r1, r2, r3⟩ := r7row_loop n M.next (m := f) hn (by omega) (qc := qc) hp n 0 f (u := some (M.next, 0)) (uc := some 0) (got := []) h' (by rw [AMem.next_new]; omega) rfl (by omega) (by omega) ⟨rfl, .inl ⟨rfl, rfl⟩⟩ (fun b hb => by cases hb; exact Nat.le_refl _) (by simp)
  refine ⟨M', u', ul', uc', ?_, r1, fun q hq => (r2 q hq).trans (hold q hq), r3⟩
  rw [call, acall_run Tryd.func38 (hk (by decide)), r7row_eq]
  exact er

theorem r7same_loop {u v : Option (Nat × Nat)} {uc vc : Option Nat} {xs : List Nat} (hu : Gr M u xs.length uc (xs.map uA)) (hv : Gr M v xs.length vc (xs.map uA)) (hl : xs.length ≤ 65536) : ∀ (d w mm : Nat), xs.length - w = d → w ≤ xs.length → d + 1 ≤ mm →
    runLoop Tryd.prog HK Tryd.f33 0 [0, 1, 4, 5] m mm (mkFr [(0, .slice u xs.length uc), (1, .slice v xs.length vc), (4, .bool false), (5, .int .i64 w)]) M (afterLoop Tryd.prog HK Tryd.f33 0 m) = some (.bool true, M) := by
  intro d
  induction d with
  | zero =>
    intro w mm hd hw hmm
    obtain ⟨mm, rfl⟩ : ∃ k, mm = k + 1 := ⟨mm - 1, by omega⟩
    have hnl : decide ((w : Int) < ((xs.length : Nat) : Int)) = false := by simp; omega
    rw [runLoop_succ, r7same_body, hnl, iF, onward_exit, r7same_end]
  | succ d ih =>
    intro w mm hd hw hmm
    obtain ⟨mm, rfl⟩ : ∃ k, mm = k + 1 := ⟨mm - 1, by omega⟩
    have hwl : w < xs.length := by omega
    obtain ⟨b1, e1, g1⟩ := hu.get hwl
    obtain ⟨b2, e2, g2⟩ := hv.get hwl
    have hx : (xs.map uA)[w]? = some (.int .u32 (xs[w] : Nat)) := by rw [List.getElem?_map, List.getElem?_eq_getElem hwl]; rfl
    have hw1 : IntKind.i64.wrap ((w : Int) + 1) = ((w + 1 : Nat) : Int) := by rw [wrap_i64 (by omega) (by omega)]; rfl
    have hne : (((xs[w] : Nat) : Int) != ((xs[w] : Nat) : Int)) = false := by simp
    have := ih (w + 1) mm (by omega) (by omega) (by omega)
    rw [runLoop_succ, r7same_body]
    simp only [dlt hwl, iT, dnat, Bool.and_self, nT, e1, e2, bO, aP, g1, g2, Nat.zero_add, Nat.mul_one, Int.toNat_natCast, hx, aI, beqA_bool, beqA_int, beqA_ptr, beqA_sl, hne, iF, hw1, onward_normal]
    rw [e1, e2] at this
    exact this

theorem r7same_run {u v : Option (Nat × Nat)} {ul vl : Nat} {uc vc : Option Nat} {xs : List Nat} (hu : Gr M u ul uc (xs.map uA)) (hv : Gr M v vl vc (xs.map uA)) (hl : xs.length ≤ 65536) (hm : xs.length + 3 ≤ m) :
    call m 33 [.slice u ul uc, .slice v vl vc] M = some (.bool true, M) := by
  obtain ⟨f, rfl⟩ : ∃ k, m = k + 1 := ⟨m - 1, by omega⟩
  have l1 := hu.len
  have l2 := hv.len
  rw [List.length_map] at l1 l2
  subst l1
  subst l2
  rw [call, acall_run Tryd.func33 (hk (by decide)), r7same_eq, show (((xs.length : Nat) : Int) != ((xs.length : Nat) : Int)) = false by simp, iF]
  exact r7same_loop hu hv hl xs.length 0 f rfl (by omega) (by omega)

/-! ### a pool's row -/
theorem prow_loop {a : Nat} {R : RowS} {cnt : Nat} {ws : List W64} (b0 : Nat) (hm : 1100 ≤ m) : ∀ (rest : List Nat) (mm : Nat) {M : AMem} {u : Option (Nat × Nat)} {uc : Option Nat} {got : List Nat} {f : Nat} {x : Int} {o : Bool}, PoolAt M a R cnt ws → placesP (bitAt ws) R.n f = rest → placeA rest.head? = .tup [.int .i64 x, .bool o] → b0 ≤ M.next → a < b0 → R.a < b0 → R.b < b0 → 0 < b0 →
    rest.length + 1 ≤ mm → got.length + rest.length ≤ 65536 →
    Gr M u got.length uc (got.map uA) → (∀ b, u = some (b, 0) → b0 ≤ b) →
    ∃ (M' : AMem) (u' : Option (Nat × Nat)) (ul' : Nat) (uc' : Option Nat), runLoop Tryd.prog HK Tryd.f37 0 [0, 2, 3, 4, 5] m mm (mkFr [(0, .ptr (some (a, 0))), (2, .slice none 0 (some 0)), (3, .slice u got.length uc), (4, .int .i64 x), (5, .bool o)]) M (afterLoop Tryd.prog HK Tryd.f37 0 m) = some (.slice u' ul' uc', M') ∧
      Gr M' u' ul' uc' ((got ++ rest).map uA) ∧ (∀ q, q < b0 → M'.get q = M.get q) ∧ b0 ≤ M'.next := by
  intro rest
  induction rest with
  | nil =>
    intro mm M u uc got f x o h hrest hx hb0 ha hra hrb hb hmm hgl hg hu
    obtain ⟨mm, rfl⟩ : ∃ k, mm = k + 1 := ⟨mm - 1, by omega⟩
    have ho : o = false := by
      simp only [List.head?_nil, placeA] at hx
      injection hx with hx
      injection hx with _ hx
      injection hx with hx _
      injection hx with hx
      exact hx.symm
    subst ho
    refine ⟨M, u, got.length, uc, ?_, by simpa using hg, fun _ _ => rfl, hb0⟩
    rw [runLoop_succ, prow_body, iF, onward_exit, prow_end]
  | cons v T ih =>
    intro mm M u uc got f x o h hrest hx hb0 ha hra hrb hb hmm hgl hg hu
    obtain ⟨mm, rfl⟩ : ∃ k, mm = k + 1 := ⟨mm - 1, by omega⟩
    rw [List.length_cons] at hmm hgl
    have hxo : x = (v : Int) ∧ o = true := by
      simp only [List.head?_cons, placeA] at hx
      injection hx with hx
      injection hx with h1 hx
      injection hx with h2 _
      injection h1 with _ h1
      injection h2 with h2
      exact ⟨h1.symm, h2.symm⟩
    obtain ⟨rfl, rfl⟩ := hxo
    have hv : v < R.n := (placesP_mem (show v ∈ placesP (bitAt ws) R.n f by rw [hrest]; exact List.mem_cons_self ..)).2.1
    have hle := R.le
    obtain ⟨M2, e2, g2, n2, f2⟩ := gr_u32 (x := v) hg (by omega)
    have hub : ∀ q, q < b0 → ∀ b, u = some (b, 0) → q ≠ b := fun q hq b hb => by have := hu b hb; omega
    have p2 : PoolAt M2 a R cnt ws := h.of (by omega) (f2 0 (by omega) (hub 0 hb)) (f2 a (by omega) (hub a ha)) (f2 R.a (by omega) (hub _ hra)) (f2 R.b (by omega) (hub _ hrb))
    have hT : placesP (bitAt ws) R.n (v + 1) = T := placesP_tail hrest
    have hnx := next_run p2.row ((v + 1 : Nat) : Int) (m := m) (by omega)
    rw [Int.toNat_natCast, firstP_head, hT] at hnx
    obtain ⟨x', o', hxo⟩ : ∃ x' o', placeA T.head? = .tup [.int .i64 x', .bool o'] := by cases T.head? <;> exact ⟨_, _, rfl⟩
    have hw1 : IntKind.i64.wrap ((v : Int) + 1) = ((v + 1 : Nat) : Int) := by rw [wrap_i64 (by omega) (by omega)]; rfl
    have hlen : (got ++ [v]).length = got.length + 1 := by simp
    obtain ⟨M', u', ul', uc', er, r1, r2, r3⟩ := ih mm (M := M2) (u := some (M.next + 1, 0)) (uc := none) (got := got ++ [v]) (f := v + 1) p2 hT hxo (by omega) ha hra hrb hb (by omega) (by omega) (by rw [hlen]; exact g2) (fun b hb => by cases hb; omega)
    refine ⟨M', u', ul', uc', ?_, ?_, fun q hq => ?_, r3⟩
    · rw [runLoop_succ, prow_body, iT]
      simp only [u32_wrap (show v < 4294967296 by omega), e2, bO, p2.cell, List.getElem?_cons_zero, aP, hw1, hnx, hxo, aT, aC, aI, aB, aN, onward_normal]
      rw [hlen] at er
      exact er
    · rw [show got ++ v :: T = (got ++ [v]) ++ T by simp]; exact r1
    · rw [r2 q hq, f2 q (by omega) (hub q hq)]

theorem prow_run {a : Nat} {R : RowS} {cnt : Nat} {ws : List W64} (h : PoolAt M a R cnt ws) (hm : 66000 ≤ m) :
    ∃ (M' : AMem) (u' : Option (Nat × Nat)) (ul' : Nat) (uc' : Option Nat), call m 37 [.ptr (some (a, 0))] M = some (.slice u' ul' uc', M') ∧
      Gr M' u' ul' uc' ((placesP (bitAt ws) R.n 0).map uA) ∧ (∀ q, q < M.next → M'.get q = M.get q) ∧ M.next ≤ M'.next := by
  obtain ⟨f, rfl⟩ : ∃ k, m = k + 1 := ⟨m - 1, by omega⟩
  have hle := R.le
  obtain ⟨l1, l2, l3⟩ := h.lt
  have h1 := pnone_run h (m := f) (by omega)
  have hnx := next_run h.row 0 (m := f) (by omega)
  rw [show (0 : Int).toNat = 0 from rfl, firstP_head] at hnx
  obtain ⟨x', o', hxo⟩ : ∃ x' o', placeA (placesP (bitAt ws) R.n 0).head? = .tup [.int .i64 x', .bool o'] := by cases (placesP (bitAt ws) R.n 0).head? <;> exact ⟨_, _, rfl⟩
  have hpl : (placesP (bitAt ws) R.n 0).length ≤ R.n := by rw [cB_places]; exact cB_le _ _
  obtain ⟨M', u', ul', uc', er, r1, r2, r3⟩ := prow_loop M.next (m := f) (by omega) _ f (u := none) (uc := some 0) (got := []) (f := 0) h rfl hxo (Nat.le_refl _) l1 l2 l3 (by omega) (by omega) (by simp; omega) ⟨rfl, .inl ⟨rfl, rfl⟩⟩ (fun b hb => by cases hb)
  refine ⟨M', u', ul', uc', ?_, r1, r2, r3⟩
  rw [call, acall_run Tryd.func37 (hk (by decide)), prow_eq]
  simp only [h1, bO, aB, iF, h.cell, List.getElem?_cons_zero, aP, hnx, hxo, aT, aC, aI, aN]
  exact er
end
end Go.Proofs.YtiecjbgefkelfaaDoor
