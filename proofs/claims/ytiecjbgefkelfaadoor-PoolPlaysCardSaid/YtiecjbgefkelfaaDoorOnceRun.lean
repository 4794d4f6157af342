/-
  'sluicegatelaw07.PoolOnce' answers true, told of the abstract memory.
-/
import Derived.Test.YtiecjbgefkelfaaDoorPoolRow
import Derived.Test.YtiecjbgefkelfaaDoorOnceEq
namespace Go.Proofs.YtiecjbgefkelfaaDoor
open Go.Ab
set_option linter.unusedVariables false
set_option linter.unusedSimpArgs false

theorem u53 : Tryd.prog.underlying 53 = some (.map 52 4) := by kernel_rfl
theorem u52 : Tryd.prog.underlying 52 = some (.int .u32) := by kernel_rfl

/-- the entries of a set of blocks -/
def setU (ks : List (Nat × Nat)) : List (AV × AV × Nat) := ks.map fun p => (.int .u32 p.1, .bool true, p.2)

theorem findU_in {j : Nat} : ∀ (ks : List (Nat × Nat)) (i0 : Nat), (ks.map (·.1)).Nodup → j ∈ ks.map (·.1) → ∃ (i : Nat) (ks' : List (Nat × Nat)), findA (.int .u32 j) (setU ks) i0 = some (some (i0 + i, .bool true)) ∧ eraseAt (setU ks) i = setU ks' ∧
    ks'.length + 1 = ks.length ∧ (ks'.map (·.1)).Nodup ∧ ∀ x, x ∈ ks'.map (·.1) ↔ x ∈ ks.map (·.1) ∧ x ≠ j := by
  intro ks
  induction ks with
  | nil => intro i0 _ h; simp at h
  | cons k ks ih =>
    intro i0 hnd h
    rw [List.map_cons, List.nodup_cons] at hnd
    show ∃ (i : Nat) (ks' : List (Nat × Nat)), findA (.int .u32 j) ((.int .u32 k.1, .bool true, k.2) :: setU ks) i0 = _ ∧ eraseAt ((.int .u32 k.1, .bool true, k.2) :: setU ks) i = _ ∧ _
    by_cases e : j = k.1
    · refine ⟨0, ks, ?_, rfl, rfl, hnd.2, fun x => ?_⟩
      · unfold findA; rw [keyEq_int, e]; simp
      · rw [List.map_cons, List.mem_cons]
        constructor
        · intro hx; exact ⟨.inr hx, fun he => hnd.1 (by rw [← e, ← he]; exact hx)⟩
        · rintro ⟨hx | hx, hne⟩
          · exact absurd (hx.trans e.symm) hne
          · exact hx
    · obtain ⟨i, ks', h1, h2, h3, h4, h5⟩ := ih (i0 + 1) hnd.2 (by simpa [e] using h)
      refine ⟨i + 1, k :: ks', ?_, ?_, by simp [h3], ?_, fun x => ?_⟩
      · unfold findA
        rw [keyEq_int, show ((j : Int) == (k.1 : Int)) = false by simp; omega]
        simp only [h1]
        rw [show i0 + 1 + i = i0 + (i + 1) by omega]
      · unfold eraseAt; rw [h2]; rfl
      · rw [List.map_cons, List.nodup_cons]
        exact ⟨fun hx => hnd.1 ((h5 _).1 hx).1, h4⟩
      · rw [List.map_cons, List.mem_cons, List.map_cons, List.mem_cons, h5]
        constructor
        · rintro (hx | ⟨hx, hne⟩)
          · exact ⟨.inl hx, fun he => e (he.symm.trans hx)⟩
          · exact ⟨.inr hx, hne⟩
        · rintro ⟨hx | hx, hne⟩
          · exact .inl hx
          · exact .inr ⟨hx, hne⟩

theorem findU_out {j : Nat} : ∀ (ks : List (Nat × Nat)) (i0 : Nat), j ∉ ks.map (·.1) → findA (.int .u32 j) (setU ks) i0 = some none := by
  intro ks
  induction ks with
  | nil => intro i0 _; rfl
  | cons k ks ih =>
    intro i0 h
    have h1 : ¬ j = k.1 := fun e => h (by simp [e])
    have h2 : j ∉ ks.map (·.1) := fun e => h (by rw [List.map_cons]; exact List.mem_cons_of_mem _ e)
    show findA (.int .u32 j) ((.int .u32 k.1, .bool true, k.2) :: setU ks) i0 = _
    unfold findA
    rw [keyEq_int, show ((j : Int) == (k.1 : Int)) = false by simp; omega]
    exact ih _ h2

section
variable {M : AMem} {a : Nat} {R : RowS} {cnt : Nat} {ws : List W64} {m : Nat} {mp clock : Nat} {ks : List (Nat × Nat)}

theorem lookU_in (h : M.get mp = some (.map (setU ks) clock)) (hn : (ks.map (·.1)).Nodup) {j : Nat} (hj : j ∈ ks.map (·.1)) : lookA Tryd.prog M 53 (some mp) (.int .u32 j) = some (some (.bool true)) := by
  unfold lookA
  simp only [u53, u52, keyKind, if_true, mapRow, h]
  obtain ⟨i, _, h1, _⟩ := findU_in ks 0 hn hj
  rw [h1]; rfl

theorem lookU_out (h : M.get mp = some (.map (setU ks) clock)) {j : Nat} (hj : j ∉ ks.map (·.1)) : lookA Tryd.prog M 53 (some mp) (.int .u32 j) = some none := by
  unfold lookA
  simp only [u53, u52, keyKind, if_true, mapRow, h]
  rw [findU_out ks 0 hj]; rfl

theorem updU_out (h : M.get mp = some (.map (setU ks) clock)) {j : Nat} (hj : j ∉ ks.map (·.1)) : mapUpdA Tryd.prog M 53 (some mp) (.int .u32 j) (.bool true) = some (M.set mp (.map (setU (ks ++ [(j, clock)])) (clock + 1))) := by
  unfold mapUpdA
  simp only [u53, u52, keyKind, if_true, h]
  rw [findU_out ks 0 hj]
  simp only [setU, List.map_append, List.map_cons, List.map_nil]

theorem delU_in (h : M.get mp = some (.map (setU ks) clock)) (hn : (ks.map (·.1)).Nodup) {j : Nat} (hj : j ∈ ks.map (·.1)) : ∃ ks' : List (Nat × Nat), mapDelA Tryd.prog M 53 (some mp) (.int .u32 j) = some (M.set mp (.map (setU ks') clock)) ∧
    ks'.length + 1 = ks.length ∧ (ks'.map (·.1)).Nodup ∧ ∀ x, x ∈ ks'.map (·.1) ↔ x ∈ ks.map (·.1) ∧ x ≠ j := by
  obtain ⟨i, ks', h1, h2, h3, h4, h5⟩ := findU_in ks 0 hn hj
  refine ⟨ks', ?_, h3, h4, h5⟩
  unfold mapDelA
  simp only [u53, u52, keyKind, if_true, h, h1, Nat.zero_add, h2]

/-- the acts that came in -/
def act3Cells (xs : List (Int × Int × Nat)) : List AV := xs.flatMap fun x => [.int .i64 x.1, .int .i64 x.2.1, .int .u32 x.2.2]

theorem act3_get : ∀ {xs : List (Int × Int × Nat)} {w : Nat}, w < xs.length → (act3Cells xs)[w * 3 + 0]? = some (.int .i64 (xs.getD w (0, 0, 0)).1) ∧ (act3Cells xs)[w * 3 + 1]? = some (.int .i64 (xs.getD w (0, 0, 0)).2.1) ∧ (act3Cells xs)[w * 3 + 2]? = some (.int .u32 (xs.getD w (0, 0, 0)).2.2)
  | [], w, h => absurd h (Nat.not_lt_zero _)
  | x :: xs, 0, _ => ⟨rfl, rfl, rfl⟩
  | x :: xs, w + 1, h => by
    have := act3_get (xs := xs) (w := w) (by simpa using h)
    have e : ∀ b, (w + 1) * 3 + b = (w * 3 + b) + 1 + 1 + 1 := fun b => by omega
    show (AV.int .i64 x.1 :: AV.int .i64 x.2.1 :: AV.int .u32 x.2.2 :: act3Cells xs)[_]? = _ ∧ (AV.int .i64 x.1 :: AV.int .i64 x.2.1 :: AV.int .u32 x.2.2 :: act3Cells xs)[_]? = _ ∧ (AV.int .i64 x.1 :: AV.int .i64 x.2.1 :: AV.int .u32 x.2.2 :: act3Cells xs)[_]? = _
    rw [e, e, e]
    simp only [List.getElem?_cons_succ]
    simpa using this

structure Act3In (M : AMem) (s : Option (Nat × Nat)) (l : Nat) (xs : List (Int × Int × Nat)) : Prop where
  len : xs.length = l
  small : ∀ x ∈ xs, x.2.2 < 4294967296
  at' : l = 0 ∨ (s = some (1, 0) ∧ M.get 1 = some (.ro (act3Cells xs)))

variable {s : Option (Nat × Nat)} {l : Nat} {c : Option Nat} {xs : List (Int × Int × Nat)}

theorem Act3In.of {M' : AMem} (h : Act3In M s l xs) (hk : M'.get 1 = M.get 1) : Act3In M' s l xs := ⟨h.len, h.small, by rw [hk]; exact h.at'⟩

theorem Act3In.gets (h : Act3In M s l xs) {w : Nat} (hw : w < l) : s = some (1, 0) ∧ M.row 1 = some (act3Cells xs) ∧ (act3Cells xs)[w * 3 + 0]? = some (.int .i64 (xs.getD w (0, 0, 0)).1) ∧ (act3Cells xs)[w * 3 + 1]? = some (.int .i64 (xs.getD w (0, 0, 0)).2.1) ∧
    (act3Cells xs)[w * 3 + 2]? = some (.int .u32 (xs.getD w (0, 0, 0)).2.2) ∧ (xs.getD w (0, 0, 0)).2.2 < 4294967296 := by
  rcases h.at' with h0 | ⟨h1, h2⟩
  · omega
  · have hl : w < xs.length := by rw [h.len]; exact hw
    obtain ⟨g1, g2, g3⟩ := act3_get hl
    refine ⟨h1, row_ro h2, g1, g2, g3, h.small _ ?_⟩
    rw [List.getD_eq_getElem?_getD, List.getElem?_eq_getElem hl]
    exact List.getElem_mem _

/-- what holds between the rounds; 'todo' is what is given out already and not yet noted -/
structure InvO (M : AMem) (a : Nat) (R : RowS) (mp : Nat) (s : Option (Nat × Nat)) (l : Nat) (xs : List (Int × Int × Nat)) (cnt : Nat) (ws : List W64) (ks : List (Nat × Nat)) (todo : List Nat) : Prop where
  pool : PoolAt M a R cnt ws
  map : ∃ clock, M.get mp = some (.map (setU ks) clock)
  sl : Act3In M s l xs
  nodup : (ks.map (·.1) ++ todo).Nodup
  iff : ∀ j, bitAt ws j = true ↔ j ∈ ks.map (·.1) ∨ j ∈ todo
  klen : ks.length + todo.length = cnt
  big : 2 ≤ mp ∧ mp ≠ a ∧ mp ≠ R.a ∧ mp ≠ R.b ∧ mp < M.next
  small : R.n < 4294967296

abbrev fo0 (i : Int) (n : Nat) (s : Option (Nat × Nat)) (l : Nat) (c : Option Nat) (a mp w : Nat) : Fr :=
  mkFr [(0, .int .u8 i), (1, .slice s l c), (4, .bool false), (5, .int .i64 n), (6, .ptr (some (a, 0))), (7, .int .i64 0), (8, .map (some mp)), (9, .int .i64 w)]

abbrev foS (i : Int) (n : Nat) (s : Option (Nat × Nat)) (l : Nat) (c : Option Nat) (a mp w : Nat) (g : Option (Nat × Nat)) (gl : Nat) (gc : Option Nat) (kd : Int) : Fr :=
  mkFr [(0, .int .u8 i), (1, .slice s l c), (4, .bool false), (5, .int .i64 n), (6, .ptr (some (a, 0))), (7, .int .i64 0), (8, .map (some mp)), (9, .int .i64 w), (10, .slice g gl gc), (47, .int .i64 kd)]

abbrev fo1 (i : Int) (n : Nat) (s : Option (Nat × Nat)) (l : Nat) (c : Option Nat) (a mp w : Nat) (g : Option (Nat × Nat)) (gl : Nat) (gc : Option Nat) (x : Nat) (kd : Int) : Fr :=
  mkFr [(0, .int .u8 i), (1, .slice s l c), (4, .bool false), (5, .int .i64 n), (6, .ptr (some (a, 0))), (7, .int .i64 0), (8, .map (some mp)), (9, .int .i64 w), (10, .slice g gl gc), (15, .int .i64 x), (47, .int .i64 kd)]

theorem Grown.get {u : Option (Nat × Nat)} {l : Nat} {c : Option Nat} {vs : List AV} (h : Grown M u l c vs) {x : Nat} (hx : x < l) : ∃ b, u = some (b, 0) ∧ M.row b = some vs := by
  rcases h.is with ⟨_, h0, _⟩ | ⟨b, cl, h1, _, _, _, h2⟩
  · omega
  · exact ⟨b, h1, row_cells h2⟩

/-- what was given out is noted -/
theorem once1_loop (i : Int) (w : Nat) (g : Option (Nat × Nat)) (gl : Nat) (hgl : gl ≤ 65536) (gc : Option Nat) (kd : Int) (hm : 70000 ≤ m) (K : AExit → Fr → AMem → Option (AV × AMem)) : ∀ (todo done : List Nat) (mm : Nat) {M : AMem} {ks : List (Nat × Nat)}, InvO M a R mp s l xs cnt ws ks todo →
    Grown M g gl gc ((done ++ todo).map uA) → (∀ b, g = some (b, 0) → b ≠ mp) → todo.length + 1 ≤ mm →
    ∃ (M' : AMem) (ks' : List (Nat × Nat)) (x' : Nat), runLoop Tryd.prog HK Tryd.f5 1 [0, 1, 4, 5, 6, 7, 8, 9, 10, 15, 47] m mm (fo1 i R.n s l c a mp w g gl gc done.length kd) M K = K (.exit 3) (fo1 i R.n s l c a mp w g gl gc x' kd) M' ∧ InvO M' a R mp s l xs cnt ws ks' [] := by
  intro todo
  induction todo with
  | nil =>
    intro done mm M ks h hg hb hmm
    obtain ⟨mm, rfl⟩ : ∃ k, mm = k + 1 := ⟨mm - 1, by omega⟩
    refine ⟨M, ks, done.length, ?_, h⟩
    have hlen := hg.len
    rw [List.append_nil, List.length_map] at hlen
    rw [runLoop_succ, fo1, once1_body, decide_eq_false (show ¬ (done.length : Int) < (gl : Int) by omega), iF, onward_exit]
  | cons v todo ih =>
    intro done mm M ks h hg hb hmm
    obtain ⟨mm, rfl⟩ : ∃ k, mm = k + 1 := ⟨mm - 1, by omega⟩
    have hle := R.le
    have hlen := hg.len
    rw [List.length_map, List.length_append, List.length_cons] at hlen
    have hx : done.length < gl := by omega
    obtain ⟨b, hgb, hrow⟩ := hg.get hx
    have hget : ((done ++ v :: todo).map uA)[done.length]? = some (.int .u32 v) := by
      rw [List.getElem?_map, List.getElem?_append_right (Nat.le_refl _)]; simp
    obtain ⟨clock, hmap⟩ := h.map
    have hvt : bitAt ws v = true := (h.iff v).2 (.inr (List.mem_cons_self ..))
    have hvn : v < R.n := by
      rcases Nat.lt_or_ge v R.n with q | q
      · exact q
      · have := h.pool.row.top v q; rw [this] at hvt; cases hvt
    have hnd := List.nodup_append.1 h.nodup
    have hout : v ∉ ks.map (·.1) := fun e => hnd.2.2 v e v (List.mem_cons_self ..) rfl
    have e1 := lookU_out hmap hout
    have e2 := updU_out hmap hout
    have hsz : decide ((v : Int) ≥ IntKind.u32.wrap (R.n : Int)) = false := by rw [u32_wrap h.small]; simp; omega
    have hw1 : IntKind.i64.wrap ((done.length : Int) + 1) = (((done ++ [v]).length : Nat) : Int) := by rw [wrap_i64 (by omega) (by omega)]; simp
    obtain ⟨b1, b2, b3, b4, b5⟩ := h.big
    have hf : ∀ q, q ≠ mp → (M.set mp (.map (setU (ks ++ [(v, clock)])) (clock + 1))).get q = M.get q := fun q hq => by rw [AMem.get_set, if_neg hq]
    have inv : InvO (M.set mp (.map (setU (ks ++ [(v, clock)])) (clock + 1))) a R mp s l xs cnt ws (ks ++ [(v, clock)]) todo := by
      refine ⟨h.pool.of (Nat.le_refl _) (hf 0 (by omega)) (hf _ (Ne.symm b2)) (hf _ (Ne.symm b3)) (hf _ (Ne.symm b4)), ⟨clock + 1, by rw [AMem.get_set, if_pos rfl]⟩, h.sl.of (hf 1 (by omega)), ?_, fun j => ?_, ?_, ⟨b1, b2, b3, b4, b5⟩, h.small⟩
      · have := h.nodup
        simpa using this
      · rw [h.iff]; simp [or_assoc]
      · have := h.klen; simp at this ⊢; omega
    have hgb' : b ≠ mp := hb b hgb
    have hg' : Grown (M.set mp (.map (setU (ks ++ [(v, clock)])) (clock + 1))) g gl gc (((done ++ [v]) ++ todo).map uA) := by
      rw [List.append_assoc, List.singleton_append]
      refine ⟨hg.len, ?_⟩
      rcases hg.is with hh | ⟨b', cl, h1, h2, h3, h4, h5⟩
      · exact .inl hh
      · exact .inr ⟨b', cl, h1, h2, h3, h4, by rw [hf b' (hb b' h1)]; exact h5⟩
    obtain ⟨M', ks', x', er, hi⟩ := ih (done ++ [v]) mm inv hg' hb (by simp at hmm; omega)
    refine ⟨M', ks', x', ?_, hi⟩
    rw [runLoop_succ, fo1, once1_body]
    simp only [dlt hx, iT, dnat, Bool.and_self, nT, hgb, bO, hrow, Nat.zero_add, Nat.mul_one, Int.toNat_natCast, hget, aI, e1, eN, hsz, iF, e2, hw1, onward_normal]
    rw [hgb] at er
    exact er

/-- a round's end -/
theorem once_check (i : Int) {w : Nat} (hw : w < 100) (g : Option (Nat × Nat)) (gl : Nat) (gc : Option Nat) (x : Nat) (kd : Int) (h : InvO M a R mp s l xs cnt ws ks []) (hm : 70000 ≤ m) (k : AExit → Fr → AMem → Option (AV × AMem)) :
    afterIn Tryd.prog HK Tryd.f5 0 0 m [0, 1, 4, 5, 6, 7, 8, 9] k (.exit 3) (fo1 i R.n s l c a mp w g gl gc x kd) M = k .normal (fo0 i R.n s l c a mp (w + 1)) M := by
  have hle := R.le
  have hcl := h.pool.le
  have h1 := held_run h.pool (m := m) (by omega)
  have h2 := pfree_run h.pool (m := m) (by omega)
  obtain ⟨clock, hmap⟩ := h.map
  have hr : mapRow M (some mp) = some (setU ks) := by unfold mapRow; simp [hmap]
  have hlen : (setU ks).length = cnt := by have := h.klen; simp [setU] at this ⊢; omega
  have hne : ((cnt : Int) != (((setU ks).length : Nat) : Int)) = false := by rw [hlen]; simp
  have hsum : IntKind.i64.wrap (((R.n - cnt : Nat) : Int) + (cnt : Int)) = (R.n : Int) := by rw [wrap_i64 (by omega) (by omega)]; omega
  have hnn : ((R.n : Int) != (R.n : Int)) = false := by simp
  have hw1 : IntKind.i64.wrap ((w : Int) + 1) = ((w + 1 : Nat) : Int) := by rw [wrap_i64 (by omega) (by omega)]; rfl
  rw [fo1, once1_end]
  simp only [h1, bO, aI, hr, hne, ff, iT, h2, cond_false, hsum, hnn, iF, hw1]

/-- what the switch leaves -/
abbrev OnOk (m : Nat) (i : Int) (a : Nat) (R : RowS) (mp : Nat) (s : Option (Nat × Nat)) (l : Nat) (c : Option Nat) (xs : List (Int × Int × Nat)) (w : Nat) (kd : Int) (k : AExit → Fr → AMem → Option (AV × AMem)) (r : Option (AV × AMem)) : Prop :=
  ∃ (M' : AMem) (cnt' : Nat) (ws' : List W64) (ks' : List (Nat × Nat)) (todo : List Nat) (g : Option (Nat × Nat)) (gl : Nat) (gc : Option Nat),
    InvO M' a R mp s l xs cnt' ws' ks' todo ∧ Grown M' g gl gc (todo.map uA) ∧ (∀ b, g = some (b, 0) → b ≠ mp) ∧ r = k .normal (foS i R.n s l c a mp w g gl gc kd) M'

theorem grown_nil : Grown M none 0 (some 0) (([] : List Nat).map uA) := ⟨rfl, .inl ⟨rfl, rfl, rfl⟩⟩

/-- behind a Take that gives x, or a Grab that gives some -/
theorem InvO.given (h : InvO M a R mp s l xs cnt ws ks []) {M' : AMem} {cnt' : Nat} {ws' : List W64} {got : List Nat} (hp : PoolAt M' a R cnt' ws') (hc : cnt' = cnt + got.length) (hb : ∀ i, bitAt ws' i = (decide (i ∈ got) || bitAt ws i))
    (hnd : got.Nodup) (hfree : ∀ x ∈ got, bitAt ws x = false) (hf : ∀ q, q < M.next → q ≠ R.a → q ≠ R.b → M'.get q = M.get q) (hn : M.next ≤ M'.next) : InvO M' a R mp s l xs cnt' ws' ks got := by
  obtain ⟨b1, b2, b3, b4, b5⟩ := h.big
  obtain ⟨p1, p2, p3, p4, p5⟩ := h.pool.big
  obtain ⟨clock, hmap⟩ := h.map
  have hnd0 : (ks.map (·.1)).Nodup := by have := h.nodup; simpa using this
  refine ⟨hp, ⟨clock, by rw [hf mp b5 b3 b4]; exact hmap⟩, h.sl.of (hf 1 (by omega) (by omega) (by omega)), ?_, fun j => ?_, ?_, ⟨b1, b2, b3, b4, by omega⟩, h.small⟩
  · rw [List.nodup_append]
    refine ⟨hnd0, hnd, fun x hx y hy e => ?_⟩
    subst e
    have h1 := (h.iff x).2 (.inl hx)
    rw [hfree x hy] at h1; cases h1
  · rw [hb, Bool.or_eq_true, decide_eq_true_eq, h.iff]
    simp [or_comm]
  · have := h.klen; simp at this; omega

theorem take_free (h : PoolAt M a R cnt ws) (k : Nat) : ((placesP (fun j => !bitAt ws j) R.n 0).take k).Nodup ∧ ∀ x ∈ (placesP (fun j => !bitAt ws j) R.n 0).take k, bitAt ws x = false := by
  refine ⟨List.Nodup.sublist (List.take_sublist _ _) (List.Pairwise.filter _ List.nodup_range), fun x hx => ?_⟩
  have := List.mem_of_mem_take hx
  unfold placesP at this
  simp at this
  exact this.2

theorem Grown.ne_map {u : Option (Nat × Nat)} {l : Nat} {c : Option Nat} {vs : List AV} {es : List (AV × AV × Nat)} (h : Grown M u l c vs) (hm : M.get mp = some (.map es clock)) : ∀ b, u = some (b, 0) → b ≠ mp := by
  intro b hb e
  subst e
  rcases h.is with ⟨h0, _, _⟩ | ⟨b', cl, h1, _, _, _, h2⟩
  · rw [h0] at hb; cases hb
  · rw [h1] at hb; cases hb; rw [h2] at hm; cases hm

theorem once_sw (h : InvO M a R mp s l xs cnt ws ks []) (i : Int) {w : Nat} (hw : w < l) (kd : Int) (hkd : (xs.getD w (0, 0, 0)).1 = kd) (hm : 70001 ≤ m) (j36 j37 j39 j40 j45 j46 : AV) (k : AExit → Fr → AMem → Option (AV × AMem)) :
    OnOk m i a R mp s l c xs w kd k (runBlk Tryd.prog HK Tryd.f5 0 2 m (mkFr [(0, .int .u8 i), (1, .slice s l c), (4, .bool false), (5, .int .i64 R.n), (6, .ptr (some (a, 0))), (7, .int .i64 0), (8, .map (some mp)), (9, .int .i64 w), (10, .slice none 0 (some 0)), (33, .int .i64 w), (34, .slice s l c), (35, .int .i64 l), (36, j36), (37, j37), (38, .int .i64 w), (39, j39), (40, j40), (43, .slice s l c), (44, .int .i64 w), (45, j45), (46, j46), (47, .int .i64 kd)]) M k) := by
  obtain ⟨g1, g2, g3, g4, g5, g6⟩ := h.sl.gets hw
  have hle := R.le
  have hlen : (placesP (fun j => !bitAt ws j) R.n 0).length = R.n - cnt := by
    rw [cB_places, h.pool.num]; have := cB_not (bitAt ws) R.n; omega
  have stay : InvO M a R mp s l xs cnt ws ks [] ∧ Grown M none 0 (some 0) (([] : List Nat).map uA) ∧ (∀ b, (none : Option (Nat × Nat)) = some (b, 0) → b ≠ mp) := ⟨h, grown_nil, fun b hb => by cases hb⟩
  rw [once_switch]
  by_cases k013 : kd = 0 ∨ kd = 1 ∨ kd = 3
  · by_cases hfull : R.n = cnt
    · have e := take_full h.pool hfull (m := m) (by omega)
      refine ⟨M, cnt, ws, ks, [], none, 0, some 0, stay.1, stay.2.1, stay.2.2, ?_⟩
      have e11 : ((11 : Int) == 0) = false := rfl
      rcases k013 with rfl | rfl | rfl
      · simp only [show ((0 : Int) == 0) = true from rfl, iT, e, bO, aT, aC, aI, aN, e11, iF]
      · simp only [show ((1 : Int) == 0) = false from rfl, show ((1 : Int) == 1) = true from rfl, iT, e, bO, aT, aC, aI, aN, e11, iF]
      · simp only [show ((3 : Int) == 0) = false from rfl, show ((3 : Int) == 1) = false from rfl, show ((3 : Int) == 3) = true from rfl, iT, e, bO, aT, aC, aI, aN, e11, iF]
    · have hcl := h.pool.le
      obtain ⟨M1, ws', x, e, hp, hx, hb, hf, hn⟩ := take_ok h.pool (by omega) (m := m) (by omega)
      obtain ⟨M2, ea, hg, hn2, hf2⟩ := append_one (e := 52) u54 (show Tryd.prog.info? 52 = some _ from rfl) (show zeroA Tryd.prog 52 = some (.int .u32 0) by kernel_rfl) rfl (by kernel_rfl) (by decide) (M := M1) (u := none) (l := 0) (c := some 0) (xs := []) ⟨rfl, .inl ⟨rfl, rfl, rfl⟩⟩ (by omega) (v := uA x) rfl
      obtain ⟨t1, t2⟩ := take_free h.pool 1
      rw [hx] at t1 t2
      obtain ⟨p1, p2, p3⟩ := hp.lt
      obtain ⟨r1, r2, r3, r4, r5⟩ := hp.big
      have hf2' : ∀ q, q < M1.next → M2.get q = M1.get q := fun q hq => hf2 q hq (fun b hb => by cases hb)
      have hp2 : PoolAt M2 a R (cnt + 1) ws' := hp.of (by omega) (hf2' 0 (by omega)) (hf2' a p1) (hf2' _ p2) (hf2' _ p3)
      have inv := h.given hp2 (got := [x]) rfl (fun i => by rw [hb]; simp) t1 t2 (fun q hq h1 h2 => (hf2' q (by omega)).trans (hf q hq h1 h2)) (by omega)
      obtain ⟨clock', hmap'⟩ := inv.map
      refine ⟨M2, cnt + 1, ws', ks, [x], some (M1.next + 1, 0), 1, none, inv, hg, hg.ne_map hmap', ?_⟩
      rcases k013 with rfl | rfl | rfl
      · simp only [show ((0 : Int) == 0) = true from rfl, iT, e, bO, aT, aC, aI, aN, ea, Nat.zero_add]
      · simp only [show ((1 : Int) == 0) = false from rfl, show ((1 : Int) == 1) = true from rfl, show ((0 : Int) == 0) = true from rfl, iT, iF, e, bO, aT, aC, aI, aN, ea, Nat.zero_add]
      · simp only [show ((3 : Int) == 0) = false from rfl, show ((3 : Int) == 1) = false from rfl, show ((3 : Int) == 3) = true from rfl, show ((0 : Int) == 0) = true from rfl, iT, iF, e, bO, aT, aC, aI, aN, ea, Nat.zero_add]
  · have n0 : (kd == 0) = false := by simp; omega
    have n1 : (kd == 1) = false := by simp; omega
    have n3 : (kd == 3) = false := by simp; omega
    by_cases k2 : kd = 2
    · subst k2
      generalize hkk : (xs.getD w (0, 0, 0)).2.1 = kk at *
      have e2 : ((2 : Int) == 2) = true := rfl
      by_cases hneg : kk < 0
      · have e := grab_neg h.pool hneg (m := m) (by omega)
        refine ⟨M, cnt, ws, ks, [], none, 0, some 0, stay.1, stay.2.1, stay.2.2, ?_⟩
        simp only [n0, n1, n3, e2, iF, iT, dnat, dlt hw, Bool.and_self, nT, g1, bO, g2, Nat.zero_add, Int.toNat_natCast, g4, aI, e, aT, aC, aL, aN, show ((2 : Int) == 0) = false from rfl]
      · obtain ⟨kn, rfl⟩ : ∃ q : Nat, kk = q := ⟨kk.toNat, by omega⟩
        by_cases hfull : R.n - cnt < kn
        · have e := grab_full h.pool (k := (kn : Int)) (by omega) (m := m) (by omega)
          refine ⟨M, cnt, ws, ks, [], none, 0, some 0, stay.1, stay.2.1, stay.2.2, ?_⟩
          simp only [n0, n1, n3, e2, iF, iT, dnat, dlt hw, Bool.and_self, nT, g1, bO, g2, Nat.zero_add, Int.toNat_natCast, g4, aI, e, aT, aC, aL, aN, show ((11 : Int) == 0) = false from rfl]
        · obtain ⟨M', ws', u', c', e, hp, hg, hb, hf, hn⟩ := grab_ok h.pool (k := kn) (by omega) (m := m) (by omega)
          obtain ⟨t1, t2⟩ := take_free h.pool kn
          have inv := h.given hp (by rw [List.length_take]; omega) hb t1 t2 hf hn
          obtain ⟨b1, b2, b3, b4, b5⟩ := h.big
          obtain ⟨clock', hmap'⟩ := inv.map
          refine ⟨M', cnt + kn, ws', ks, _, u', kn, c', inv, hg, hg.ne_map hmap', ?_⟩
          · simp only [n0, n1, n3, e2, iF, iT, dnat, dlt hw, Bool.and_self, nT, g1, bO, g2, Nat.zero_add, Int.toNat_natCast, g4, aI, e, aT, aC, aL, aN, show ((0 : Int) == 0) = true from rfl]
    · have n2 : (kd == 2) = false := by simp; omega
      by_cases k45 : kd = 4 ∨ kd = 5
      · generalize hii : (xs.getD w (0, 0, 0)).2.2 = j at *
        have hgv := give_run h.pool g6 (m := m) (by omega)
        by_cases hok : j ≠ 0 ∧ j < R.n ∧ bitAt ws j = true
        · obtain ⟨q1, q2, q3⟩ := hok
          obtain ⟨cnt', ws', M1, hc, e, hp, hb, hn1, hf1⟩ := pclear h.pool q2 q3 (m := m - 1) (by omega)
          obtain ⟨b1, b2, b3, b4, b5⟩ := h.big
          obtain ⟨p1, p2, p3, p4, p5⟩ := h.pool.big
          obtain ⟨clock, hmap⟩ := h.map
          have hmap1 : M1.get mp = some (.map (setU ks) clock) := (hf1 mp b3 b4).trans hmap
          have hnd : (ks.map (·.1)).Nodup := by have := h.nodup; simpa using this
          have hin : j ∈ ks.map (·.1) := by
            rcases (h.iff j).1 q3 with hh | hh
            · exact hh
            · cases hh
          have el := lookU_in hmap1 hnd hin
          obtain ⟨ks', ed, d1, d2, d3⟩ := delU_in hmap1 hnd hin
          rw [if_neg q1, e] at hgv
          simp only [bO, aI] at hgv
          have g2' := ((h.sl.of (hf1 1 (by omega) (by omega))).gets hw).2.1
          have hf2 : ∀ q, q ≠ mp → (M1.set mp (.map (setU ks') clock)).get q = M1.get q := fun q hq => by rw [AMem.get_set, if_neg hq]
          refine ⟨M1.set mp (.map (setU ks') clock), cnt', ws', ks', [], none, 0, some 0, ⟨hp.of (Nat.le_refl _) (hf2 0 (by omega)) (hf2 _ (Ne.symm b2)) (hf2 _ (Ne.symm b3)) (hf2 _ (Ne.symm b4)), ⟨clock, by rw [AMem.get_set, if_pos rfl]⟩, h.sl.of ((hf2 1 (by omega)).trans (hf1 1 (by omega) (by omega))), by simpa using d2, fun x => ?_, ?_, ⟨b1, b2, b3, b4, by show mp < M1.next; omega⟩, h.small⟩, grown_nil, (fun b hb => by cases hb), ?_⟩
          · rw [hb, d3]
            have := h.iff x
            simp only [List.not_mem_nil, or_false] at this ⊢
            rw [← this]
            simp [and_comm]
          · have := h.klen; simp at this ⊢; omega
          · rcases k45 with rfl | rfl
            · simp only [n0, n1, n2, n3, show ((4 : Int) == 4) = true from rfl, iF, iT, dnat, dlt hw, Bool.and_self, nT, g1, bO, g2, g2', Nat.zero_add, Int.toNat_natCast, g5, aI, hgv, show ((0 : Int) == 0) = true from rfl, el, eS, aB, Bool.not_true, ed]
            · simp only [n0, n1, n2, n3, show ((5 : Int) == 4) = false from rfl, show ((5 : Int) == 5) = true from rfl, iF, iT, dnat, dlt hw, Bool.and_self, nT, g1, bO, g2, g2', Nat.zero_add, Int.toNat_natCast, g5, aI, hgv, show ((0 : Int) == 0) = true from rfl, el, eS, aB, Bool.not_true, ed]
        · obtain ⟨v, hv, e⟩ : ∃ v : Int, (v == 0) = false ∧ call m 27 [.ptr (some (a, 0)), .int .u32 j] M = some (.int .i64 v, M) := by
            by_cases z : j = 0
            · exact ⟨2, rfl, by rw [hgv, if_pos z]⟩
            · rw [if_neg z] at hgv
              by_cases z2 : j < R.n
              · have hbf : bitAt ws j = false := by
                  cases hb : bitAt ws j with
                  | false => rfl
                  | true => exact absurd ⟨z, z2, hb⟩ hok
                have ec := clear_in h.pool.row z2 (m := m - 1) (by omega) h.pool.le
                rw [hbf, if_neg (by simp)] at ec
                rw [ec] at hgv
                simp only [bO, aI] at hgv
                exact ⟨9, rfl, hgv⟩
              · have ec := clear_out h.pool.row (i := (j : Int)) (by omega) (m := m - 1) (by omega)
                rw [ec] at hgv
                simp only [bO, aI] at hgv
                exact ⟨4, rfl, hgv⟩
          refine ⟨M, cnt, ws, ks, [], none, 0, some 0, stay.1, stay.2.1, stay.2.2, ?_⟩
          rcases k45 with rfl | rfl
          · simp only [n0, n1, n2, n3, show ((4 : Int) == 4) = true from rfl, iF, iT, dnat, dlt hw, Bool.and_self, nT, g1, bO, g2, Nat.zero_add, Int.toNat_natCast, g5, aI, e, hv]
          · simp only [n0, n1, n2, n3, show ((5 : Int) == 4) = false from rfl, show ((5 : Int) == 5) = true from rfl, iF, iT, dnat, dlt hw, Bool.and_self, nT, g1, bO, g2, Nat.zero_add, Int.toNat_natCast, g5, aI, e, hv]
      · have n4 : (kd == 4) = false := by simp; omega
        have n5 : (kd == 5) = false := by simp; omega
        refine ⟨M, cnt, ws, ks, [], none, 0, some 0, stay.1, stay.2.1, stay.2.2, ?_⟩
        simp only [n0, n1, n2, n3, n4, n5, iF]
end
end Go.Proofs.YtiecjbgefkelfaaDoor
