/-
  'sluicegatelaw04.BitsAll' answers true, told of the abstract memory.
-/
import Derived.Test.YtiecjbgefkelfaaDoorBitsRow
namespace Go.Proofs.YtiecjbgefkelfaaDoor
open Go.Ab
set_option linter.unusedVariables false
set_option linter.unusedSimpArgs false

/-! ### how many -/
def cB (p : Nat → Bool) : Nat → Nat
  | 0 => 0
  | n + 1 => cB p n + (if p n then 1 else 0)

theorem cB_le (p : Nat → Bool) : ∀ n, cB p n ≤ n
  | 0 => Nat.le_refl _
  | n + 1 => by have := cB_le p n; unfold cB; split <;> omega

theorem cB_not (p : Nat → Bool) : ∀ n, cB p n + cB (fun j => !p j) n = n
  | 0 => rfl
  | n + 1 => by have := cB_not p n; unfold cB; cases p n <;> simp <;> omega

theorem cB_ext {p q : Nat → Bool} : ∀ {n : Nat}, (∀ j, j < n → p j = q j) → cB p n = cB q n
  | 0, _ => rfl
  | n + 1, h => by unfold cB; rw [cB_ext (fun j hj => h j (by omega)), h n (by omega)]

theorem cB_set {p q : Nat → Bool} {i : Nat} (hp : p i = false) (hq : q i = true) (h : ∀ j, j ≠ i → q j = p j) : ∀ {n : Nat}, i < n → cB q n = cB p n + 1
  | 0, hi => absurd hi (Nat.not_lt_zero _)
  | n + 1, hi => by
    unfold cB
    by_cases e : n = i
    · subst e
      rw [cB_ext (fun j hj => h j (by omega)), hp, hq]; simp
    · rw [cB_set hp hq h (by omega), h n e]; omega

theorem cB_gap {p : Nat → Bool} {a : Nat} : ∀ {b : Nat}, a ≤ b → (∀ j, a ≤ j → j < b → p j = false) → cB p b = cB p a
  | 0, h, _ => by rw [show a = 0 by omega]
  | b + 1, h, hp => by
    by_cases e : a = b + 1
    · rw [e]
    · show cB p b + (if p b then 1 else 0) = _
      rw [cB_gap (b := b) (by omega) (fun j h1 h2 => hp j h1 (by omega)), hp b (by omega) (by omega)]; simp

/-! ### the map of a set -/
/-- the entries of a set of places -/
def setE (ks : List (Nat × Nat)) : List (AV × AV × Nat) := ks.map fun p => (.int .i64 p.1, .bool true, p.2)

theorem keyEq_int (k : IntKind) (a b : Int) : keyEq (.int k a) (.int k b) = some (a == b) := by simp [keyEq]

theorem findA_in {j : Nat} : ∀ (ks : List (Nat × Nat)) (i0 : Nat), j ∈ ks.map (·.1) → ∃ i, findA (.int .i64 j) (setE ks) i0 = some (some (i0 + i, .bool true)) ∧ updAt (setE ks) i (.int .i64 j) (.bool true) = setE ks := by
  intro ks
  induction ks with
  | nil => intro i0 h; simp at h
  | cons k ks ih =>
    intro i0 h
    show ∃ i, findA (.int .i64 j) ((.int .i64 k.1, .bool true, k.2) :: setE ks) i0 = _ ∧ updAt ((.int .i64 k.1, .bool true, k.2) :: setE ks) i _ _ = _
    by_cases e : j = k.1
    · refine ⟨0, ?_, ?_⟩
      · unfold findA; rw [keyEq_int, e]; simp
      · rw [e]; rfl
    · obtain ⟨i, h1, h2⟩ := ih (i0 + 1) (by simpa [e] using h)
      refine ⟨i + 1, ?_, ?_⟩
      · unfold findA
        rw [keyEq_int, show ((j : Int) == (k.1 : Int)) = false by simp; omega]
        simp only [h1]
        rw [show i0 + 1 + i = i0 + (i + 1) by omega]
      · unfold updAt; rw [h2]; rfl

theorem findA_out {j : Nat} : ∀ (ks : List (Nat × Nat)) (i0 : Nat), j ∉ ks.map (·.1) → findA (.int .i64 j) (setE ks) i0 = some none := by
  intro ks
  induction ks with
  | nil => intro i0 _; rfl
  | cons k ks ih =>
    intro i0 h
    have h1 : ¬ j = k.1 := fun e => h (by simp [e])
    have h2 : j ∉ ks.map (·.1) := fun e => h (by rw [List.map_cons]; exact List.mem_cons_of_mem _ e)
    show findA (.int .i64 j) ((.int .i64 k.1, .bool true, k.2) :: setE ks) i0 = _
    unfold findA
    rw [keyEq_int, show ((j : Int) == (k.1 : Int)) = false by simp; omega]
    exact ih _ h2

theorem u28 : Tryd.prog.underlying 28 = some (.map 3 4) := by kernel_rfl
theorem u3 : Tryd.prog.underlying 3 = some (.int .i64) := by kernel_rfl

theorem look_set {M : AMem} {q clock : Nat} {ks : List (Nat × Nat)} (h : M.get q = some (.map (setE ks) clock)) (j : Nat) :
    lookA Tryd.prog M 28 (some q) (.int .i64 j) = some (if j ∈ ks.map (·.1) then some (.bool true) else none) := by
  unfold lookA
  simp only [u28, u3, keyKind, if_true, mapRow, h]
  by_cases e : j ∈ ks.map (·.1)
  · obtain ⟨i, h1, _⟩ := findA_in ks 0 e
    rw [h1, if_pos e]; rfl
  · rw [findA_out ks 0 e, if_neg e]; rfl

theorem upd_set {M : AMem} {q clock : Nat} {ks : List (Nat × Nat)} (h : M.get q = some (.map (setE ks) clock)) (j : Nat) :
    mapUpdA Tryd.prog M 28 (some q) (.int .i64 j) (.bool true) = some (if j ∈ ks.map (·.1) then M.set q (.map (setE ks) clock) else M.set q (.map (setE (ks ++ [(j, clock)])) (clock + 1))) := by
  unfold mapUpdA
  simp only [u28, u3, keyKind, if_true, h]
  by_cases e : j ∈ ks.map (·.1)
  · obtain ⟨i, h1, h2⟩ := findA_in ks 0 e
    rw [h1, if_pos e]
    simp only [Nat.zero_add, h2]
  · rw [findA_out ks 0 e, if_neg e]
    simp only [setE, List.map_append, List.map_cons, List.map_nil]

/-! ### New -/
theorem rep_words : ∀ W : Nat, repA [.int .u64 0] W = (List.replicate W 0#64).map wA
  | 0 => rfl
  | W + 1 => by
    show [AV.int .u64 0] ++ repA [.int .u64 0] W = _
    rw [rep_words W, List.replicate_succ]; rfl

theorem bitAt_rep (W i : Nat) : bitAt (List.replicate W 0#64) i = false := by
  unfold bitAt
  rw [List.getD_eq_getElem?_getD, List.getElem?_replicate]
  split <;> simp

theorem new_in {M : AMem} {n m : Nat} (h1 : 1 ≤ n) (h2 : n ≤ 65536) (hm : 1 ≤ m) : call m 8 [.int .i64 n] M =
    some (.tup [.ptr (some (M.next + 1, 0)), .int .i64 0], (M.new (.cells ((List.replicate ((n + 63) / 64) 0#64).map wA) 0 true)).new (.cells [.int .i64 n, .int .i64 0, .slice (some (M.next, 0)) ((n + 63) / 64) (some ((n + 63) / 64))] 0 true)) := by
  obtain ⟨k, rfl⟩ : ∃ k, m = k + 1 := ⟨m - 1, by omega⟩
  have hW : IntKind.i64.wrap ((IntKind.i64.wrap (IntKind.i64.wrap ((n : Int) + 64) - 1)).tdiv 64) = (((n + 63) / 64 : Nat) : Int) := by
    rw [wrap_i64 (x := (n : Int) + 64) (by omega) (by omega), wrap_i64 (x := (n : Int) + 64 - 1) (by omega) (by omega), show (n : Int) + 64 - 1 = ((n + 63 : Nat) : Int) by omega, idiv _ (by omega)]
  rw [call, acall_run Tryd.func8 (hk (by decide)), new_eq, hW]
  rw [show decide ((n : Int) < 1) = false by simp; omega, show decide ((n : Int) > 65536) = false by simp; omega, ← rep_words]
  generalize hw : (n + 63) / 64 = W at *
  have hb : Tryd.prog.types[67].bytes = 8 := by kernel_rfl
  rw [hb, decide_eq_true (show (0 : Int) ≤ (W : Int) by omega), decide_eq_true (show (W : Int) ≤ (W : Int) by omega), decide_eq_true (show (W : Int) ≤ 140737488355328 by omega), decide_eq_true (show (W : Int).toNat * 8 ≤ 140737488355328 by omega)]
  show _ = _
  kernel_rfl

theorem new_out {M : AMem} {m : Nat} {i : Int} (h : i < 1 ∨ 65536 < i) (hm : 1 ≤ m) : call m 8 [.int .i64 i] M = some (.tup [.ptr none, .int .i64 2], M) := by
  obtain ⟨k, rfl⟩ : ∃ k, m = k + 1 := ⟨m - 1, by omega⟩
  rw [call, acall_run Tryd.func8 (hk (by decide)), new_eq]
  by_cases q : i < 1
  · rw [decide_eq_true q]; rfl
  · rw [decide_eq_false q, decide_eq_true (show i > 65536 by omega)]; rfl

/-! ### the law -/
/-- a slice of numbers that came in -/
structure SlIn (M : AMem) (s : Option (Nat × Nat)) (l : Nat) (xs : List Nat) : Prop where
  len : xs.length = l
  at' : l = 0 ∨ (s = some (1, 0) ∧ M.get 1 = some (.ro (xs.map fun x : Nat => AV.int .u16 (x : Int))))

theorem SlIn.get {M : AMem} {s : Option (Nat × Nat)} {l : Nat} {xs : List Nat} (h : SlIn M s l xs) {w : Nat} (hw : w < l) :
    s = some (1, 0) ∧ M.row 1 = some (xs.map fun x : Nat => AV.int .u16 (x : Int)) ∧ (xs.map fun x : Nat => AV.int .u16 (x : Int))[w]? = some (.int .u16 (xs.getD w 0)) := by
  rcases h.at' with h0 | ⟨h1, h2⟩
  · omega
  · have := h.len
    refine ⟨h1, row_ro h2, ?_⟩
    rw [List.getElem?_map, List.getElem?_eq_getElem (by omega), List.getD_eq_getElem?_getD, List.getElem?_eq_getElem (by omega)]; rfl

theorem SlIn.of {M M' : AMem} {s : Option (Nat × Nat)} {l : Nat} {xs : List Nat} (h : SlIn M s l xs) (hk : M'.get 1 = M.get 1) : SlIn M' s l xs := ⟨h.len, by rw [hk]; exact h.at'⟩

/-- what holds between the rounds of the first loop -/
structure InvA (M : AMem) (R : RowS) (mp : Nat) (s : Option (Nat × Nat)) (l : Nat) (xs : List Nat) (cnt : Nat) (ws : List W64) (ks : List (Nat × Nat)) : Prop where
  row : RowAt M R cnt ws
  map : ∃ clock, M.get mp = some (.map (setE ks) clock)
  sl : SlIn M s l xs
  big : R.a ≠ 0 ∧ R.b ≠ 0 ∧ R.a ≠ 1 ∧ R.b ≠ 1 ∧ mp ≠ 0 ∧ mp ≠ 1 ∧ mp ≠ R.a ∧ mp ≠ R.b
  iff : ∀ j, j ∈ ks.map (·.1) ↔ bitAt ws j = true
  num : cnt = cB (bitAt ws) R.n
  klen : ks.length = cnt
  next : 1 ≤ M.next

theorem InvA.roots {M : AMem} {R : RowS} {mp : Nat} {s : Option (Nat × Nat)} {l : Nat} {xs : List Nat} {cnt : Nat} {ws : List W64} {ks : List (Nat × Nat)} (h : InvA M R mp s l xs cnt ws ks) : Roots mem0 M := by
  have hg : ∀ α B, mem0.get α = some B → α = 0 ∧ B = .ro (tabInts.map (AV.int .u8)) := by
    intro α B e
    unfold mem0 at e
    rw [AMem.get_new] at e
    by_cases q : α = 0
    · rw [if_pos q] at e; cases e; exact ⟨q, rfl⟩
    · rw [if_neg q] at e
      have : (Tri.nil : Tri ABlk).get α = none := Tri.get_nil α
      unfold AMem.get at e
      rw [this] at e; cases e
  refine ⟨h.next, fun α B e => ?_, fun α B e => ?_⟩
  · obtain ⟨rfl, rfl⟩ := hg α B e; exact h.row.tab
  · obtain ⟨rfl, rfl⟩ := hg α B e
    exact ⟨Nat.zero_lt_one, _, rfl, by decide⟩

abbrev fr0 (n : Nat) (s : Option (Nat × Nat)) (l : Nat) (c : Option Nat) (a mp w : Nat) : Fr :=
  mkFr [(0, .int .i64 n), (1, .slice s l c), (4, .bool false), (5, .ptr (some (a, 0))), (6, .int .i64 0), (7, .map (some mp)), (8, .int .i64 w)]

theorem rem_nat {x n : Nat} (hx : x < 65536) (hn : 0 < n) : (IntKind.i64.wrap (x : Int)).tmod (n : Int) = ((x % n : Nat) : Int) := by
  rw [wrap_i64 (by omega) (by omega), Int.tmod_eq_emod_of_nonneg (by omega)]; rfl

variable {M : AMem} {R : RowS} {cnt : Nat} {ws : List W64} {m : Nat} {mp : Nat} {s : Option (Nat × Nat)} {l : Nat} {xs : List Nat} {ks : List (Nat × Nat)} {c : Option Nat}

theorem setMap_inv (h : InvA M R mp s l xs cnt ws ks) {ks' : List (Nat × Nat)} {cl : Nat} (hk : ∀ j, j ∈ ks'.map (·.1) ↔ bitAt ws j = true) (hl : ks'.length = cnt) : InvA (M.set mp (.map (setE ks') cl)) R mp s l xs cnt ws ks' := by
  obtain ⟨b1, b2, b3, b4, b5, b6, b7, b8⟩ := h.big
  refine ⟨⟨?_, ?_, h.row.len, h.row.top, ?_⟩, ⟨cl, ?_⟩, h.sl.of ?_, h.big, hk, h.num, hl, h.next⟩
  · rw [AMem.get_set, if_neg (Ne.symm b7)]; exact h.row.row
  · rw [AMem.get_set, if_neg (Ne.symm b8)]; exact h.row.words
  · rw [AMem.get_set, if_neg (Ne.symm b5)]; exact h.row.tab
  · rw [AMem.get_set, if_pos rfl]
  · rw [AMem.get_set, if_neg (Ne.symm b6)]

/-- a round of the first loop -/
theorem all0_round (h : InvA M R mp s l xs cnt ws ks) (hx : ∀ x ∈ xs, x < 65536) {w : Nat} (hw : w < l) (hw5 : w < 500) (hm : 70000 ≤ m) {k : AExit → Fr → AMem → Option (AV × AMem)} :
    ∃ M' cnt' ws' ks', InvA M' R mp s l xs cnt' ws' ks' ∧ runBody Tryd.prog HK Tryd.f3 0 [0, 1, 4, 5, 6, 7, 8] m (fr0 R.n s l c R.a mp w) M k = k .normal (fr0 R.n s l c R.a mp (w + 1)) M' := by
  obtain ⟨e1, e2, e3⟩ := h.sl.get hw
  have hpos := R.pos
  have hle := R.le
  obtain ⟨b1, b2, b3, b4, b5, b6, b7, b8⟩ := h.big
  have hxw : xs.getD w 0 < 65536 := by
    rw [List.getD_eq_getElem?_getD, List.getElem?_eq_getElem (by rw [h.sl.len]; exact hw)]
    exact hx _ (List.getElem_mem _)
  have hj : xs.getD w 0 % R.n < R.n := Nat.mod_lt _ hpos
  have hcle : cnt ≤ R.n := by rw [h.num]; exact cB_le _ _
  have hs := set_in h.row hj (m := m) (by omega) hcle
  have hrem := rem_nat hxw hpos
  have hn0 : (!(R.n : Int) == 0) = true := by simp; omega
  have hw1 : IntKind.i64.wrap ((w : Int) + 1) = ((w + 1 : Nat) : Int) := by rw [wrap_i64 (by omega) (by omega)]; rfl
  have hd5 : decide ((w : Int) < 500) = true := by simp; omega
  generalize hjj : xs.getD w 0 % R.n = j at *
  have hbody : ∀ {M1 : AMem} {v : Int} {M2 : AMem}, call m 10 [.ptr (some (R.a, 0)), .int .i64 j] M = some (.int .i64 v, M1) → M1.get 1 = M.get 1 → mapUpdA Tryd.prog M1 28 (some mp) (.int .i64 j) (.bool true) = some M2 →
      runBody Tryd.prog HK Tryd.f3 0 [0, 1, 4, 5, 6, 7, 8] m (fr0 R.n s l c R.a mp w) M k = k .normal (fr0 R.n s l c R.a mp (w + 1)) M2 := by
    intro M1 v M2 h1 h2 h3
    obtain ⟨_, e4, _⟩ := (h.sl.of h2).get hw
    rw [fr0, all0_body]
    simp only [dlt hw, hd5, tt, cond_true, iT, dnat, Bool.and_self, nT, e1, bO, e2, Nat.zero_add, Nat.mul_one, Int.toNat_natCast, e3, aI, hn0, sT, hrem, h1, e4, h3, hw1]
  obtain ⟨clock, hmap⟩ := h.map
  by_cases hb : bitAt ws j = true
  · rw [hb, if_pos rfl] at hs
    have hu := upd_set hmap j
    rw [if_pos ((h.iff j).2 hb)] at hu
    exact ⟨_, cnt, ws, ks, setMap_inv h h.iff h.klen, hbody hs rfl hu⟩
  · rw [if_neg hb] at hs
    have hb' : bitAt ws j = false := by simpa using hb
    have hd := h.row.div_lt hj
    have hbit := fun i => bitAt_or hd i
    have hlen : (ws.set (j / 64) (ws.getD (j / 64) 0 ||| 1#64 <<< (j % 64))).length = ws.length := List.length_set
    generalize hws : ws.set (j / 64) (ws.getD (j / 64) 0 ||| 1#64 <<< (j % 64)) = ws' at *
    have hbit' : ∀ i, bitAt ws' i = (decide (i = j) || bitAt ws i) := hbit
    have hcast : ((cnt : Int) + 1) = ((cnt + 1 : Nat) : Int) := rfl
    rw [hcast] at hs
    have hrow := RowAt.put h.row (cnt' := cnt + 1) (ws' := ws') hlen (fun i hi => by rw [hbit', h.row.top i hi]; simp; omega) b1 b2
    have hget : ∀ q, q ≠ R.a → q ≠ R.b → (R.put M ((cnt + 1 : Nat) : Int) ws').get q = M.get q := fun q h1 h2 => by
      unfold RowS.put; rw [AMem.get_set, if_neg h1, AMem.get_set, if_neg h2]
    have hmap' := (hget mp b7 b8).trans hmap
    have hu := upd_set hmap' j
    have hnot : j ∉ ks.map (·.1) := fun e => hb ((h.iff j).1 e)
    rw [if_neg hnot] at hu
    refine ⟨_, cnt + 1, ws', ks ++ [(j, clock)], ?_, hbody hs (hget 1 (Ne.symm b3) (Ne.symm b4)) hu⟩
    refine ⟨⟨?_, ?_, hrow.len, hrow.top, ?_⟩, ⟨clock + 1, ?_⟩, h.sl.of ?_, h.big, fun i => ?_, ?_, by simp [h.klen], h.next⟩
    · rw [AMem.get_set, if_neg (Ne.symm b7)]; exact hrow.row
    · rw [AMem.get_set, if_neg (Ne.symm b8)]; exact hrow.words
    · rw [AMem.get_set, if_neg (Ne.symm b5)]; exact hrow.tab
    · rw [AMem.get_set, if_pos rfl]
    · rw [AMem.get_set, if_neg (Ne.symm b6)]; exact hget 1 (Ne.symm b3) (Ne.symm b4)
    · rw [hbit']
      simp only [List.map_append, List.map_cons, List.map_nil, List.mem_append, List.mem_singleton, h.iff]
      simp [or_comm]
    · rw [h.num, cB_set hb' (show bitAt ws' j = true by rw [hbit']; simp) (fun i hi => by rw [hbit']; simp [hi]) hj]

theorem all0_loop (hx : ∀ x ∈ xs, x < 65536) (hm : 70000 ≤ m) : ∀ (d w mm : Nat) {M : AMem} {cnt : Nat} {ws : List W64} {ks : List (Nat × Nat)}, InvA M R mp s l xs cnt ws ks → 500 - w = d → d + 1 ≤ mm → w ≤ l →
    ∃ M' cnt' ws' ks' w', InvA M' R mp s l xs cnt' ws' ks' ∧ runLoop Tryd.prog HK Tryd.f3 0 [0, 1, 4, 5, 6, 7, 8] m mm (fr0 R.n s l c R.a mp w) M (afterLoop Tryd.prog HK Tryd.f3 0 m) = afterLoop Tryd.prog HK Tryd.f3 0 m (.exit 0) (fr0 R.n s l c R.a mp w') M' := by
  intro d
  induction d with
  | zero =>
    intro w mm M cnt ws ks h hd hmm hwl
    obtain ⟨mm, rfl⟩ : ∃ k, mm = k + 1 := ⟨mm - 1, by omega⟩
    refine ⟨M, cnt, ws, ks, w, h, ?_⟩
    rw [runLoop_succ]
    conv => lhs; rw [fr0, all0_body]
    have hd5 : decide ((w : Int) < 500) = false := by simp; omega
    by_cases q : w < l
    · simp only [dlt q, hd5, tt, cond_true, iT, iF, onward_exit]
    · have : decide ((w : Int) < (l : Int)) = false := by simp; omega
      simp only [this, ft, iF, onward_exit]
  | succ d ih =>
    intro w mm M cnt ws ks h hd hmm hwl
    obtain ⟨mm, rfl⟩ : ∃ k, mm = k + 1 := ⟨mm - 1, by omega⟩
    by_cases q : w < l
    · rw [runLoop_succ]
      obtain ⟨M', cnt', ws', ks', h', e⟩ := all0_round (c := c) h hx q (by omega) hm (k := onward Tryd.prog HK Tryd.f3 0 [0, 1, 4, 5, 6, 7, 8] m mm (afterLoop Tryd.prog HK Tryd.f3 0 m))
      rw [e, onward_normal]
      exact ih (w + 1) mm h' (by omega) (by omega) (by omega)
    · refine ⟨M, cnt, ws, ks, w, h, ?_⟩
      rw [runLoop_succ]
      conv => lhs; rw [fr0, all0_body]
      have : decide ((w : Int) < (l : Int)) = false := by simp; omega
      simp only [this, ft, iF, onward_exit]

abbrev fr1 (n : Nat) (s : Option (Nat × Nat)) (l : Nat) (c : Option Nat) (a mp w t f x : Nat) (o : Bool) : Fr :=
  mkFr [(0, .int .i64 n), (1, .slice s l c), (4, .bool false), (5, .ptr (some (a, 0))), (6, .int .i64 0), (7, .map (some mp)), (8, .int .i64 w), (9, .int .i64 t), (10, .int .i64 f), (11, .int .i64 x), (12, .bool o)]

abbrev fr2 (n : Nat) (s : Option (Nat × Nat)) (l : Nat) (c : Option Nat) (a mp w t f x : Nat) (o : Bool) (y : Nat) (u : Bool) : Fr :=
  mkFr [(0, .int .i64 n), (1, .slice s l c), (4, .bool false), (5, .ptr (some (a, 0))), (6, .int .i64 0), (7, .map (some mp)), (8, .int .i64 w), (9, .int .i64 t), (10, .int .i64 f), (11, .int .i64 x), (12, .bool o), (13, .int .i64 y), (14, .bool u)]

/-- a place, or none, as a number and a mark -/
def numO (o : Option Nat) : Nat := o.getD 0
theorem placeA_eq (o : Option Nat) : placeA o = .tup [.int .i64 (numO o), .bool o.isSome] := by cases o <;> rfl

theorem InvA.look (h : InvA M R mp s l xs cnt ws ks) (j : Nat) : lookA Tryd.prog M 28 (some mp) (.int .i64 j) = some (if bitAt ws j = true then some (.bool true) else none) := by
  obtain ⟨clock, hmap⟩ := h.map
  rw [look_set hmap j]
  by_cases e : bitAt ws j = true
  · rw [if_pos e, if_pos ((h.iff j).2 e)]
  · rw [if_neg e, if_neg (fun q => e ((h.iff j).1 q))]

theorem all1_stop (w t f x : Nat) (k : AExit → Fr → AMem → Option (AV × AMem)) : runBody Tryd.prog HK Tryd.f3 1 [0, 1, 4, 5, 6, 7, 8, 9, 10, 11, 12] m (fr1 R.n s l c R.a mp w t f x false) M k = k (.exit 2) (fr1 R.n s l c R.a mp w t f x false) M := by
  rw [fr1, all1_body, iF]

theorem all1_round (h : InvA M R mp s l xs cnt ws ks) {w t f x : Nat} (hx : x < R.n) (hb : bitAt ws x = true) (ht : t ≤ 65536) (hm : 70000 ≤ m) (k : AExit → Fr → AMem → Option (AV × AMem)) :
    runBody Tryd.prog HK Tryd.f3 1 [0, 1, 4, 5, 6, 7, 8, 9, 10, 11, 12] m (fr1 R.n s l c R.a mp w t f x true) M k =
      k .normal (fr1 R.n s l c R.a mp w (t + 1) f (numO (firstP (bitAt ws) R.n (x + 1))) (firstP (bitAt ws) R.n (x + 1)).isSome) M := by
  have hle := R.le
  have hl := h.look x
  rw [if_pos hb] at hl
  have hh := has_in h.row hx (m := m) (by omega)
  rw [hb] at hh
  have hn := next_run h.row ((x + 1 : Nat) : Int) (m := m) (by omega)
  rw [Int.toNat_natCast, placeA_eq] at hn
  have hx1 : IntKind.i64.wrap ((x : Int) + 1) = ((x + 1 : Nat) : Int) := by rw [wrap_i64 (by omega) (by omega)]; rfl
  have ht1 : IntKind.i64.wrap ((t : Int) + 1) = ((t + 1 : Nat) : Int) := by rw [wrap_i64 (by omega) (by omega)]; rfl
  rw [fr1, all1_body]
  simp only [iT, hl, eS, bO, aB, Bool.not_true, ff, hh, cond_false, iF, hx1, hn, aT, aC, aI, aN, ht1]

theorem all1_loop (h : InvA M R mp s l xs cnt ws ks) (hm : 70000 ≤ m) (w f : Nat) (k : AExit → Fr → AMem → Option (AV × AMem)) : ∀ (d x t mm : Nat), R.n - x ≤ d → x < R.n → bitAt ws x = true → t = cB (bitAt ws) x → d + 1 ≤ mm →
    ∃ x', runLoop Tryd.prog HK Tryd.f3 1 [0, 1, 4, 5, 6, 7, 8, 9, 10, 11, 12] m mm (fr1 R.n s l c R.a mp w t f x true) M k = k (.exit 2) (fr1 R.n s l c R.a mp w (cB (bitAt ws) R.n) f x' false) M := by
  intro d
  induction d with
  | zero => intro x t mm hd hx; omega
  | succ d ih =>
    intro x t mm hd hx hb ht hmm
    obtain ⟨mm, rfl⟩ : ∃ k, mm = k + 1 := ⟨mm - 1, by omega⟩
    have hle := R.le
    have htl : t ≤ 65536 := by have := cB_le (bitAt ws) x; omega
    rw [runLoop_succ, all1_round h hx hb htl hm, onward_normal]
    have ht1 : t + 1 = cB (bitAt ws) (x + 1) := by rw [ht]; show _ = cB (bitAt ws) x + _; rw [hb]; simp
    cases e : firstP (bitAt ws) R.n (x + 1) with
    | some y =>
      obtain ⟨y1, ⟨y2, y3⟩, y4⟩ := firstP_some.1 e
      have hcb : t + 1 = cB (bitAt ws) y := by rw [ht1]; exact (cB_gap y2 (fun j h1 h2 => y4 j h2 h1)).symm
      exact ih y (t + 1) mm (by omega) y1 y3 hcb (by omega)
    | none =>
      obtain ⟨mm, rfl⟩ : ∃ k, mm = k + 1 := ⟨mm - 1, by omega⟩
      refine ⟨0, ?_⟩
      show runLoop Tryd.prog HK Tryd.f3 1 _ m (mm + 1) (fr1 R.n s l c R.a mp w (t + 1) f 0 false) M k = _
      rw [runLoop_succ, all1_stop, onward_exit, ht1]
      rw [firstP_none] at e
      rw [cB_gap (a := x + 1) (b := R.n) (by omega) (fun j h1 h2 => e j h2 h1)]

theorem all2_stop (w t f x : Nat) (o : Bool) (y : Nat) (k : AExit → Fr → AMem → Option (AV × AMem)) : runBody Tryd.prog HK Tryd.f3 2 [0, 1, 4, 5, 6, 7, 8, 9, 10, 11, 12, 13, 14] m (fr2 R.n s l c R.a mp w t f x o y false) M k = k (.exit 4) (fr2 R.n s l c R.a mp w t f x o y false) M := by
  rw [fr2, all2_body, iF]

theorem all2_round (h : InvA M R mp s l xs cnt ws ks) {w t f x y : Nat} {o : Bool} (hy : y < R.n) (hb : bitAt ws y = false) (hf : f ≤ 65536) (hm : 70000 ≤ m) (k : AExit → Fr → AMem → Option (AV × AMem)) :
    runBody Tryd.prog HK Tryd.f3 2 [0, 1, 4, 5, 6, 7, 8, 9, 10, 11, 12, 13, 14] m (fr2 R.n s l c R.a mp w t f x o y true) M k =
      k .normal (fr2 R.n s l c R.a mp w t (f + 1) x o (numO (firstP (fun j => !bitAt ws j) R.n (y + 1))) (firstP (fun j => !bitAt ws j) R.n (y + 1)).isSome) M := by
  have hle := R.le
  have hl := h.look y
  rw [if_neg (by rw [hb]; simp)] at hl
  have hh := has_in h.row hy (m := m) (by omega)
  rw [hb] at hh
  have hn := free_run h.row ((y + 1 : Nat) : Int) (m := m) (by omega)
  rw [Int.toNat_natCast, placeA_eq] at hn
  have hx1 : IntKind.i64.wrap ((y : Int) + 1) = ((y + 1 : Nat) : Int) := by rw [wrap_i64 (by omega) (by omega)]; rfl
  have ht1 : IntKind.i64.wrap ((f : Int) + 1) = ((f + 1 : Nat) : Int) := by rw [wrap_i64 (by omega) (by omega)]; rfl
  rw [fr2, all2_body]
  simp only [iT, hl, eN, bO, aB, hh, iF, hx1, hn, aT, aC, aI, aN, ht1]

theorem all2_loop (h : InvA M R mp s l xs cnt ws ks) (hm : 70000 ≤ m) (w t x : Nat) (o : Bool) (k : AExit → Fr → AMem → Option (AV × AMem)) : ∀ (d y f mm : Nat), R.n - y ≤ d → y < R.n → bitAt ws y = false → f = cB (fun j => !bitAt ws j) y → d + 1 ≤ mm →
    ∃ y', runLoop Tryd.prog HK Tryd.f3 2 [0, 1, 4, 5, 6, 7, 8, 9, 10, 11, 12, 13, 14] m mm (fr2 R.n s l c R.a mp w t f x o y true) M k = k (.exit 4) (fr2 R.n s l c R.a mp w t (cB (fun j => !bitAt ws j) R.n) x o y' false) M := by
  intro d
  induction d with
  | zero => intro y f mm hd hy; omega
  | succ d ih =>
    intro y f mm hd hy hb hf hmm
    obtain ⟨mm, rfl⟩ : ∃ k, mm = k + 1 := ⟨mm - 1, by omega⟩
    have hle := R.le
    have hfl : f ≤ 65536 := by have := cB_le (fun j => !bitAt ws j) y; omega
    rw [runLoop_succ, all2_round h hy hb hfl hm, onward_normal]
    have ht1 : f + 1 = cB (fun j => !bitAt ws j) (y + 1) := by rw [hf]; show _ = cB (fun j => !bitAt ws j) y + _; simp [hb]
    cases e : firstP (fun j => !bitAt ws j) R.n (y + 1) with
    | some z =>
      obtain ⟨y1, ⟨y2, y3⟩, y4⟩ := firstP_some.1 e
      have hcb : f + 1 = cB (fun j => !bitAt ws j) z := by rw [ht1]; exact (cB_gap y2 (fun j h1 h2 => y4 j h2 h1)).symm
      exact ih z (f + 1) mm (by omega) y1 (by simpa using y3) hcb (by omega)
    | none =>
      obtain ⟨mm, rfl⟩ : ∃ k, mm = k + 1 := ⟨mm - 1, by omega⟩
      refine ⟨0, ?_⟩
      show runLoop Tryd.prog HK Tryd.f3 2 _ m (mm + 1) (fr2 R.n s l c R.a mp w t (f + 1) x o 0 false) M k = _
      rw [runLoop_succ, all2_stop, onward_exit, ht1]
      rw [firstP_none] at e
      rw [cB_gap (a := y + 1) (b := R.n) (by omega) (fun j h1 h2 => e j h2 h1)]

theorem awake_run (h : Roots mem0 M) (hm : 1 ≤ m) : call m 9 [] M = some (.bool true, M) := by
  obtain ⟨k, rfl⟩ : ∃ k, m = k + 1 := ⟨m - 1, by omega⟩
  exact pureHook_call (by decide) h k

/-- what follows the third loop -/
theorem all_last (h : InvA M R mp s l xs cnt ws ks) (hm : 70000 ≤ m) (w x y : Nat) (o u : Bool) :
    afterLoop Tryd.prog HK Tryd.f3 2 m (.exit 4) (fr2 R.n s l c R.a mp w (cB (bitAt ws) R.n) (cB (fun j => !bitAt ws j) R.n) x o y u) M = some (.bool true, M) := by
  have hle := R.le
  obtain ⟨clock, hmap⟩ := h.map
  have hc := count_run h.row (m := m) (by omega)
  have ha := awake_run h.roots (m := m) (by omega)
  have hn := h.num
  have hk := h.klen
  have hnot := cB_not (bitAt ws) R.n
  have hr : mapRow M (some mp) = some (setE ks) := by unfold mapRow; simp [hmap]
  have hlen : (setE ks).length = cnt := by rw [← hk]; simp [setE]
  have e1 : ((cB (bitAt ws) R.n : Int) == (((setE ks).length : Nat) : Int)) = true := by rw [hlen, hn]; simp
  have e2 : IntKind.i64.wrap ((R.n : Int) - (((setE ks).length : Nat) : Int)) = (cB (fun j => !bitAt ws j) R.n : Int) := by
    rw [wrap_i64 (by omega) (by omega)]; omega
  have e3 : ((cnt : Int) == (cB (bitAt ws) R.n : Int)) = true := by rw [hn]; simp
  rw [fr2, all2_end]
  simp only [hr, bO, e1, tt, iT, cond_true, e2, beq_self_eq_true, hc, aI, e3, ha, aB]

/-- the second loop and what follows it -/
theorem all_second (h : InvA M R mp s l xs cnt ws ks) (hm : 70001 ≤ m) (w t x : Nat) (o : Bool) (ht : t = cB (bitAt ws) R.n) :
    afterLoop Tryd.prog HK Tryd.f3 1 m (.exit 2) (fr1 R.n s l c R.a mp w t 0 x o) M = some (.bool true, M) := by
  have hle := R.le
  have hf := free_run h.row 0 (m := m) (by omega)
  rw [show (0 : Int).toNat = 0 from rfl, placeA_eq] at hf
  rw [fr1, all1_end]
  simp only [hf, bO, aT, aC, aI, aB, aN]
  subst ht
  cases e : firstP (fun j => !bitAt ws j) R.n 0 with
  | some y =>
    obtain ⟨y1, ⟨y2, y3⟩, y4⟩ := firstP_some.1 e
    have h0 : 0 = cB (fun j => !bitAt ws j) y := (cB_gap (a := 0) (b := y) (by omega) (fun j h1 h2 => y4 j h2 h1)).symm
    obtain ⟨y', hy'⟩ := all2_loop (c := c) h (m := m) (by omega) w (cB (bitAt ws) R.n) x o (afterLoop Tryd.prog HK Tryd.f3 2 m) (R.n - y) y 0 m (Nat.le_refl _) y1 (by simpa using y3) h0 (by omega)
    exact hy'.trans (all_last h (by omega) w x y' o false)
  | none =>
    obtain ⟨mm, rfl⟩ : ∃ k, m = k + 1 := ⟨m - 1, by omega⟩
    rw [firstP_none] at e
    have h0 : cB (fun j => !bitAt ws j) R.n = 0 := cB_gap (a := 0) (b := R.n) (by omega) (fun j h1 h2 => e j h2 h1)
    show runLoop Tryd.prog HK Tryd.f3 2 _ (mm + 1) (mm + 1) (fr2 R.n s l c R.a mp w (cB (bitAt ws) R.n) 0 x o 0 false) M _ = _
    rw [runLoop_succ, all2_stop, onward_exit]
    have := all_last (c := c) h (m := mm + 1) (by omega) w x 0 o false
    rw [h0] at this
    exact this

/-- the first loop's end and what follows -/
theorem all_first (h : InvA M R mp s l xs cnt ws ks) (hm : 70001 ≤ m) (w : Nat) :
    afterLoop Tryd.prog HK Tryd.f3 0 m (.exit 0) (fr0 R.n s l c R.a mp w) M = some (.bool true, M) := by
  have hle := R.le
  have hf := next_run h.row 0 (m := m) (by omega)
  rw [show (0 : Int).toNat = 0 from rfl, placeA_eq] at hf
  rw [fr0, all0_end]
  simp only [hf, bO, aT, aC, aI, aB, aN]
  cases e : firstP (bitAt ws) R.n 0 with
  | some y =>
    obtain ⟨y1, ⟨y2, y3⟩, y4⟩ := firstP_some.1 e
    have h0 : 0 = cB (bitAt ws) y := (cB_gap (a := 0) (b := y) (by omega) (fun j h1 h2 => y4 j h2 h1)).symm
    obtain ⟨y', hy'⟩ := all1_loop (c := c) h (m := m) (by omega) w 0 (afterLoop Tryd.prog HK Tryd.f3 1 m) (R.n - y) y 0 m (Nat.le_refl _) y1 y3 h0 (by omega)
    exact hy'.trans (all_second h hm w _ y' false rfl)
  | none =>
    obtain ⟨mm, rfl⟩ : ∃ k, m = k + 1 := ⟨m - 1, by omega⟩
    rw [firstP_none] at e
    have h0 : cB (bitAt ws) R.n = 0 := cB_gap (a := 0) (b := R.n) (by omega) (fun j h1 h2 => e j h2 h1)
    show runLoop Tryd.prog HK Tryd.f3 1 _ (mm + 1) (mm + 1) (fr1 R.n s l c R.a mp w 0 0 0 false) M _ = _
    rw [runLoop_succ, all1_stop, onward_exit]
    exact all_second (c := c) h (m := mm + 1) hm w 0 0 false h0.symm

/-- BitsAll, at every number and slice -/
theorem all_run {M : AMem} {s : Option (Nat × Nat)} {l : Nat} {c : Option Nat} {xs : List Nat} (hs : SlIn M s l xs) (hx : ∀ x ∈ xs, x < 65536) (i : Int) (hr : Roots mem0 M) (ht : M.get 0 = some (.ro (tabInts.map (AV.int .u8)))) (hn : 2 ≤ M.next) :
    isT (call 70010 3 [.int .i64 i, .slice s l c] M) = true := by
  rw [call, acall_run Tryd.func3 (hk (by decide)), all_eq]
  by_cases hi : i < 1 ∨ 65536 < i
  · have h8 := new_out (M := M) (m := 70009) hi (by omega)
    have ha := awake_run hr (m := 70009) (by omega)
    simp only [h8, bO, aT, aC, aP, aI, aN, show ((2 : Int) != 0) = true from rfl, tf, iF, iT, cond_true]
    by_cases q : i < 1
    · rw [decide_eq_true q]
      simp only [tf, iF, iT, ha, bO, aB]; rfl
    · rw [decide_eq_false q, decide_eq_true (show i > 65536 by omega)]
      simp only [ff, iT, cond_false, tt, ha, bO, aB, cond_true]; rfl
  · obtain ⟨n, rfl⟩ : ∃ n : Nat, i = n := ⟨i.toNat, by omega⟩
    have h8 := new_in (M := M) (n := n) (m := 70009) (by omega) (by omega) (by omega)
    have hne1 : ((0 : Int) != 0) = false := rfl
    simp only [h8, bO, aT, aC, aP, aI, aN, hne1, ff, iT, cond_false, eS, iF]
    let R : RowS := ⟨M.next + 1, M.next, n, some ((n + 63) / 64), 0, 0, true, true, by omega, by omega, by omega⟩
    have hget : ∀ q, q < M.next → (((M.new (.cells ((List.replicate ((n + 63) / 64) 0#64).map wA) 0 true)).new (.cells [.int .i64 n, .int .i64 0, .slice (some (M.next, 0)) ((n + 63) / 64) (some ((n + 63) / 64))] 0 true)).new (.map [] 0)).get q = M.get q := fun q hq => by
      rw [AMem.get_new, AMem.get_new, AMem.get_new, AMem.next_new, AMem.next_new, if_neg (by omega), if_neg (by omega), if_neg (by omega)]
    have inv : InvA (((M.new (.cells ((List.replicate ((n + 63) / 64) 0#64).map wA) 0 true)).new (.cells [.int .i64 n, .int .i64 0, .slice (some (M.next, 0)) ((n + 63) / 64) (some ((n + 63) / 64))] 0 true)).new (.map [] 0)) R (M.next + 2) s l xs 0 (List.replicate ((n + 63) / 64) 0#64) [] := by
      refine ⟨⟨?_, ?_, by simp [R], fun i _ => bitAt_rep _ _, ?_⟩, ⟨0, ?_⟩, hs.of (hget 1 (by omega)), ?_, fun j => ?_, ?_, rfl, ?_⟩
      · rw [AMem.get_new, AMem.get_new, AMem.next_new, AMem.next_new, if_neg (show ¬ R.a = _ by show ¬ M.next + 1 = M.next + 1 + 1; omega), if_pos (show R.a = M.next + 1 from rfl)]
        simp [R]
      · rw [AMem.get_new, AMem.get_new, AMem.get_new, AMem.next_new, AMem.next_new, if_neg (show ¬ R.b = _ by show ¬ M.next = M.next + 1 + 1; omega), if_neg (show ¬ R.b = _ by show ¬ M.next = M.next + 1; omega), if_pos (show R.b = M.next from rfl)]
      · rw [hget 0 (by omega)]; exact ht
      · rw [AMem.get_new, AMem.next_new, AMem.next_new, if_pos rfl]; rfl
      · show M.next + 1 ≠ 0 ∧ M.next ≠ 0 ∧ M.next + 1 ≠ 1 ∧ M.next ≠ 1 ∧ M.next + 2 ≠ 0 ∧ M.next + 2 ≠ 1 ∧ M.next + 2 ≠ M.next + 1 ∧ M.next + 2 ≠ M.next
        omega
      · rw [bitAt_rep]; simp
      · exact (cB_gap (a := 0) (b := R.n) (by omega) (fun j _ _ => bitAt_rep _ _)).symm
      · rw [AMem.next_new, AMem.next_new, AMem.next_new]; omega
    obtain ⟨M', cnt', ws', ks', w', inv', e⟩ := all0_loop (c := c) (m := 70009) hx (by omega) 500 0 70009 inv rfl (by omega) (by omega)
    have hlast := all_first (c := c) inv' (m := 70009) (by omega) w'
    have hrun := e.trans hlast
    have hn2 : ((M.new (.cells ((List.replicate ((n + 63) / 64) 0#64).map wA) 0 true)).new (.cells [.int .i64 n, .int .i64 0, .slice (some (M.next, 0)) ((n + 63) / 64) (some ((n + 63) / 64))] 0 true)).next = M.next + 2 := rfl
    rw [hn2]
    exact (congrArg isT hrun).trans rfl
end Go.Proofs.YtiecjbgefkelfaaDoor
