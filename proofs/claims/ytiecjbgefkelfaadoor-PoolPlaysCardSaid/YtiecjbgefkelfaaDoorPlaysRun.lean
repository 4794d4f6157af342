/-
  'sluicegatelaw07.PoolPlays' answers true, told of the abstract memory: a round's switch.
-/
import Derived.Test.YtiecjbgefkelfaaDoorPlaysRef
import Derived.Test.YtiecjbgefkelfaaDoorOnceLoop
namespace Go.Proofs.YtiecjbgefkelfaaDoor
open Go.Ab
set_option linter.unusedVariables false
set_option linter.unusedSimpArgs false
set_option maxRecDepth 100000

/-- what holds between the rounds -/
structure Inv7 (M : AMem) (a : Nat) (R : RowS) (p : Nat) (s : Option (Nat × Nat)) (l : Nat) (xs : List (Int × Int × Nat)) (cnt : Nat) (ws : List W64) (bs : List Bool) : Prop where
  pool : PoolAt M a R cnt ws
  ref : RefAt M p R.n bs
  eq : ∀ j, bs.getD j false = bitAt ws j
  sl : Act3In M s l xs
  big : 2 ≤ p ∧ p ≠ a ∧ p ≠ R.a ∧ p ≠ R.b ∧ p < M.next

section
variable {M : AMem} {a : Nat} {R : RowS} {p cnt : Nat} {ws : List W64} {bs : List Bool} {m : Nat} {s : Option (Nat × Nat)} {l : Nat} {c : Option Nat} {xs : List (Int × Int × Nat)}

theorem Inv7.free (h : Inv7 M a R p s l xs cnt ws bs) : cB (fun j => !bs.getD j false) R.n = R.n - cnt := by
  have e : cB (fun j => !bs.getD j false) R.n = cB (fun j => !bitAt ws j) R.n := cB_ext fun j _ => by rw [h.eq]
  have := cB_not (bitAt ws) R.n
  rw [e, h.pool.num]; omega

/-- first the reference goes on, then the pool -/
theorem Inv7.step (h : Inv7 M a R p s l xs cnt ws bs) {M1 M2 : AMem} {p' cnt' : Nat} {ws' : List W64} {bs' : List Bool} (hn1 : M.next ≤ M1.next) (f1 : ∀ q, q < M.next → M1.get q = M.get q) (hr : RefAt M1 p' R.n bs') (hp1 : p' < M1.next) (hp2 : p' = p ∨ M.next ≤ p')
    (hp : PoolAt M2 a R cnt' ws') (hn2 : M1.next ≤ M2.next) (f2 : ∀ q, q < M1.next → q ≠ R.a → q ≠ R.b → M2.get q = M1.get q) (he : ∀ j, bs'.getD j false = bitAt ws' j) : Inv7 M2 a R p' s l xs cnt' ws' bs' := by
  obtain ⟨b1, b2, b3, b4, b5⟩ := h.big
  obtain ⟨l1, l2, l3⟩ := h.pool.lt
  obtain ⟨q1, q2, q3, q4, q5⟩ := h.pool.big
  have hpa : p' ≠ a ∧ p' ≠ R.a ∧ p' ≠ R.b ∧ 2 ≤ p' := by
    rcases hp2 with rfl | h'
    · exact ⟨b2, b3, b4, b1⟩
    · exact ⟨by omega, by omega, by omega, by omega⟩
  refine ⟨hp, ?_, he, h.sl.of ((f2 1 (by omega) (by omega) (by omega)).trans (f1 1 (by omega))), ⟨hpa.2.2.2, hpa.1, hpa.2.1, hpa.2.2.1, by omega⟩⟩
  obtain ⟨sz, cl, hh⟩ := hr.get
  exact ⟨⟨sz, cl, by rw [f2 p' hp1 hpa.2.1 hpa.2.2.1]; exact hh⟩, hr.len⟩

theorem PoolAt.grow (h : PoolAt M a R cnt ws) {M1 : AMem} (hn1 : M.next ≤ M1.next) (f1 : ∀ q, q < M.next → M1.get q = M.get q) : PoolAt M1 a R cnt ws := by
  obtain ⟨l1, l2, l3⟩ := h.lt
  obtain ⟨q1, q2, q3, q4, q5⟩ := h.big
  exact h.of hn1 (f1 0 (by omega)) (f1 a l1) (f1 _ l2) (f1 _ l3)

theorem pmark_all (h : PoolAt M a R cnt ws) {i : Nat} (hi : i < 4294967296) (hm : 6 ≤ m) : ∃ (M' : AMem) (cnt' : Nat) (ws' : List W64), call m 35 [.ptr (some (a, 0)), .int .u32 i] M = some (.int .i64 (if R.n ≤ i then 4 else if bitAt ws i = true then 10 else 0), M') ∧ PoolAt M' a R cnt' ws' ∧
    (∀ j, bitAt ws' j = ((decide (j = i) && decide (i < R.n)) || bitAt ws j)) ∧ M'.next = M.next ∧ ∀ q, q ≠ R.a → q ≠ R.b → M'.get q = M.get q := by
  have hmk := mark_run h hi (m := m) (by omega)
  by_cases hin : R.n ≤ i
  · refine ⟨M, cnt, ws, ?_, h, fun j => by rw [decide_eq_false (show ¬ i < R.n by omega)]; simp, rfl, fun _ _ _ => rfl⟩
    rw [hmk, set_out h.row (i := (i : Int)) (by omega) (by omega), if_pos hin]
    simp only [bO, aI]
  · cases hb : bitAt ws i with
    | true =>
      refine ⟨M, cnt, ws, ?_, h, fun j => ?_, rfl, fun _ _ _ => rfl⟩
      · have e := set_in h.row (show i < R.n by omega) (m := m - 1) (by omega) h.le
        rw [hb, if_pos rfl] at e
        rw [hmk, e, if_neg hin, if_pos rfl]
        simp only [bO, aI]
      · by_cases e : j = i
        · subst e; rw [hb]; simp
        · simp [e]
    | false =>
      obtain ⟨ws', M', e, hp, hb', hn, hf⟩ := pset h (show i < R.n by omega) hb (m := m - 1) (by omega)
      refine ⟨M', cnt + 1, ws', ?_, hp, fun j => by rw [hb', decide_eq_true (show i < R.n by omega), Bool.and_true], hn, hf⟩
      rw [hmk, e, if_neg hin, if_neg (by simp)]
      simp only [bO, aI]

theorem pgive_all (h : PoolAt M a R cnt ws) {i : Nat} (hi : i < 4294967296) (hm : 6 ≤ m) : ∃ (M' : AMem) (cnt' : Nat) (ws' : List W64), call m 27 [.ptr (some (a, 0)), .int .u32 i] M = some (.int .i64 (if i = 0 then 2 else if R.n ≤ i then 4 else if bitAt ws i = true then 0 else 9), M') ∧ PoolAt M' a R cnt' ws' ∧
    (∀ j, bitAt ws' j = (!(decide (j = i) && decide (0 < i)) && bitAt ws j)) ∧ M'.next = M.next ∧ ∀ q, q ≠ R.a → q ≠ R.b → M'.get q = M.get q := by
  have hmk := give_run h hi (m := m) (by omega)
  by_cases hz : i = 0
  · refine ⟨M, cnt, ws, ?_, h, fun j => by simp [hz], rfl, fun _ _ _ => rfl⟩
    rw [hmk, if_pos hz, if_pos hz]
  rw [if_neg hz] at hmk
  rw [if_neg hz]
  by_cases hin : R.n ≤ i
  · refine ⟨M, cnt, ws, ?_, h, fun j => ?_, rfl, fun _ _ _ => rfl⟩
    · rw [hmk, clear_out h.row (i := (i : Int)) (by omega) (by omega), if_pos hin]
      simp only [bO, aI]
    · by_cases e : j = i
      · subst e; rw [h.row.top j hin]; simp
      · simp [e]
  · cases hb : bitAt ws i with
    | false =>
      refine ⟨M, cnt, ws, ?_, h, fun j => ?_, rfl, fun _ _ _ => rfl⟩
      · have e := clear_in h.row (show i < R.n by omega) (m := m - 1) (by omega) h.le
        rw [hb, if_neg (by simp)] at e
        rw [hmk, e, if_neg hin, if_neg (by simp)]
        simp only [bO, aI]
      · by_cases e : j = i
        · subst e; rw [hb]; simp
        · simp [e]
    | true =>
      obtain ⟨cnt', ws', M', _, e, hp, hb', hn, hf⟩ := pclear h (show i < R.n by omega) hb (m := m - 1) (by omega)
      refine ⟨M', cnt', ws', ?_, hp, fun j => ?_, hn, hf⟩
      · rw [hmk, e, if_neg hin, if_pos rfl]
        simp only [bO, aI]
      · rw [hb', decide_eq_true (show 0 < i by omega), Bool.and_true]

abbrev foP (n : Nat) (s : Option (Nat × Nat)) (l : Nat) (c : Option Nat) (ask a p : Nat) (qc : Option Nat) (w d : Nat) (kd : Int) : Fr :=
  mkFr [(0, .int .i64 n), (1, .slice s l c), (2, .int .u32 ask), (6, .bool false), (7, .ptr (some (a, 0))), (8, .int .i64 0), (9, .slice (some (p, 0)) n qc), (10, .int .i64 w), (11, .ptr (some (d, 0))), (12, .bool true), (86, .int .i64 kd)]

/-- what the switch leaves -/
abbrev OnP (M0 : AMem) (ask a : Nat) (R : RowS) (s : Option (Nat × Nat)) (l : Nat) (c : Option Nat) (xs : List (Int × Int × Nat)) (w d : Nat) (kd : Int) (k : AExit → Fr → AMem → Option (AV × AMem)) (r : Option (AV × AMem)) : Prop :=
  ∃ (M' : AMem) (p' cnt' : Nat) (ws' : List W64) (bs' : List Bool) (qc' : Option Nat), Inv7 M' a R p' s l xs cnt' ws' bs' ∧ r = k .normal (foP R.n s l c ask a p' qc' w d kd) M'

theorem gr_nil : Gr M none 0 (some 0) (([] : List Nat).map uA) := ⟨rfl, .inl ⟨rfl, rfl⟩⟩

theorem places_ref (h : Inv7 M a R p s l xs cnt ws bs) : placesP (fun j => !bs.getD j false) R.n 0 = placesP (fun j => !bitAt ws j) R.n 0 := placesP_ext fun j _ _ => by rw [h.eq]

/-- Take, against the reference's Grab of one -/
theorem sw_take (h : Inv7 M a R p s l xs cnt ws bs) (ask : Nat) {qc : Option Nat} (w d : Nat) (kd : Int) (hkd : kd = 0 ∨ kd = 1) (hm : 70001 ≤ m) (j74 j75 j77 j78 j83 j84 : AV) (k : AExit → Fr → AMem → Option (AV × AMem)) :
    OnP M ask a R s l c xs w d kd k (runBlk Tryd.prog HK Tryd.f6 0 2 m (mkFr [(0, .int .i64 R.n), (1, .slice s l c), (2, .int .u32 ask), (6, .bool false), (7, .ptr (some (a, 0))), (8, .int .i64 0), (9, .slice (some (p, 0)) R.n qc), (10, .int .i64 w), (11, .ptr (some (d, 0))), (12, .bool true), (71, .int .i64 w), (72, .slice s l c), (73, .int .i64 l), (74, j74), (75, j75), (76, .int .i64 w), (77, j77), (78, j78), (81, .slice s l c), (82, .int .i64 w), (83, j83), (84, j84), (85, .ptr (some (d, 0))), (86, .int .i64 kd)]) M k) := by
  have hle := R.le
  have hcl := h.pool.le
  have hfree := h.free
  rw [pp_switch]
  by_cases full : cnt = R.n
  · have e1 := r7grab_full (qc := qc) h.ref (by omega) (k := 1) (by rw [hfree]; omega) (m := m) (by omega)
    have e2 := take_full h.pool full.symm (m := m) (by omega)
    refine ⟨M, p, cnt, ws, bs, qc, h, ?_⟩
    have t1 : ((11 : Int) == 11) = true := rfl
    have t2 : ((11 : Int) != 0) = true := rfl
    have t3 : ((11 : Int) == 0) = false := rfl
    have t4 : ((0 : Int) == 0) = true := rfl
    rcases hkd with rfl | rfl
    · simp only [t4, iT, e1, bO, aT, aC, aL, aI, aN, e2, t1, t2, t3, tt, cond_true, tf, ft, iF]
    · simp only [show ((1 : Int) == 0) = false from rfl, show ((1 : Int) == 1) = true from rfl, t4, iT, iF, e1, bO, aT, aC, aL, aI, aN, e2, t1, t2, t3, tt, cond_true, tf, ft]
  · obtain ⟨M1, p', bs', qc', u', ul', uc', e1, r1, r2, r3, r4, r5, r6, r7, r8⟩ := r7grab_ok (qc := qc) h.ref h.big.2.2.2.2 (by omega) (k := 1) (by rw [hfree]; omega) (m := m) (by omega)
    have hp1 := h.pool.grow r8 r7
    obtain ⟨M2, ws', x, e2, hp, hx, hb, hf, hn⟩ := take_ok hp1 (by omega) (m := m) (by omega)
    rw [places_ref h, hx] at r4 r6
    have hul : ul' = 1 := by have := r4.len; simpa using this.symm
    subst hul
    obtain ⟨b, hub, hrow⟩ := r4.get Nat.zero_lt_one
    obtain ⟨q1, q2, q3⟩ := r5 b hub
    obtain ⟨l1, l2, l3⟩ := h.pool.lt
    have hrow2 : M2.row b = some [.int .u32 x] := by
      unfold AMem.row
      rw [hf b q2 (by omega) (by omega)]
      exact hrow
    have inv := h.step r8 r7 r1 r2 r3 hp hn hf (fun j => by rw [r6, hb, h.eq]; simp)
    refine ⟨M2, p', cnt + 1, ws', bs', qc', inv, ?_⟩
    have t1 : ((0 : Int) == 0) = true := rfl
    have t2 : ((0 : Int) != 0) = false := rfl
    have t3 : ((x : Int) == (x : Int)) = true := by simp
    have e1' : call m 32 [.slice (some (p, 0)) R.n qc, .int .i64 1] M = some (.tup [.slice (some (p', 0)) R.n qc', .slice (some (b, 0)) 1 uc', .int .i64 0], M1) := by rw [← hub]; exact e1
    rcases hkd with rfl | rfl
    · simp only [t1, iT, e1', bO, aT, aC, aL, aI, aN, e2, t2, tt, cond_true, cond_false, tf, ft, ff, iF, show decide ((0 : Int) < ((1 : Nat) : Int)) = true from rfl, nT, hrow2, Nat.zero_add, List.getElem?_cons_zero, t3]
    · simp only [show ((1 : Int) == 0) = false from rfl, show ((1 : Int) == 1) = true from rfl, t1, iT, e1', bO, aT, aC, aL, aI, aN, e2, t2, tt, cond_true, cond_false, tf, ft, ff, iF, show decide ((0 : Int) < ((1 : Nat) : Int)) = true from rfl, nT, hrow2, Nat.zero_add, List.getElem?_cons_zero, t3]

/-- Grab, Mark, Give, and nothing -/
theorem sw_rest (h : Inv7 M a R p s l xs cnt ws bs) (ask : Nat) {qc : Option Nat} (w d : Nat) (kd kk : Int) (i : Nat) (hi : i < 4294967296) (hkd : kd ≠ 0 ∧ kd ≠ 1) (hd : d < M.next) (hgd : ∃ sz cl, M.get d = some (.cells [.int .i64 kd, .int .i64 kk, .int .u32 i] sz cl)) (hm : 70001 ≤ m) (j74 j75 j77 j78 j83 j84 : AV) (k : AExit → Fr → AMem → Option (AV × AMem)) :
    OnP M ask a R s l c xs w d kd k (runBlk Tryd.prog HK Tryd.f6 0 2 m (mkFr [(0, .int .i64 R.n), (1, .slice s l c), (2, .int .u32 ask), (6, .bool false), (7, .ptr (some (a, 0))), (8, .int .i64 0), (9, .slice (some (p, 0)) R.n qc), (10, .int .i64 w), (11, .ptr (some (d, 0))), (12, .bool true), (71, .int .i64 w), (72, .slice s l c), (73, .int .i64 l), (74, j74), (75, j75), (76, .int .i64 w), (77, j77), (78, j78), (81, .slice s l c), (82, .int .i64 w), (83, j83), (84, j84), (85, .ptr (some (d, 0))), (86, .int .i64 kd)]) M k) := by
  have hle := R.le
  have hcl := h.pool.le
  have hfree := h.free
  obtain ⟨sz, cl, hgd⟩ := hgd
  have hrd : M.row d = some [.int .i64 kd, .int .i64 kk, .int .u32 i] := row_cells hgd
  have n0 : (kd == 0) = false := by simp; omega
  have n1 : (kd == 1) = false := by simp; omega
  rw [pp_switch]
  simp only [n0, n1, iF]
  by_cases k2 : kd = 2
  · subst k2
    have t2 : ((2 : Int) == 2) = true := rfl
    by_cases hneg : kk < 0
    · have e1 := r7grab_neg (p := p) (qc := qc) (n := R.n) (s := some (p, 0)) (M := M) hneg (m := m) (by omega)
      have e2 := grab_neg h.pool hneg (m := m) (by omega)
      have e3 := r7same_run (M := M) (gr_nil (M := M)) gr_nil (by simp) (m := m) (by simp; omega)
      refine ⟨M, p, cnt, ws, bs, qc, h, ?_⟩
      simp only [t2, iT, hrd, bO, List.getElem?_cons_succ, List.getElem?_cons_zero, aI, e1, aT, aC, aL, aN, e2, tt, e3, aB, cond_true]
    · obtain ⟨kn, rfl⟩ : ∃ q : Nat, kk = q := ⟨kk.toNat, by omega⟩
      by_cases hfull : R.n - cnt < kn
      · have e1 := r7grab_full (qc := qc) h.ref (by omega) (k := (kn : Int)) (by rw [hfree]; omega) (m := m) (by omega)
        have e2 := grab_full h.pool (k := (kn : Int)) (by omega) (m := m) (by omega)
        have e3 := r7same_run (M := M) (gr_nil (M := M)) gr_nil (by simp) (m := m) (by simp; omega)
        refine ⟨M, p, cnt, ws, bs, qc, h, ?_⟩
        have t11 : ((11 : Int) == 11) = true := rfl
        simp only [t2, iT, hrd, bO, List.getElem?_cons_succ, List.getElem?_cons_zero, aI, e1, aT, aC, aL, aN, e2, t11, tt, e3, aB, cond_true]
      · obtain ⟨M1, p', bs', qc', u', ul', uc', e1, r1, r2, r3, r4, r5, r6, r7, r8⟩ := r7grab_ok (qc := qc) h.ref h.big.2.2.2.2 (by omega) (k := kn) (by rw [hfree]; omega) (m := m) (by omega)
        have hp1 := h.pool.grow r8 r7
        obtain ⟨M2, ws', u2, c2, e2, hp, hg, hb, hf, hn⟩ := grab_ok hp1 (k := kn) (by omega) (m := m) (by omega)
        rw [places_ref h] at r4 r6
        obtain ⟨l1, l2, l3⟩ := h.pool.lt
        have g2 : Gr M2 u' ul' uc' (((placesP (fun j => !bitAt ws j) R.n 0).take kn).map uA) := r4.of hn (fun b hb hlt => by
          obtain ⟨q1, q2, q3⟩ := r5 b hb
          exact hf b hlt (by omega) (by omega))
        have hlen : ((placesP (fun j => !bitAt ws j) R.n 0).take kn).length ≤ 65536 := by
          rw [List.length_take, cB_places]
          have := cB_le (fun j => !bitAt ws j) R.n
          omega
        have e3 := r7same_run hg.gr g2 hlen (m := m) (by omega)
        have inv := h.step r8 r7 r1 r2 r3 hp hn hf (fun j => by rw [r6, hb, h.eq])
        have hrd1 : M1.row d = some [.int .i64 2, .int .i64 kn, .int .u32 i] := by
          unfold AMem.row
          rw [r7 d hd]
          exact hrd
        refine ⟨M2, p', cnt + kn, ws', bs', qc', inv, ?_⟩
        have t0 : ((0 : Int) == 0) = true := rfl
        simp only [t2, iT, hrd, hrd1, bO, List.getElem?_cons_succ, List.getElem?_cons_zero, aI, e1, aT, aC, aL, aN, e2, t0, tt, e3, aB, cond_true]
  · have n2 : (kd == 2) = false := by simp; omega
    by_cases k3 : kd = 3
    · subst k3
      have t3 : ((3 : Int) == 3) = true := rfl
      obtain ⟨M1, p', bs', qc', e1, r1, r2, r3, r4, r5, r6⟩ := r7mark_run (qc := qc) h.ref h.big.2.2.2.2 (by omega) hi (m := m) (by omega)
      have hp1 := h.pool.grow r6 r5
      obtain ⟨M2, cnt', ws', e2, hp, hb, hn, hf⟩ := pmark_all hp1 hi (m := m) (by omega)
      have inv := h.step r6 r5 r1 r2 r3 hp (by omega) (fun q _ h1 h2 => hf q h1 h2) (fun j => by rw [r4, hb, h.eq])
      rw [h.eq] at e1
      have hrd1 : M1.row d = some [.int .i64 3, .int .i64 kk, .int .u32 i] := by
        unfold AMem.row
        rw [r5 d hd]
        exact hrd
      refine ⟨M2, p', cnt', ws', bs', qc', inv, ?_⟩
      generalize (if R.n ≤ i then (4 : Int) else if bitAt ws i = true then 10 else 0) = v at *
      have tv : (v == v) = true := by simp
      simp only [n2, t3, iF, iT, hrd, hrd1, bO, List.getElem?_cons_succ, List.getElem?_cons_zero, aI, e1, aT, aC, aL, aN, e2, tv]
    · have n3 : (kd == 3) = false := by simp; omega
      by_cases k45 : kd = 4 ∨ kd = 5
      · have hpos := R.pos
        obtain ⟨M1, p', bs', qc', e1, r1, r2, r3, r4, r5, r6⟩ := r7give_run (qc := qc) h.ref h.big.2.2.2.2 (by omega) (by omega) hi (m := m) (by omega)
        have hp1 := h.pool.grow r6 r5
        obtain ⟨M2, cnt', ws', e2, hp, hb, hn, hf⟩ := pgive_all hp1 hi (m := m) (by omega)
        have inv := h.step r6 r5 r1 r2 r3 hp (by omega) (fun q _ h1 h2 => hf q h1 h2) (fun j => by rw [r4, hb, h.eq])
        rw [h.eq] at e1
        have hrd1 : M1.row d = some [.int .i64 kd, .int .i64 kk, .int .u32 i] := by
          unfold AMem.row
          rw [r5 d hd]
          exact hrd
        refine ⟨M2, p', cnt', ws', bs', qc', inv, ?_⟩
        generalize (if i = 0 then (2 : Int) else if R.n ≤ i then 4 else if bitAt ws i = true then 0 else 9) = v at *
        have tv : (v == v) = true := by simp
        rcases k45 with rfl | rfl
        · simp only [n2, n3, show ((4 : Int) == 4) = true from rfl, iF, iT, hrd, hrd1, bO, List.getElem?_cons_succ, List.getElem?_cons_zero, aI, e1, aT, aC, aL, aN, e2, tv]
        · simp only [n2, n3, show ((5 : Int) == 4) = false from rfl, show ((5 : Int) == 5) = true from rfl, iF, iT, hrd, hrd1, bO, List.getElem?_cons_succ, List.getElem?_cons_zero, aI, e1, aT, aC, aL, aN, e2, tv]
      · have n4 : (kd == 4) = false := by simp; omega
        have n5 : (kd == 5) = false := by simp; omega
        refine ⟨M, p, cnt, ws, bs, qc, h, ?_⟩
        simp only [n2, n3, n4, n5, iF]

theorem act3Cells_len : ∀ xs : List (Int × Int × Nat), (act3Cells xs).length = xs.length * 3
  | [] => rfl
  | x :: xs => by
    show (AV.int .i64 x.1 :: AV.int .i64 x.2.1 :: AV.int .u32 x.2.2 :: act3Cells xs).length = _
    rw [List.length_cons, List.length_cons, List.length_cons, act3Cells_len xs, List.length_cons]; omega

abbrev fp0 (n : Nat) (s : Option (Nat × Nat)) (l : Nat) (c : Option Nat) (ask a p : Nat) (qc : Option Nat) (w : Nat) : Fr :=
  mkFr [(0, .int .i64 n), (1, .slice s l c), (2, .int .u32 ask), (6, .bool false), (7, .ptr (some (a, 0))), (8, .int .i64 0), (9, .slice (some (p, 0)) n qc), (10, .int .i64 w)]

/-- a round's end: all that is told is right -/
theorem pp_check (h : Inv7 M a R p s l xs cnt ws bs) {ask : Nat} (ha : ask < 4294967296) {qc : Option Nat} {w : Nat} (hw : w < 60) (d : Nat) (kd : Int) (hm : 70001 ≤ m) (k : AExit → Fr → AMem → Option (AV × AMem)) :
    ∃ M', Inv7 M' a R p s l xs cnt ws bs ∧ behindBlk Tryd.prog HK Tryd.f6 0 2 m [0, 1, 2, 6, 7, 8, 9, 10] k .normal (foP R.n s l c ask a p qc w d kd) M = k .normal (fp0 R.n s l c ask a p qc (w + 1)) M' := by
  have hle := R.le
  have hcl := h.pool.le
  have hfree := h.free
  obtain ⟨M1, u1, ul1, uc1, e1, g1, f1, n1⟩ := prow_run h.pool (m := m) (by omega)
  have hp1 := h.pool.grow n1 f1
  have i1 := h.step n1 f1 (M2 := M1) (p' := p) (bs' := bs) (by
    obtain ⟨sz, cl, hh⟩ := h.ref.get
    exact ⟨⟨sz, cl, by rw [f1 p h.big.2.2.2.2]; exact hh⟩, h.ref.len⟩) (by have := h.big; omega) (.inl rfl) hp1 (Nat.le_refl _) (fun _ _ _ _ => rfl) h.eq
  obtain ⟨M2, u2, ul2, uc2, e2, g2, f2, n2⟩ := r7row_run (qc := qc) i1.ref i1.big.2.2.2.2 (by omega) (m := m) (by omega)
  have hp2 := i1.pool.grow n2 f2
  have i2 := i1.step n2 f2 (M2 := M2) (p' := p) (bs' := bs) (by
    obtain ⟨sz, cl, hh⟩ := i1.ref.get
    exact ⟨⟨sz, cl, by rw [f2 p i1.big.2.2.2.2]; exact hh⟩, i1.ref.len⟩) (by have := i1.big; omega) (.inl rfl) hp2 (Nat.le_refl _) (fun _ _ _ _ => rfl) h.eq
  have g1' : Gr M2 u1 ul1 uc1 ((placesP (bitAt ws) R.n 0).map uA) := g1.of n2 (fun b _ hlt => f2 b hlt)
  rw [show placesP (fun j => bs.getD j false) R.n 0 = placesP (bitAt ws) R.n 0 from placesP_ext fun j _ _ => h.eq j] at g2
  have hlen : (placesP (bitAt ws) R.n 0).length ≤ 65536 := by
    rw [cB_places]
    have := cB_le (bitAt ws) R.n
    omega
  have e3 := r7same_run g1' g2 hlen (m := m) (by omega)
  have e4 := pfree_run i2.pool (m := m) (by omega)
  have e5 := r7free_run (c := qc) i2.ref (by omega) (m := m) (by omega)
  rw [hfree] at e5
  have e6 := held_run i2.pool (m := m) (by omega)
  have e7 := phas_run i2.pool ha (m := m) (by omega)
  refine ⟨M2, i2, ?_⟩
  have hw0 : IntKind.u64.wrap (ask : Int) = (ask : Int) := wrap_u64 (by omega)
  have hw2 : IntKind.u64.wrap (R.n : Int) = (R.n : Int) := wrap_u64 (by omega)
  have hne : ((((R.n - cnt : Nat)) : Int) != ((R.n - cnt : Nat) : Int)) = false := by simp
  have hsum : ((cnt : Int) != IntKind.i64.wrap ((R.n : Int) - ((R.n - cnt : Nat) : Int))) = false := by
    rw [wrap_i64 (by omega) (by omega), show (R.n : Int) - ((R.n - cnt : Nat) : Int) = (cnt : Int) by omega]
    simp
  have hw1 : IntKind.i64.wrap ((w : Int) + 1) = ((w + 1 : Nat) : Int) := by rw [wrap_i64 (by omega) (by omega)]; rfl
  rw [foP, pp_rest, hw0, hw2]
  by_cases q : ask < R.n
  · have hr := ref_get (bs := bs) (i := ask) (by rw [h.ref.len]; exact q)
    rw [h.eq] at hr
    rw [decide_eq_true q, Bool.true_and] at e7
    have hbb : (bitAt ws ask == bitAt ws ask) = true := by simp
    simp only [dlt q, tt, iT, dnat, Bool.and_self, nT, bO, h.ref.row, Nat.zero_add, Nat.mul_one, Int.toNat_natCast, hr, aB, Bool.not_true, ff, cond_false, e1, aL, e2, e3, e4, aI, e5, hne, e6, hsum, e7, cond_true, hbb, show ((true : Bool) != true) = false from rfl, iF, hw1]
  · have hnq : decide ((ask : Int) < (R.n : Int)) = false := by simp; omega
    rw [decide_eq_false q, Bool.false_and] at e7
    simp only [hnq, ft, iF, iT, aB, Bool.not_true, ff, cond_false, e1, bO, aL, e2, e3, e4, aI, e5, hne, e6, hsum, e7, show ((true : Bool) != true) = false from rfl, hw1]

theorem Inv7.roots (h : Inv7 M a R p s l xs cnt ws bs) : Roots mem0 M := h.pool.roots

theorem pp_last (h : Inv7 M a R p s l xs cnt ws bs) (ask : Nat) (qc : Option Nat) (w : Nat) (hm : 70000 ≤ m) : afterLoop Tryd.prog HK Tryd.f6 0 m (.exit 0) (fp0 R.n s l c ask a p qc w) M = some (.bool true, M) := by
  have ha := awake7_run h.roots (m := m) (by omega)
  rw [fp0, pp_end]
  simp only [ha, bO, aB]

end
end Go.Proofs.YtiecjbgefkelfaaDoor
