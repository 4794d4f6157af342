/-
  great, dump.Text, the document's Text of pairs, and whether pairs are the same.
-/
import Derived.Test.YtacldkbigpfamaaDumpP
namespace Go.Proofs.Ytacldkbigpfamaa
open Go.Ab Go.Words
set_option linter.unusedVariables false
set_option linter.unusedSimpArgs false

def sumT : List (Bs × Bs) → Nat
  | [] => 0
  | p :: ps => p.1.length + p.2.length + sumT ps

theorem sumT_append : ∀ a b, sumT (a ++ b) = sumT a + sumT b
  | [], b => by simp [sumT]
  | p :: a, b => by show p.1.length + p.2.length + sumT (a ++ b) = p.1.length + p.2.length + sumT a + sumT b; rw [sumT_append a b]; omega

theorem sumT_take_le (ps : List (Bs × Bs)) (n : Nat) (h : ∀ p ∈ ps, p.1.length ≤ 140737488355328 ∧ p.2.length ≤ 140737488355328) : sumT (ps.take n) ≤ 281474976710656 * n := by
  induction n generalizing ps with
  | zero => simp [sumT]
  | succ n ih =>
    cases ps with
    | nil => simp [sumT]
    | cons p ps =>
      have h1 := h p (List.mem_cons_self ..)
      have h2 := ih ps fun q hq => h q (List.mem_cons_of_mem _ hq)
      show p.1.length + p.2.length + sumT (ps.take n) ≤ _
      omega

def greatP (ps : List (Bs × Bs)) : Bool := decide (200 < ps.length) || decide (4000 < sumT (ps.take 300))

theorem great_loop {s : Option (Nat × Nat)} {sl m : Nat} {sc : Option Nat} {r : Bool} {ps : List (Bs × Bs)} {M : AMem} (hp : PIn M s sl ps) (hsz : ∀ p ∈ ps, p.1.length ≤ 140737488355328 ∧ p.2.length ≤ 140737488355328) :
    ∀ (rest pre : List (Bs × Bs)) (j : Nat), ps = pre ++ rest → pre.length ≤ 300 → 300 < j + pre.length →
      runLoop Try.prog HK Try.f5 0 [0, 2, 3, 4] m j (mkFr [(0, .slice s sl sc), (2, .bool r), (3, .int .i64 (sumT pre : Nat)), (4, .int .i64 (pre.length : Nat))]) M (afterLoop Try.prog HK Try.f5 0 m) = some (.bool (greatP ps), M) := by
  have hfin : ∀ (pre : List (Bs × Bs)), ps.take 300 = pre → afterLoop Try.prog HK Try.f5 0 m (.exit 0) (mkFr [(0, .slice s sl sc), (2, .bool r), (3, .int .i64 (sumT pre : Nat)), (4, .int .i64 (pre.length : Nat))]) M = some (.bool (greatP ps), M) := by
    intro pre e
    rw [great_end, ltL200, ltL4000]
    unfold greatP
    rw [e, ← hp.len]
    cases decide (200 < sl) <;> cases decide (4000 < sumT pre) <;> rfl
  intro rest
  induction rest with
  | nil =>
    intro pre j e hpre hj
    obtain ⟨j, rfl⟩ : ∃ k, j = k + 1 := ⟨j - 1, by omega⟩
    rw [List.append_nil] at e
    subst e
    rw [runLoop_succ, great_body, hp.len, ltI_nat, decide_eq_false (Nat.lt_irrefl _)]
    simp only [ft, iF, onward_exit]
    rw [← hp.len]
    exact hfin ps (List.take_of_length_le hpre)
  | cons p rest ih =>
    intro pre j e hpre hj
    obtain ⟨j, rfl⟩ : ∃ k, j = k + 1 := ⟨j - 1, by omega⟩
    obtain ⟨a, rfl, ha, hr⟩ := hp.some e
    have hlen : sl = pre.length + (rest.length + 1) := by rw [hp.len, e]; simp
    rw [runLoop_succ, great_body, ltI_nat, decide_eq_true (show pre.length < sl by omega), ltR300]
    simp only [tt, iT, cond_true]
    by_cases h300 : pre.length < 300
    · have hx : sumT pre ≤ 281474976710656 * 300 := by
        have h1 := sumT_take_le ps 300 hsz
        have h2 : ps.take 300 = pre ++ (p :: rest).take (300 - pre.length) := by rw [e, List.take_append, List.take_of_length_le (by omega)]
        rw [h2, sumT_append] at h1
        omega
      have hpz := hsz p (by rw [e]; simp)
      have w1 : IntKind.i64.wrap ((p.1.length : Int) + (p.2.length : Int)) = ((p.1.length + p.2.length : Nat) : Int) := wrap_up (by omega)
      have w2 : IntKind.i64.wrap ((sumT pre : Int) + ((p.1.length + p.2.length : Nat) : Int)) = ((sumT (pre ++ [p]) : Nat) : Int) := by
        rw [wrap_up (by omega), sumT_append]; simp [sumT]
      rw [decide_eq_true h300, iT]
      simp only [dnat, decide_eq_true (show (pre.length : Int) < (sl : Int) by omega), Bool.and_self, nT, bO, aP, Int.toNat_natCast, Nat.zero_add, Nat.add_zero, hr, pc_0, pc_1, aS, w1, w2, forceI_eq, aI]
      rw [wrap_one (by omega), onward_normal]
      have := ih (pre ++ [p]) j (by rw [e]; simp) (by simp; omega) (by simp; omega)
      simp only [List.length_append, List.length_cons, List.length_nil, Nat.zero_add] at this
      exact this
    · rw [decide_eq_false h300]
      simp only [iF, onward_exit]
      refine hfin pre ?_
      rw [e, List.take_append, List.take_of_length_le (by omega), show 300 - pre.length = 0 by omega]
      simp

theorem great_run {s : Option (Nat × Nat)} {sl : Nat} {sc : Option Nat} {ps : List (Bs × Bs)} {M : AMem} (hp : PIn M s sl ps) (hsz : ∀ p ∈ ps, p.1.length ≤ 140737488355328 ∧ p.2.length ≤ 140737488355328) {m : Nat} (hm : 310 ≤ m) :
    call m 5 [.slice s sl sc] M = some (.bool (greatP ps), M) := by
  obtain ⟨m, rfl⟩ : ∃ k, m = k + 1 := ⟨m - 1, by omega⟩
  rw [call, acall_run Try.func5 (hk (by decide)), great_eq]
  exact great_loop hp hsz ps [] m rfl (by simp) (by simp; omega)

/-! ### dump.Text -/
theorem wordT_ge (s : Bs) : s.length ≤ (wordT s).length := by
  unfold wordT
  split
  · rename_i h; rw [h]; simp
  · split
    · rename_i h; rw [h]; simp
    · exact (encL_len s).1

theorem lineT_len (p : Bs × Bs) : (lineT p).length = (wordT p.1).length + (wordT p.2).length + 2 := by unfold lineT; simp; omega
theorem dumpT_append : ∀ a b, dumpT (a ++ b) = dumpT a ++ dumpT b
  | [], b => rfl
  | p :: a, b => by show lineT p ++ dumpT (a ++ b) = lineT p ++ dumpT a ++ dumpT b; rw [dumpT_append a b, List.append_assoc]
theorem dumpT_one (p : Bs × Bs) : dumpT [p] = lineT p := by show lineT p ++ [] = _; rw [List.append_nil]

theorem dumptext_loop {s t : Option (Nat × Nat)} {sl tl b m : Nat} {sc tc : Option Nat} {r : Bs} {ps : List (Bs × Bs)} (hd : (dumpT ps).length ≤ 900000) (hl : tl = ps.length) (hm : 900040 ≤ m) : ∀ (rest pre : List (Bs × Bs)) (j : Nat) (M : AMem), ps = pre ++ rest → rest.length < j → Bld tB tU M b (dumpT pre) →
    (ps = [] ∨ ∃ a, t = some (a, 0) ∧ a < b ∧ M.row a = some (pairCells ps)) →
    ∃ M', runLoop Try.prog HK Try.f7 0 [0, 2, 3, 6, 7, 8] m j (mkFr [(0, .slice s sl sc), (2, .str r), (3, .ptr (some (b, 0))), (6, .slice t tl tc), (7, .int .i64 (tl : Nat)), (8, .int .i64 (pre.length : Nat))]) M (afterLoop Try.prog HK Try.f7 0 m) = some (.str (dumpT ps), M') ∧ Keeps b M M' := by
  intro rest
  induction rest with
  | nil =>
    intro pre j M e hj hb hin
    obtain ⟨j, rfl⟩ : ∃ k, j = k + 1 := ⟨j - 1, by simp at hj; omega⟩
    rw [List.append_nil] at e
    subst e
    obtain ⟨M', r1, k1⟩ := strB_run hb (by unfold roomA; omega) (m := m) (by omega)
    refine ⟨M', ?_, k1⟩
    rw [runLoop_succ, dumptext_body, hl, ltI_nat, decide_eq_false (Nat.lt_irrefl _), iF, onward_exit, dumptext_end]
    rw [show acall Try.prog HK m 14 [.ptr (some (b, 0))] M = _ from r1]
    rfl
  | cons p rest ih =>
    intro pre j M e hj hb hin
    obtain ⟨j, rfl⟩ : ∃ k, j = k + 1 := ⟨j - 1, by omega⟩
    obtain ⟨a, rfl, hab, hr⟩ : ∃ a, t = some (a, 0) ∧ a < b ∧ M.row a = some (pairCells (pre ++ p :: rest)) := by
      rcases hin with h | ⟨a, h1, h2, h3⟩
      · rw [h] at e; cases pre <;> cases e
      · exact ⟨a, h1, h2, by rw [← e]; exact h3⟩
    have hlen : tl = pre.length + (rest.length + 1) := by rw [hl, e]; simp
    have hdl : (dumpT pre).length + (lineT p).length + (dumpT rest).length ≤ 900000 := by
      rw [e, dumpT_append] at hd
      simp only [List.length_append] at hd
      have : (dumpT (p :: rest)).length = (lineT p).length + (dumpT rest).length := by show (lineT p ++ dumpT rest).length = _; simp
      omega
    have hll := lineT_len p
    have g1 := wordT_ge p.1
    have g2 := wordT_ge p.2
    have hprel : pre.length ≤ 900000 := by
      have : ∀ l : List (Bs × Bs), l.length ≤ (dumpT l).length := by
        intro l
        induction l with
        | nil => simp
        | cons q l ihl =>
          have h1 := lineT_len q
          show (q :: l).length ≤ (lineT q ++ dumpT l).length
          simp only [List.length_cons, List.length_append]; omega
      have := this pre
      omega
    let M1 := M.new (.cells [.str [], .str []] 0 .yes)
    let M2 := M1.set M.next (.cells [.str p.1, .str p.2] 0 .yes)
    have hbn := hb.lt
    have k2 : Keeps M.next M M2 := (Keeps.new _ (Nat.le_refl _)).trans (Keeps.set _ (Nat.le_refl _)) (Nat.le_refl _)
    have n2 : M2.next = M.next + 1 := rfl
    have hrow2 : M2.row M.next = some [.str p.1, .str p.2] := two_row
    obtain ⟨M3, r3, k3⟩ := dtext_run p.1 (by omega) (M := M2) (by omega) (m := m) (by omega)
    have hrow3 : M3.row M.next = some [.str p.1, .str p.2] := (k3.row (by omega)).trans hrow2
    obtain ⟨M4, r4, k4⟩ := dtext_run p.2 (by omega) (M := M3) (by have := k3.next; omega) (m := m) (by omega)
    have k24 : Keeps M.next M M4 := (k2.trans k3 (by omega)).trans k4 (by have := k3.next; omega)
    obtain ⟨M5, r5, h5, k5⟩ := ws_run (hb.keeps k24) (t := lineT p) (by unfold lineT; simp) (by unfold roomA; omega) (m := m) (by omega)
    have k05 : Keeps b M M5 := (k24.less (by omega)).trans k5 (Nat.le_refl _)
    obtain ⟨M', r6, k6⟩ := ih (pre ++ [p]) j M5 (by rw [e]; simp) (by simp at hj; omega) (by rw [dumpT_append, dumpT_one]; exact h5) (.inr ⟨a, rfl, hab, by rw [k05.row hab, hr, ← e]⟩)
    simp only [List.length_append, List.length_cons, List.length_nil, Nat.zero_add] at r6
    refine ⟨M', ?_, k05.trans k6 (Nat.le_refl _)⟩
    rw [runLoop_succ, dumptext_body, ltI_nat, decide_eq_true (show pre.length < tl by omega), iT]
    simp only [dnat, decide_eq_true (show (pre.length : Int) < (tl : Int) by omega), Bool.and_self, nT, bO, Int.toNat_natCast, Nat.zero_add, hr]
    rw [if_pos (show pre.length * 2 + 2 ≤ (pairCells (pre ++ p :: rest)).length by rw [pairCells_len]; simp; omega), pc_take]
    simp only [bO, aG, aC, aS, aN]
    rw [show (M.new (.cells [.str [], .str []] 0 .yes)).get M.next = some (.cells [.str [], .str []] 0 .yes) from by rw [AMem.get_new, if_pos rfl]]
    show bindO (bindO (bindO (M2.row M.next) fun a => a[0]?) _) _ = _
    rw [hrow2]
    simp only [bO, List.getElem?_cons_zero, List.getElem?_cons_succ, aS]
    show bindO (bindO (bindO (M2.row M.next) fun a => a[1]?) _) _ = _
    rw [hrow2]
    simp only [bO, List.getElem?_cons_zero, List.getElem?_cons_succ, aS]
    rw [show (M.new (ABlk.cells [AV.str [], AV.str []] 0 Cl.yes)).set M.next (ABlk.cells (AV.str p.1 :: AV.str p.2 :: List.drop (1 + 1) [AV.str [], AV.str []]) 0 Cl.yes) = M2 from rfl]
    rw [show acall Try.prog HK m 13 [.str p.1] M2 = _ from r3]
    simp only [bO, aS]
    rw [addOk_ok (a := wordT p.1) (b := [{ toBitVec := 61#8 : UInt8 }]) (by simp; omega)]
    simp only [nT, bO, aS, hrow3, List.getElem?_cons_zero, List.getElem?_cons_succ, beqA_str, beqA_ptr]
    rw [show acall Try.prog HK m 13 [.str p.2] M3 = _ from r4]
    simp only [bO, aS]
    rw [addOk_ok (a := (wordT p.1).append [{ toBitVec := 61#8 : UInt8 }]) (b := wordT p.2) (by simp; omega)]
    simp only [nT, bO, aS]
    rw [addOk_ok (a := ((wordT p.1).append [{ toBitVec := 61#8 : UInt8 }]).append (wordT p.2)) (b := [{ toBitVec := 10#8 : UInt8 }]) (by simp; omega)]
    simp only [nT, bO, aS, beqA_str]
    have eline : (((wordT p.1).append [{ toBitVec := 61#8 : UInt8 }]).append (wordT p.2)).append [{ toBitVec := 10#8 : UInt8 }] = lineT p := by
      unfold lineT
      simp only [List.append_eq, List.append_assoc]
      rfl
    rw [eline]
    rw [show acall Try.prog HK m 12 [.ptr (some (b, 0)), .str (lineT p)] M4 = _ from r5]
    simp only [bO, aT, aC, aI, aN, forceI_eq]
    rw [wrap_one (by omega), onward_normal]
    exact r6

theorem dumptext_run {s : Option (Nat × Nat)} {sl : Nat} {sc : Option Nat} {ps : List (Bs × Bs)} {M : AMem} (hp : PIn M s sl ps) (hd : (dumpT ps).length ≤ 900000) (h0 : 0 < M.next) {m : Nat} (hm : 2000000 ≤ m) :
    ∃ M', call m 7 [.slice s sl sc] M = some (.str (dumpT ps), M') ∧ Keeps M.next M M' := by
  obtain ⟨m, rfl⟩ : ∃ k, m = k + 1 := ⟨m - 1, by omega⟩
  have hlen : ps.length ≤ 900000 := by
    have : ∀ l : List (Bs × Bs), l.length ≤ (dumpT l).length := by
      intro l
      induction l with
      | nil => simp
      | cons q l ihl =>
        have h1 := lineT_len q
        show (q :: l).length ≤ (lineT q ++ dumpT l).length
        simp only [List.length_cons, List.length_append]; omega
    have := this ps
    omega
  rw [call, acall_run Try.func7 (hk (by decide)), dumptext_eq]
  obtain ⟨M', r1, k1⟩ := dumptext_loop (s := s) (t := s) (sl := sl) (tl := sl) (b := M.next) (m := m) (sc := sc) (tc := sc) (r := []) (ps := ps) hd hp.len (by omega) ps [] m (M.new (.cells [.ptr none, .slice none 0 (some 0)] 0 (.of 37))) rfl (by omega) (Bld.fresh M h0) (by
    rcases hp.is with h | ⟨a, h1, h2, h3⟩
    · left
      have := hp.len
      exact List.eq_nil_of_length_eq_zero (by omega)
    · exact .inr ⟨a, h1, h2, by rw [(Keeps.new _ (Nat.le_refl _)).row h2]; exact h3⟩)
  exact ⟨M', r1, (Keeps.new _ (Nat.le_refl _)).trans k1 (Nat.le_refl _)⟩

/-! ### pairs that are the same -/
theorem i9 : ∃ i, Try.prog.info? 9 = some i ∧ i.size = 1 := by
  have h : (Try.prog.info? 9).map (·.size) = some 1 := by kernel_rfl
  obtain ⟨i, h1, h2⟩ := Option.map_eq_some_iff.1 h
  exact ⟨i, h1, h2⟩
theorem st33 : Try.prog.stoodInHeld 33 = false := by kernel_rfl

theorem eq_pair (M : AMem) (p q : Bs × Bs) : eqA Try.prog M 12 33 (.agg [.str p.1, .str p.2]) (.agg [.str q.1, .str q.2]) = some (decide (p = q)) := by
  obtain ⟨i, hi, his⟩ := i9
  have hs : ∀ (d : Nat) (a b : Bs), eqA Try.prog M (d + 1) 9 (.str a) (.str b) = some (decide (a = b)) := by
    intro d a b
    unfold eqA
    simp only [Try.underlying9, bytesEq_iff]
  have hg : isAggT Try.prog 9 = false := by unfold isAggT; rw [Try.underlying9]
  have p0 : ∀ x y : AV, partA Try.prog 9 [x, y] 0 = some x := by
    intro x y
    unfold partA
    simp only [Try.underlying9, hi, hg]
    rfl
  have p1 : ∀ x y : AV, partA Try.prog 9 [x, y] 1 = some y := by
    intro x y
    unfold partA
    simp only [Try.underlying9, hi, hg]
    rfl
  unfold eqA
  simp only [Try.underlying33, st33, eqFields, p0, p1, hs]
  obtain ⟨p1, p2⟩ := p
  obtain ⟨q1, q2⟩ := q
  by_cases h1 : p1 = q1 <;> by_cases h2 : p2 = q2 <;> simp [h1, h2]

theorem same_loop {s u : Option (Nat × Nat)} {sl ul m : Nat} {sc uc : Option Nat} {r : Bool} {ps qs : List (Bs × Bs)} {M : AMem} (hp : PIn M s sl ps) (hq : PIn M u ul qs) (hl : ps.length = qs.length) (hsm : ps.length ≤ 1000000) :
    ∀ (prest pre qrest : List (Bs × Bs)) (j : Nat), ps = pre ++ prest → qs = pre ++ qrest → prest.length < j →
      runLoop Try.prog HK Try.f10 0 [0, 1, 4, 5] m j (mkFr [(0, .slice s sl sc), (1, .slice u ul uc), (4, .bool r), (5, .int .i64 (pre.length : Nat))]) M (afterLoop Try.prog HK Try.f10 0 m) = some (.bool (decide (ps = qs)), M) := by
  intro prest
  induction prest with
  | nil =>
    intro pre qrest j e1 e2 hj
    obtain ⟨j, rfl⟩ : ∃ k, j = k + 1 := ⟨j - 1, by simp at hj; omega⟩
    have hqn : qrest = [] := List.eq_nil_of_length_eq_zero (by
      have h1 := congrArg List.length e1
      have h2 := congrArg List.length e2
      simp only [List.length_append, List.length_nil] at h1 h2
      omega)
    subst hqn
    rw [List.append_nil] at e1 e2
    have hlen := hp.len
    rw [runLoop_succ, same_body, hlen, e1, ltI_nat, decide_eq_false (Nat.lt_irrefl _), iF, onward_exit, same_end, e2, decide_eq_true rfl]
  | cons p prest ih =>
    intro pre qrest j e1 e2 hj
    obtain ⟨j, rfl⟩ : ∃ k, j = k + 1 := ⟨j - 1, by omega⟩
    match qrest with
    | [] => rw [e1, e2] at hl; simp at hl
    | q :: qrest =>
      obtain ⟨a, rfl, ha, hra⟩ := hp.some e1
      obtain ⟨b, rfl, hb, hrb⟩ := hq.some e2
      have hl1 : sl = pre.length + (prest.length + 1) := by rw [hp.len, e1]; simp
      have hl2 : ul = pre.length + (qrest.length + 1) := by rw [hq.len, e2]; simp
      rw [runLoop_succ, same_body, ltI_nat, decide_eq_true (show pre.length < sl by omega), iT]
      simp only [dnat, decide_eq_true (show (pre.length : Int) < (sl : Int) by omega), decide_eq_true (show (pre.length : Int) < (ul : Int) by omega), Bool.and_self, nT, bO, aP, Int.toNat_natCast, Nat.zero_add, hra, hrb]
      rw [if_pos (show pre.length * 2 + 2 ≤ (pairCells (pre ++ p :: prest)).length by rw [pairCells_len]; simp; omega), pc_take]
      simp only [bO, aG, aC, aS, aN]
      rw [if_pos (show pre.length * 2 + 2 ≤ (pairCells (pre ++ q :: qrest)).length by rw [pairCells_len]; simp; omega), pc_take]
      simp only [bO, aG, aC, aS, aN]
      rw [eq_pair]
      simp only [bO, aB]
      by_cases h : p = q
      · subst h
        simp only [decide_true, show (true != true) = false from rfl, iF, forceI_eq]
        rw [wrap_one (by rw [e1] at hsm; simp at hsm; omega), onward_normal]
        have := ih (pre ++ [p]) qrest j (by rw [e1]; simp) (by rw [e2]; simp) (by simp at hj; omega)
        simp only [List.length_append, List.length_cons, List.length_nil, Nat.zero_add] at this
        exact this
      · simp only [decide_eq_false h, show (false != true) = true from rfl, iT, onward_ret, same_ret]
        rw [decide_eq_false]
        intro e
        rw [e1, e2] at e
        have := List.append_cancel_left e
        cases this
        exact h rfl

theorem same_run {s u : Option (Nat × Nat)} {sl ul : Nat} {sc uc : Option Nat} {ps qs : List (Bs × Bs)} {M : AMem} (hp : PIn M s sl ps) (hq : PIn M u ul qs) (hsm : ps.length ≤ 1000000) {m : Nat} (hm : 1000010 ≤ m) :
    call m 10 [.slice s sl sc, .slice u ul uc] M = some (.bool (decide (ps = qs)), M) := by
  obtain ⟨m, rfl⟩ : ∃ k, m = k + 1 := ⟨m - 1, by omega⟩
  rw [call, acall_run Try.func10 (hk (by decide)), same_eq, eqI_nat, hp.len, hq.len]
  by_cases h : ps.length = qs.length
  · rw [decide_eq_true h, Bool.not_true, iF, ← hp.len, ← hq.len]
    exact same_loop hp hq h hsm ps [] qs m rfl rfl (by omega)
  · rw [decide_eq_false h, Bool.not_false, iT, decide_eq_false (fun e => h (by rw [e]))]
end Go.Proofs.Ytacldkbigpfamaa
