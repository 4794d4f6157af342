/-
  desk.Text and the document's Text: a text's word.
-/
import Derived.Test.YtjgionikigpdmaaGreatDoorWdF
import Derived.Test.YtjgionikigpdmaaGreatDoorWdLp
namespace Go.Proofs.YtjgionikigpdmaaGreatDoor
open Go.Ab Go.Words
set_option linter.unusedVariables false
set_option linter.unusedSimpArgs false
set_option maxRecDepth 100000

theorem encB_plain {x : UInt8} (h : plainB x = true) : encB x = [x] := by unfold encB; rw [if_pos h]
theorem encB_hex {x : UInt8} (h : plainB x = false) : encB x = [37, hexD (x.toNat / 16), hexD (x.toNat % 16)] := by unfold encB; rw [if_neg (by rw [h]; simp)]

theorem encL_room {s : Bs} (hs : s.length ≤ 1000000) : (encL s).length ≤ 3000000 := by have := (encL_len s).2; omega

theorem dtext_loop {s r t : Bs} {b m : Nat} (hs : s.length ≤ 1000000) (hm : 4 ≤ m) : ∀ (rest pre : Bs) (j : Nat) (M : AMem), s = pre ++ rest → rest.length < j → Bld tB tU M b (encL pre) →
    ∃ M', runLoop Tryz.prog HK Tryz.f7 0 [0, 2, 6, 3, 12, 13] m j (mkFr [(0, .str s), (2, .str r), (3, .ptr (some (b, 0))), (6, .str t), (12, .int .i64 (s.length : Nat)), (13, .int .i64 (pre.length : Nat))]) M (afterLoop Tryz.prog HK Tryz.f7 0 m) = some (.str (encL s), M') ∧ Keeps b M M' := by
  intro rest
  induction rest with
  | nil =>
    intro pre j M e hj hb
    obtain ⟨j, rfl⟩ : ∃ k, j = k + 1 := ⟨j - 1, by simp at hj; omega⟩
    rw [List.append_nil] at e
    subst e
    obtain ⟨M', r1, k1⟩ := strB_run hb (by have := encL_room hs; unfold roomA; omega) (m := m) (by omega)
    refine ⟨M', ?_, k1⟩
    rw [runLoop_succ, dtext_body, ltI_nat, decide_eq_false (Nat.lt_irrefl _), iF, onward_exit, dtext_end]
    rw [show acall Tryz.prog HK m 12 [.ptr (some (b, 0))] M = _ from r1]
    rfl
  | cons x rest ih =>
    intro pre j M e hj hb
    obtain ⟨j, rfl⟩ : ∃ k, j = k + 1 := ⟨j - 1, by simp at hj; omega⟩
    have hlen : s.length = pre.length + (rest.length + 1) := by rw [e]; simp
    have hroom : (encL pre).length + 3 ≤ roomA := by have := (encL_len pre).2; unfold roomA; omega
    have hnext := fun M2 (h : Bld tB tU M2 b (encL (pre ++ [x]))) => ih (pre ++ [x]) j M2 (by rw [e]; simp) (by simp at hj; omega) h
    simp only [List.length_append, List.length_cons, List.length_nil, Nat.zero_add] at hnext
    rw [runLoop_succ, dtext_body, ltI_nat, decide_eq_true (show pre.length < s.length by omega), iT, dnat, nT, Int.toNat_natCast, show s[pre.length]? = some x from by rw [e]; exact at_pre, bO]
    rw [show acall Tryz.prog HK m 14 [.int .u8 (x.toNat : Int)] M = some (.bool (plainB x), M) from plain_run x (by omega)]
    simp only [bO, aB]
    cases hp : plainB x with
    | true =>
      rw [iT]
      obtain ⟨M1, r1, h1, k1⟩ := wb_run hb x (by omega) (m := m) (by omega)
      rw [show acall Tryz.prog HK m 10 [.ptr (some (b, 0)), .int .u8 (x.toNat : Int)] M = _ from r1]
      obtain ⟨M', r2, k2⟩ := hnext M1 (by rw [encL_append, encL_one, encB_plain hp]; exact h1)
      refine ⟨M', ?_, k1.trans k2 (Nat.le_refl _)⟩
      rw [bO, forceI_eq, wrap_one (by omega), onward_normal]
      exact r2
    | false =>
      obtain ⟨n1, n2, n3, n4, _, _⟩ := nib x
      have hx := x.toNat_lt
      have d1 : x.toNat / 16 < 16 := by omega
      have d2 : x.toNat % 16 < 16 := by omega
      obtain ⟨M1, r1, h1, k1⟩ := ws_run hb (t := [37, hexD (x.toNat / 16), hexD (x.toNat % 16)]) (by simp) (by simp only [List.length_cons, List.length_nil]; omega) (m := m) (by omega)
      obtain ⟨M', r2, k2⟩ := hnext M1 (by rw [encL_append, encL_one, encB_hex hp]; exact h1)
      refine ⟨M', ?_, k1.trans k2 (Nat.le_refl _)⟩
      simp only [iF, n1, n2, n3, n4, forceI_eq, hexLit, bO, aI, aS, dnat, nT, Int.toNat_natCast, hexL_len, l37, hexL_at d1, hexL_at d2, decide_eq_true (show x.toNat / 16 ≤ x.toNat / 16 + 1 by omega), decide_eq_true (show x.toNat / 16 + 1 ≤ 16 by omega), decide_eq_true (show x.toNat % 16 ≤ x.toNat % 16 + 1 by omega), decide_eq_true (show x.toNat % 16 + 1 ≤ 16 by omega), Bool.and_self]
      rw [addOk_ok (a := [37]) (b := [hexD (x.toNat / 16)]) (by simp)]
      simp only [nT, bO, aS]
      rw [addOk_ok (a := [37, hexD (x.toNat / 16)]) (b := [hexD (x.toNat % 16)]) (by simp)]
      simp only [nT, bO, aS]
      rw [show acall Tryz.prog HK m 15 [.ptr (some (b, 0)), .str (List.append [37, hexD (x.toNat / 16)] [hexD (x.toNat % 16)])] M = _ from r1]
      simp only [bO, aT, aC, aI, aN]
      rw [wrap_one (by omega), onward_normal]
      exact r2

theorem dtext_run (s : Bs) (hs : s.length ≤ 1000000) {M : AMem} (h0 : 0 < M.next) {m : Nat} (hm : s.length + 10 ≤ m) : ∃ M', call m 7 [.str s] M = some (.str (wordT s), M') ∧ Keeps M.next M M' := by
  obtain ⟨m, rfl⟩ : ∃ k, m = k + 1 := ⟨m - 1, by omega⟩
  rw [call, acall_run Tryz.func7 (hk (by decide)), dtext_eq, bytesEq_iff, bytesEq_iff]
  unfold wordT
  by_cases e1 : s = []
  · subst e1
    exact ⟨M, rfl, Keeps.refl _ _⟩
  · rw [decide_eq_false e1, iF, if_neg e1]
    by_cases e2 : s = [45]
    · rw [if_pos e2, decide_eq_true (show s = [{ toBitVec := 45#8 : UInt8 }] from e2), iT]
      exact ⟨M, rfl, Keeps.refl _ _⟩
    · rw [if_neg e2, decide_eq_false (show ¬ s = [{ toBitVec := 45#8 : UInt8 }] from e2), iF]
      obtain ⟨M', r1, k1⟩ := dtext_loop (s := s) (r := []) (t := s) (b := M.next) (m := m) hs (by omega) s [] m _ rfl (by omega) (Bld.fresh M h0)
      exact ⟨M', r1, (Keeps.new _ (Nat.le_refl _)).trans k1 (Nat.le_refl _)⟩

theorem rtext_loop {s r : Bs} {m : Nat} (hs : s.length ≤ 1000000) (hm : 4 ≤ m) : ∀ (rest pre : Bs) (j : Nat) (M : AMem), s = pre ++ rest → rest.length < j →
    runLoop Tryz.prog HK Tryz.f8 0 [0, 2, 3, 4] m j (mkFr [(0, .str s), (2, .str r), (3, .str (encL pre)), (4, .int .i64 (pre.length : Nat))]) M (afterLoop Tryz.prog HK Tryz.f8 0 m) = some (.str (encL s), M) := by
  intro rest
  induction rest with
  | nil =>
    intro pre j M e hj
    obtain ⟨j, rfl⟩ : ∃ k, j = k + 1 := ⟨j - 1, by simp at hj; omega⟩
    rw [List.append_nil] at e
    subst e
    rw [runLoop_succ, rtext_body, ltI_nat, decide_eq_false (Nat.lt_irrefl _), iF, onward_exit, rtext_end]
  | cons x rest ih =>
    intro pre j M e hj
    obtain ⟨j, rfl⟩ : ∃ k, j = k + 1 := ⟨j - 1, by simp at hj; omega⟩
    have hlen : s.length = pre.length + (rest.length + 1) := by rw [e]; simp
    have hroom : (encL pre).length + 3 ≤ 3000003 := by have := (encL_len pre).2; omega
    have hnext := ih (pre ++ [x]) j M (by rw [e]; simp) (by simp at hj; omega)
    simp only [List.length_append, List.length_cons, List.length_nil, Nat.zero_add] at hnext
    rw [encL_append, encL_one] at hnext
    obtain ⟨_, _, _, _, n5, n6⟩ := nib x
    have hx := x.toNat_lt
    have d1 : x.toNat / 16 < 16 := by omega
    have d2 : x.toNat % 16 < 16 := by omega
    rw [runLoop_succ, rtext_body, ltI_nat, decide_eq_true (show pre.length < s.length by omega), iT, dnat, nT, Int.toNat_natCast, show s[pre.length]? = some x from by rw [e]; exact at_pre, bO]
    simp only [ltR33, ltL126, eqR37, eqR61, n5, n6, l37]
    rw [show acall Tryz.prog HK m 16 [.int .u8 ((x.toNat / 16 : Nat) : Int)] M = some (.str [hexD (x.toNat / 16)], M) from digit_run d1 (by omega)]
    simp only [bO, aS]
    rw [show acall Tryz.prog HK m 16 [.int .u8 ((x.toNat % 16 : Nat) : Int)] M = some (.str [hexD (x.toNat % 16)], M) from digit_run d2 (by omega)]
    simp only [bO, aS, forceI_eq]
    rw [wrap_one (by omega)]
    have w1 : addOk (encL pre) [37] = true := addOk_ok (by simp only [List.length_cons, List.length_nil]; omega)
    have w2 : addOk ((encL pre).append [37]) [hexD (x.toNat / 16)] = true := addOk_ok (by simp only [List.append_eq, List.length_append, List.length_cons, List.length_nil]; omega)
    have w3 : addOk (((encL pre).append [37]).append [hexD (x.toNat / 16)]) [hexD (x.toNat % 16)] = true := addOk_ok (by simp only [List.append_eq, List.length_append, List.length_cons, List.length_nil]; omega)
    have w4 : addOk (encL pre) [x] = true := addOk_ok (by simp only [List.length_cons, List.length_nil]; omega)
    have hcut : List.drop pre.length (List.take (pre.length + 1) s) = [x] := by rw [e]; exact cut_one
    simp only [w1, w2, w3, w4, nT, dnat, nT, Int.toNat_natCast, hcut, decide_eq_true (show pre.length ≤ pre.length + 1 by omega), decide_eq_true (show pre.length + 1 ≤ s.length by omega), Bool.and_self]
    simp only [nT, onward_normal]
    cases hp : plainB x with
    | true =>
      rw [encB_plain hp] at hnext
      have hp' := hp
      unfold plainB at hp'
      simp only [Bool.and_eq_true, decide_eq_true_eq, Bool.not_eq_true', beq_eq_false_iff_ne] at hp'
      obtain ⟨⟨⟨p1, p2⟩, p3⟩, p4⟩ := hp'
      simp only [decide_eq_false (show ¬ x.toNat < 33 by omega), decide_eq_false (show ¬ 126 < x.toNat by omega), decide_eq_false p3, decide_eq_false p4]
      exact hnext
    | false =>
      rw [encB_hex hp] at hnext
      have hnext' : runLoop Tryz.prog HK Tryz.f8 0 [0, 2, 3, 4] m j (mkFr [(0, .str s), (2, .str r), (3, .str ((((encL pre).append [37]).append [hexD (x.toNat / 16)]).append [hexD (x.toNat % 16)])), (4, .int .i64 ((pre.length + 1 : Nat) : Int))]) M (afterLoop Tryz.prog HK Tryz.f8 0 m) = some (.str (encL s), M) := by
        have : (((encL pre).append [37]).append [hexD (x.toNat / 16)]).append [hexD (x.toNat % 16)] = encL pre ++ [37, hexD (x.toNat / 16), hexD (x.toNat % 16)] := by simp [List.append_eq]
        rw [this]; exact hnext
      rw [hnext']
      unfold plainB at hp
      rw [show (x.toNat == 37) = decide (x.toNat = 37) from rfl, show (x.toNat == 61) = decide (x.toNat = 61) from rfl] at hp
      rw [show decide (x.toNat < 33) = !decide (33 ≤ x.toNat) by rw [Bool.eq_iff_iff]; simp, show decide (126 < x.toNat) = !decide (x.toNat ≤ 126) by rw [Bool.eq_iff_iff]; simp]
      revert hp
      cases decide (33 ≤ x.toNat) <;> cases decide (x.toNat ≤ 126) <;> cases decide (x.toNat = 37) <;> cases decide (x.toNat = 61) <;> first | (intro h; cases h; done) | (intro _; rfl)

theorem rtext_run (s : Bs) (hs : s.length ≤ 1000000) {M : AMem} {m : Nat} (hm : s.length + 10 ≤ m) : call m 8 [.str s] M = some (.str (wordT s), M) := by
  obtain ⟨m, rfl⟩ : ∃ k, m = k + 1 := ⟨m - 1, by omega⟩
  rw [call, acall_run Tryz.func8 (hk (by decide)), rtext_eq, bytesEq_iff, bytesEq_iff]
  unfold wordT
  by_cases e1 : s = []
  · subst e1; rfl
  · rw [decide_eq_false e1, iF, if_neg e1]
    by_cases e2 : s = [45]
    · rw [if_pos e2, decide_eq_true (show s = [{ toBitVec := 45#8 : UInt8 }] from e2), iT]; rfl
    · rw [if_neg e2, decide_eq_false (show ¬ s = [{ toBitVec := 45#8 : UInt8 }] from e2), iF]
      exact rtext_loop hs (by omega) s [] m M rfl (by omega)
end Go.Proofs.YtjgionikigpdmaaGreatDoor
