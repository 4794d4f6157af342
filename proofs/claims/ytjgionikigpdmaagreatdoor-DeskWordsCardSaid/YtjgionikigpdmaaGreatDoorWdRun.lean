/-
  'sluicegatelaw35.DeskWords' answers true, told of the abstract memory.
-/
import Derived.Test.YtjgionikigpdmaaGreatDoorWdW
namespace Go.Proofs.YtjgionikigpdmaaGreatDoor
open Go.Ab Go.Words
set_option linter.unusedVariables false
set_option linter.unusedSimpArgs false
set_option maxRecDepth 100000

theorem wake_call {M : AMem} (h : 8 ≤ M.next) (hs : subM linG M = true) {m : Nat} (hm : 1 ≤ m) : acall Tryz.prog HK m 4 [] M = some (.bool true, M) := by
  obtain ⟨m, rfl⟩ : ∃ k, m = k + 1 := ⟨m - 1, by omega⟩
  rw [acall]
  show wakeH [] M = _
  unfold wakeH
  rw [Nat.ble_eq_true_of_le h, hs]
  rfl

theorem subM_keeps {M M' : AMem} (k : Keeps M.next M M') (h : 8 ≤ M.next) (hs : subM linG M = true) : subM linG M' = true := by
  unfold subM linG at *
  simp only [List.all_cons, List.all_nil] at *
  rw [k.get 7 (by omega)]
  exact hs

theorem eq_bool (M : AMem) (a b : Bool) : eqA Tryz.prog M 12 4 (.bool a) (.bool b) = some (a == b) := by
  unfold eqA
  simp only [Tryz.underlying4]

theorem words_run (s w : Bs) {M : AMem} (h0 : 8 ≤ M.next) (hs : subM linG M = true) {m : Nat} (hm : 3000000 ≤ m) : isT (call m 3 [.str s, .str w] M) = true := by
  obtain ⟨m, rfl⟩ : ∃ k, m = k + 1 := ⟨m - 1, by omega⟩
  rw [call, acall_run Tryz.func3 (hk (by decide)), words_eq]
  simp only [ltL2000]
  by_cases hS : 2000 < s.length
  · rw [decide_eq_true hS]
    simp only [tf, iF, iT]
    rw [wake_call h0 hs (by omega)]
    rfl
  · rw [decide_eq_false hS]
    simp only [ff, iT, cond_false]
    by_cases hW : 2000 < w.length
    · rw [decide_eq_true hW, iT, wake_call h0 hs (by omega)]
      rfl
    · rw [decide_eq_false hW, iF]
      obtain ⟨M1, r1, k1⟩ := dread_run w (by omega) (M := M) (by omega) (m := m) (by omega)
      have n1 := k1.next
      obtain ⟨x, M2, r2, k2, hx⟩ := rread_run w (by omega) (M := M1) (by omega) (m := m) (by omega)
      have n2 := k2.next
      have kk2 : Keeps M.next M M2 := k1.trans k2 n1
      obtain ⟨M3, r3, k3⟩ := dtext_run s (by omega) (M := M2) (by omega) (m := m) (by omega)
      have n3 := k3.next
      have r4 := rtext_run s (by omega) (M := M3) (m := m) (by omega)
      obtain ⟨M4, r5, k4⟩ := dtext_run s (by omega) (M := M3) (by omega) (m := m) (by omega)
      have n4 := k4.next
      have hlen := wordT_len s
      obtain ⟨M5, r6, k5⟩ := dread_run (wordT s) (by omega) (M := M4) (by omega) (m := m) (by omega)
      have n5 := k5.next
      have kk : Keeps M.next M M5 := ((kk2.trans k3 (by omega)).trans k4 (by omega)).trans k5 (by omega)
      have hv : readV (wordT s) = .tup [.str s, .bool true] := by unfold readV; rw [readW_wordT]
      rw [hv] at r6
      have rw5 := wake_call (M := M5) (m := m) (by omega) (subM_keeps kk h0 hs) (by omega)
      have c1 : acall Tryz.prog HK m 5 [.str w] M = some (readV w, M1) := r1
      have c2 : acall Tryz.prog HK m 6 [.str w] M1 = some (.tup [.str x, .bool (readW w).isSome], M2) := r2
      have c3 : acall Tryz.prog HK m 7 [.str s] M2 = some (.str (wordT s), M3) := r3
      have c4 : acall Tryz.prog HK m 8 [.str s] M3 = some (.str (wordT s), M3) := r4
      have c5 : acall Tryz.prog HK m 7 [.str s] M3 = some (.str (wordT s), M4) := r5
      have c6 : acall Tryz.prog HK m 5 [.str (wordT s)] M4 = some (.tup [.str s, .bool true], M5) := r6
      rw [c1]
      cases hR : readW w with
      | none =>
        rw [hR] at c2
        have hr : readV w = .tup [.str [], .bool false] := by unfold readV; rw [hR]
        rw [hr]
        simp only [bO, aT, aC, aS, aB, aN, c2, Option.isSome_none, eq_bool, beq_self_eq_true, bne_self_eq_false, Bool.not_false, Bool.not_true, tt, ff, tf, ft, iT, iF, cond_true, cond_false, bytesEq_iff, decide_true, c3, c4, c5, c6, rw5]
        rfl
      | some y =>
        rw [hR] at c2
        have hr : readV w = .tup [.str y, .bool true] := by unfold readV; rw [hR]
        obtain rfl := hx y hR
        rw [hr]
        simp only [bO, aT, aC, aS, aB, aN, c2, Option.isSome_some, eq_bool, beq_self_eq_true, bne_self_eq_false, Bool.not_false, Bool.not_true, tt, ff, tf, ft, iT, iF, cond_true, cond_false, bytesEq_iff, decide_true, c3, c4, c5, c6, rw5]
        rfl

theorem law_runs (s w : Bs) : ∃ n, isT (acall Tryz.prog hkW n 3 [.str s, .str w] memG) = true :=
  ⟨3000000 + 1, words_run s w (M := memG) (by decide) (by kernel_rfl) (by omega)⟩
end Go.Proofs.YtjgionikigpdmaaGreatDoor
