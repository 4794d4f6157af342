/-
  'sluicegatelaw23.TreeNobody' answers true, told of the abstract memory.
-/
import Derived.Test.YthpcopfahkcdoaaGreatDoorTrLaw
namespace Go.Proofs.YthpcopfahkcdoaaGreatDoor
open Go Go.Ab
set_option linter.unusedVariables false
set_option linter.unusedSimpArgs false
set_option linter.unusedSectionVars false
set_option maxRecDepth 100000

theorem freeW : Free hkW := by
  intro f h
  unfold hkW
  split
  · simp at h
  · simp at h
  · rfl

theorem wake_call {M : AMem} (h : 2 ≤ M.next) (hs : subM linG M = true) {m : Nat} (hm : 1 ≤ m) : acall Tryz.prog hkW m 13 [] M = some (.bool true, M) := by
  obtain ⟨m, rfl⟩ : ∃ k, m = k + 1 := ⟨m - 1, by omega⟩
  rw [acall]
  show wakeH [] M = _
  unfold wakeH
  rw [Nat.ble_eq_true_of_le h, hs]
  rfl

theorem subM_get {M M' : AMem} (k : M'.get 1 = M.get 1) (hs : subM linG M = true) : subM linG M' = true := by
  unfold subM linG at *
  simp only [List.all_cons, List.all_nil] at *
  rw [k]
  exact hs

theorem law_runs (c0 c1 c2 c3 c4 c5 c6 c7 : Int) (ke va : List UInt8) (de : Bool) {i : Int} (i0 : 0 ≤ i) (i1 : i < 4294967296) {m : Nat} (hm : 2000 ≤ m) :
    isT (acall Tryz.prog hkW m 3 [.agg [.int .i64 c0, .int .i64 c1, .int .i64 c2, .int .i64 c3, .int .i64 c4, .int .i64 c5, .int .i64 c6, .int .i64 c7], .agg [.str ke, .bool de, .str va], .int .u32 i] memG) = true := by
  obtain ⟨n, rfl⟩ : ∃ n, m = n + 60 + 1 := ⟨m - 61, by omega⟩
  have hF := freeW
  have hn : 3 ≤ (memC c0 c1 c2 c3 c4 c5 c6 c7 ke va de i).next := Nat.le_of_ble_eq_true (memC_next ..)
  have hg := memC_cfg c0 c1 c2 c3 c4 c5 c6 c7 ke va de i
  have ht := memC_tab c0 c1 c2 c3 c4 c5 c6 c7 ke va de i
  obtain ⟨M1, r1, k1⟩ := light_run hF c0 c1 c2 c3 c4 c5 c6 c7 (memC c0 c1 c2 c3 c4 c5 c6 c7 ke va de i) (m := n + 60) (by omega)
  have hn1 := k1.next
  have ht1 : subM linG M1 = true := subM_get (k1.get 1 (by omega)) ht
  rw [acall_run Tryz.func3 (hF 3 rfl), law_eq, law_loop, lawL_end0, new_nil, bO, aT, aC, aP, aC, aI, aN, open_nil, bO, aT, aC, aP, aC, aI, aN]
  simp only [eN]
  rw [show (true != true) = false from rfl, iF, iF, show (!eqI 1 1) = false from rfl, iF, iF, bO]
  simp only [row_cells hg]
  rw [bO, take8, bO, aG, aC, aI, aC, aI, aC, aI, aC, aI, aC, aI, aC, aI, aC, aI, aC, aI, aN, r1, bO, aB]
  cases hl : lightZ c0 c1 c2 c3 c4 c5 c6 c7 with
  | false =>
    rw [Bool.not_false, iT, wake_call (by omega) ht1 (by omega)]
    rfl
  | true =>
    have hz : rightZ c0 c1 c2 c3 c4 c5 c6 c7 = true := by
      unfold lightZ at hl
      simp only [Bool.and_eq_true] at hl
      exact hl.1
    have hg1 : M1.get 2 = some (.cells (C8 c0 c1 c2 c3 c4 c5 c6 c7) 0 .yes) := by rw [k1.get 2 (by omega)]; exact hg
    obtain ⟨s, d, img, c, h, lk, fr, mp, p, r, wd, ws, M2, r2, ⟨lo, S, l1, l2, l3⟩, l4, l5, k2⟩ := begun_run hF (M := M1) hz (m := n + 60) (by omega)
    have S' : ShIs M2 lo s d img c h lk fr mp p c0 c1 c2 c3 c4 c5 c6 c7 := ⟨S.get, S.dev, S.cache, S.slt, S.slo, l1, l2, hz⟩
    obtain ⟨e, M3, r3, he, n3, k3⟩ := topen_run hF S' i0 i1 (m := n + 60) (by omega)
    have hn2 := k2.next
    have ht3 : subM linG M3 = true := subM_get (by rw [k3 1 (by omega) (by omega), k2.get 1 (by omega)]) ht1
    rw [Bool.not_true, iF, bO]
    simp only [row_cells hg1]
    rw [bO, take8, bO, aG, aC, aI, aC, aI, aC, aI, aC, aI, aC, aI, aC, aI, aC, aI, aC, aI, aN, r2, bO, aT, aC, aP, aC, aP, aN, r3, bO, aT, aC, aP, aC, aI, aN]
    simp only [eS, eN]
    rw [show (false != true) = true from rfl, iT, show (true != false) = true from rfl, iT]
    rcases he with rfl | rfl
    · rw [show eqI 4 12 = false from rfl, iF, show eqI 4 4 = true from rfl, iT, wake_call (by omega) ht3 (by omega)]
      rfl
    · rw [show eqI 12 12 = true from rfl, iT, wake_call (by omega) ht3 (by omega)]
      rfl
end Go.Proofs.YthpcopfahkcdoaaGreatDoor
