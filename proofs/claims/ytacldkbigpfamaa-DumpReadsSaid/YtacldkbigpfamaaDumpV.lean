/-
  The document's Text of pairs.
-/
import Derived.Test.YtacldkbigpfamaaDumpQ
namespace Go.Proofs.Ytacldkbigpfamaa
open Go.Ab Go.Words
set_option linter.unusedVariables false
set_option linter.unusedSimpArgs false

theorem dumpT_ge : ∀ l : List (Bs × Bs), l.length ≤ (dumpT l).length
  | [] => by simp
  | q :: l => by
    have h1 := lineT_len q
    have h2 := dumpT_ge l
    show (q :: l).length ≤ (lineT q ++ dumpT l).length
    simp only [List.length_cons, List.length_append]; omega

theorem r38text_loop {s : Option (Nat × Nat)} {sl m : Nat} {sc : Option Nat} {r : Bs} {ps : List (Bs × Bs)} {M : AMem} (hp : PIn M s sl ps) (hd : (dumpT ps).length ≤ 900000) (hm : 900040 ≤ m) : ∀ (rest pre : List (Bs × Bs)) (j : Nat), ps = pre ++ rest → rest.length < j →
    runLoop Try.prog HK Try.f9 0 [0, 2, 3, 4] m j (mkFr [(0, .slice s sl sc), (2, .str r), (3, .str (dumpT pre)), (4, .int .i64 (pre.length : Nat))]) M (afterLoop Try.prog HK Try.f9 0 m) = some (.str (dumpT ps), M) := by
  intro rest
  induction rest with
  | nil =>
    intro pre j e hj
    obtain ⟨j, rfl⟩ : ∃ k, j = k + 1 := ⟨j - 1, by simp at hj; omega⟩
    rw [List.append_nil] at e
    rw [runLoop_succ, r38text_body, hp.len, e, ltI_nat, decide_eq_false (Nat.lt_irrefl _), iF, onward_exit, r38text_end]
  | cons p rest ih =>
    intro pre j e hj
    obtain ⟨j, rfl⟩ : ∃ k, j = k + 1 := ⟨j - 1, by omega⟩
    obtain ⟨a, rfl, ha, hr⟩ := hp.some e
    have hlen : sl = pre.length + (rest.length + 1) := by rw [hp.len, e]; simp
    have hdl : (dumpT pre).length + (lineT p).length + (dumpT rest).length ≤ 900000 := by
      rw [e, dumpT_append] at hd
      simp only [List.length_append] at hd
      have : (dumpT (p :: rest)).length = (lineT p).length + (dumpT rest).length := by show (lineT p ++ dumpT rest).length = _; simp
      omega
    have hll := lineT_len p
    have g1 := wordT_ge p.1
    have g2 := wordT_ge p.2
    have hprel := dumpT_ge pre
    have r1 : acall Try.prog HK m 17 [.str p.1] M = some (.str (wordT p.1), M) := rtext_run p.1 (by omega) (by omega)
    have r2 : acall Try.prog HK m 17 [.str p.2] M = some (.str (wordT p.2), M) := rtext_run p.2 (by omega) (by omega)
    have w1 : addOk (dumpT pre) (wordT p.1) = true := addOk_ok (by omega)
    have w2 : addOk ((dumpT pre).append (wordT p.1)) [{ toBitVec := 61#8 : UInt8 }] = true := addOk_ok (by simp; omega)
    have w3 : addOk (((dumpT pre).append (wordT p.1)).append [{ toBitVec := 61#8 : UInt8 }]) (wordT p.2) = true := addOk_ok (by simp; omega)
    have w4 : addOk ((((dumpT pre).append (wordT p.1)).append [{ toBitVec := 61#8 : UInt8 }]).append (wordT p.2)) [{ toBitVec := 10#8 : UInt8 }] = true := addOk_ok (by simp; omega)
    have hnext := ih (pre ++ [p]) j (by rw [e]; simp) (by simp at hj; omega)
    simp only [List.length_append, List.length_cons, List.length_nil, Nat.zero_add] at hnext
    have eline : ((((dumpT pre).append (wordT p.1)).append [{ toBitVec := 61#8 : UInt8 }]).append (wordT p.2)).append [{ toBitVec := 10#8 : UInt8 }] = dumpT (pre ++ [p]) := by
      rw [dumpT_append, dumpT_one]
      unfold lineT
      simp only [List.append_eq, List.append_assoc]
      rfl
    rw [runLoop_succ, r38text_body, ltI_nat, decide_eq_true (show pre.length < sl by omega), iT]
    simp only [dnat, decide_eq_true (show (pre.length : Int) < (sl : Int) by omega), Bool.and_self, nT, bO, aP, Int.toNat_natCast, Nat.zero_add, Nat.add_zero, hr, pc_0, pc_1, aS, r1, r2, w1, w2, w3, w4, beqA_str, beqA_ptr, beqA_int, beqA_sl, forceI_eq, eline]
    rw [wrap_one (by omega), onward_normal]
    exact hnext

theorem r38text_run {s : Option (Nat × Nat)} {sl : Nat} {sc : Option Nat} {ps : List (Bs × Bs)} {M : AMem} (hp : PIn M s sl ps) (hd : (dumpT ps).length ≤ 900000) {m : Nat} (hm : 2000000 ≤ m) : call m 9 [.slice s sl sc] M = some (.str (dumpT ps), M) := by
  obtain ⟨m, rfl⟩ : ∃ k, m = k + 1 := ⟨m - 1, by omega⟩
  have := dumpT_ge ps
  rw [call, acall_run Try.func9 (hk (by decide)), r38text_eq]
  exact r38text_loop hp hd (by omega) ps [] m rfl (by omega)
end Go.Proofs.Ytacldkbigpfamaa
