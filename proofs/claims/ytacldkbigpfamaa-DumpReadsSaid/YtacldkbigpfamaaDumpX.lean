/-
  'sluicegatelaw38.DumpTexts' answers true, told of the abstract memory.
-/
import Derived.Test.YtacldkbigpfamaaDumpV
namespace Go.Proofs.Ytacldkbigpfamaa
open Go.Ab Go.Words
set_option linter.unusedVariables false
set_option linter.unusedSimpArgs false
set_option maxRecDepth 100000

theorem mixed : Try.prog.follows .mixedOrders = true := by kernel_rfl
theorem noGlobal : gN Try.prog = 0 := by kernel_rfl

theorem mem0_none (g : Nat) : mem0.get g = none := Tri.get_nil g
theorem roots_of {M : AMem} (h : 1 ≤ M.next) : Roots mem0 M :=
  ⟨h, fun α B e => (by rw [mem0_none] at e; cases e), fun α B e => (by rw [mem0_none] at e; cases e)⟩

theorem awake38 : isT (acall Try.prog noH 200 6 [] mem0) = true := by kernel_rfl

theorem awake_of {f : FuncId} (h : isT (acall Try.prog noH 200 f [] mem0) = true) : ∃ M', acall Try.prog noH 200 f [] mem0 = some (.bool true, M') := by
  cases e : acall Try.prog noH 200 f [] mem0 with
  | none => rw [e] at h; cases h
  | some r =>
    obtain ⟨v, M'⟩ := r
    rw [e] at h
    unfold isT at h
    split at h
    · rename_i q; cases q; exact ⟨M', rfl⟩
    · cases h

theorem hookOk : HookOk Try.prog HK :=
  pureHook_ok mixed (n := 200) (fun f hf => by
    rcases List.mem_cons.1 hf with rfl | hf
    · exact awake_of awake38
    · cases hf) rfl (by rw [noGlobal]; exact Nat.zero_le _)

theorem awake_call {M : AMem} (h : 1 ≤ M.next) {m : Nat} (hm : 1 ≤ m) : acall Try.prog HK m 6 [] M = some (.bool true, M) := by
  obtain ⟨m, rfl⟩ : ∃ k, m = k + 1 := ⟨m - 1, by omega⟩
  exact pureHook_call (List.mem_cons_self ..) (roots_of h) m

theorem dumpT_small : ∀ ps : List (Bs × Bs), (dumpT ps).length ≤ 3 * sumT ps + 4 * ps.length
  | [] => by simp [dumpT, sumT]
  | p :: ps => by
    have h1 := dumpT_small ps
    have h2 := lineT_len p
    have h3 := wordT_len p.1
    have h4 := wordT_len p.2
    show (lineT p ++ dumpT ps).length ≤ 3 * (p.1.length + p.2.length + sumT ps) + 4 * (p :: ps).length
    simp only [List.length_append, List.length_cons]
    omega

theorem texts_run {s : Option (Nat × Nat)} {sl : Nat} {sc : Option Nat} {ps : List (Bs × Bs)} {M : AMem} (hp : PIn M s sl ps) (hsz : ∀ p ∈ ps, p.1.length ≤ 140737488355328 ∧ p.2.length ≤ 140737488355328) (h0 : 1 ≤ M.next) {m : Nat} (hm : 3000000 ≤ m) :
    isT (call m 3 [.slice s sl sc] M) = true := by
  obtain ⟨m, rfl⟩ : ∃ k, m = k + 1 := ⟨m - 1, by omega⟩
  rw [call, acall_run Try.func3 (hk (by decide)), texts_eq]
  rw [show acall Try.prog HK m 5 [.slice s sl sc] M = some (.bool (greatP ps), M) from great_run hp hsz (by omega)]
  simp only [bO, aB]
  cases hgr : greatP ps with
  | true =>
    rw [iT, awake_call h0 (by omega)]
    rfl
  | false =>
    rw [iF]
    have hgr' := hgr
    unfold greatP at hgr'
    rw [Bool.or_eq_false_iff, decide_eq_false_iff_not, decide_eq_false_iff_not] at hgr'
    obtain ⟨g1, g2⟩ := hgr'
    rw [List.take_of_length_le (by omega)] at g2
    have hd : (dumpT ps).length ≤ 20000 := by have := dumpT_small ps; omega
    obtain ⟨M1, r1, k1⟩ := dumptext_run (sc := sc) hp (by omega) (by omega) (m := m) (by omega)
    obtain ⟨v, M2, r2, k2, h2⟩ := dumpread_run (dumpT ps) (by omega) (M := M1) (by have := k1.next; omega) (m := m) (by omega)
    have k12 : Keeps M.next M M2 := k1.trans k2 k1.next
    rw [readD_dumpT] at h2
    rcases h2 with ⟨_, u, l, c, rfl, hg⟩ | ⟨h, _⟩
    case inr => exact absurd rfl h
    rw [show acall Try.prog HK m 7 [.slice s sl sc] M = _ from r1]
    simp only [bO, aS]
    rw [show acall Try.prog HK m 8 [.str (dumpT ps)] M1 = _ from r2]
    simp only [bO, aT, aC, aL, aI, aB, aN]
    rw [show acall Try.prog HK m 9 [.slice s sl sc] M2 = some (.str (dumpT ps), M2) from r38text_run (hp.keeps k12) (by omega) (by omega)]
    simp only [bO, aS, bytesEq_iff, decide_true, tt, iT]
    rw [show acall Try.prog HK m 10 [.slice u l c, .slice s sl sc] M2 = some (.bool (decide (ps = ps)), M2) from same_run (by have := hg.pin; rwa [List.nil_append] at this) (hp.keeps k12) (by omega) (by omega)]
    simp only [bO, aB, decide_true, cond_true, tt, iT]
    rw [awake_call (by have := k12.next; omega) (by omega)]
    rfl
end Go.Proofs.Ytacldkbigpfamaa
