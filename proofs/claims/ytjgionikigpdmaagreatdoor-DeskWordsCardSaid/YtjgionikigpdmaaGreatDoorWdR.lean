/-
  desk.Read, and dump's pair of a line.
-/
import Derived.Test.YtjgionikigpdmaaGreatDoorWdT
namespace Go.Proofs.YtjgionikigpdmaaGreatDoor
open Go.Ab Go.Words
set_option linter.unusedVariables false
set_option linter.unusedSimpArgs false
set_option maxRecDepth 100000

theorem decF_len : ∀ (n : Nat) (w x : Bs), decF n w = some x → x.length ≤ w.length
  | 0, w, x, h => by simp only [decF, Option.some.injEq] at h; subst h; simp
  | n + 1, [], x, h => by simp only [decF, Option.some.injEq] at h; subst h; simp
  | n + 1, c :: r, x, h => by
    unfold decF at h
    split at h
    · split at h
      · rename_i a b r'
        split at h
        · rw [Option.map_eq_some_iff] at h
          obtain ⟨y, h1, rfl⟩ := h
          have := decF_len n r' y h1
          simp only [List.length_cons]; omega
        · cases h
      · cases h
    · rw [Option.map_eq_some_iff] at h
      obtain ⟨y, h1, rfl⟩ := h
      have := decF_len n r y h1
      simp only [List.length_cons]; omega

theorem decL_len {w x : Bs} (h : decL w = some x) : x.length ≤ w.length := decF_len _ _ _ h

theorem hexI_some {c : UInt8} {x : Nat} (h : hexV c = some x) : hexI c = (x : Int) := by unfold hexI; rw [h]
theorem hexI_none {c : UInt8} (h : hexV c = none) : hexI c = -1 := by unfold hexI; rw [h]

theorem ltI_neg : ltI (-1) 0 = true := rfl

theorem sib_hex (c : UInt8) {M : AMem} {m : Nat} (hm : 2 ≤ m) : call m 11 [.str hexL, .int .u8 c.toNat] M = some (.int .i64 (hexI c), M) := by
  rw [sib_run hexL _ hm, idx_hex]

abbrev dreadFr (s r : Bs) (o : Bool) (b i : Nat) : Fr := mkFr [(0, .str s), (2, .str r), (3, .bool o), (4, .ptr (some (b, 0))), (5, .int .i64 (i : Nat))]

theorem dread_loop {s r : Bs} {o : Bool} {b m : Nat} (hs : s.length ≤ 1000000) (hm : 4 ≤ m) : ∀ (n : Nat) (rest pre d : Bs) (j : Nat) (M : AMem), rest.length ≤ n → s = pre ++ rest → rest.length < j → Bld tB tU M b d → d.length ≤ pre.length →
    match decL rest with
    | none => ∃ M', runLoop Tryz.prog HK Tryz.f5 0 [0, 2, 3, 5, 4] m j (dreadFr s r o b pre.length) M (afterLoop Tryz.prog HK Tryz.f5 0 m) = some (.tup [.str [], .bool false], M') ∧ Keeps b M M'
    | some x => ∃ M1, Bld tB tU M1 b (d ++ x) ∧ Keeps b M M1 ∧ runLoop Tryz.prog HK Tryz.f5 0 [0, 2, 3, 5, 4] m j (dreadFr s r o b pre.length) M (afterLoop Tryz.prog HK Tryz.f5 0 m) = afterLoop Tryz.prog HK Tryz.f5 0 m (.exit 0) (dreadFr s r o b s.length) M1 := by
  intro n
  induction n with
  | zero =>
    intro rest pre d j M hn e hj hb hd
    have : rest = [] := List.eq_nil_of_length_eq_zero (by omega)
    subst this
    obtain ⟨j, rfl⟩ : ∃ k, j = k + 1 := ⟨j - 1, by simp at hj; omega⟩
    rw [List.append_nil] at e
    subst e
    rw [decL_nil]
    refine ⟨M, by rw [List.append_nil]; exact hb, Keeps.refl _ _, ?_⟩
    rw [runLoop_succ, dread_body, ltI_nat, decide_eq_false (Nat.lt_irrefl _), iF, onward_exit]
  | succ n ih =>
    intro rest pre d j M hn e hj hb hd
    obtain ⟨j, rfl⟩ : ∃ k, j = k + 1 := ⟨j - 1, by omega⟩
    match rest with
    | [] =>
      rw [List.append_nil] at e
      subst e
      rw [decL_nil]
      refine ⟨M, by rw [List.append_nil]; exact hb, Keeps.refl _ _, ?_⟩
      rw [runLoop_succ, dread_body, ltI_nat, decide_eq_false (Nat.lt_irrefl _), iF, onward_exit]
    | x :: rest =>
      have hlen : s.length = pre.length + (rest.length + 1) := by rw [e]; simp
      have hat : s[pre.length]? = some x := by rw [e]; exact at_pre
      simp only [List.length_cons] at hn hj
      rw [runLoop_succ, dread_body, ltI_nat, decide_eq_true (show pre.length < s.length by omega), iT, dnat, nT, Int.toNat_natCast, hat, bO, eqR37, nT, bO]
      by_cases hx : x = 37
      · subst hx
        rw [show decide ((37 : UInt8).toNat = 37) = true from rfl, Bool.not_true, iF]
        rw [forceI_eq, wrap_two (by omega), leI_nat]
        match rest, hlen, e, hn, hj with
        | [], hlen, e, hn, hj =>
          rw [decL_short1, decide_eq_true (show s.length ≤ pre.length + 2 by simp at hlen; omega), iT]
          refine ⟨M, ?_, Keeps.refl _ _⟩
          rw [onward_ret, dread_ret]
        | [a], hlen, e, hn, hj =>
          rw [decL_short2, decide_eq_true (show s.length ≤ pre.length + 2 by simp at hlen; omega), iT]
          refine ⟨M, ?_, Keeps.refl _ _⟩
          rw [onward_ret, dread_ret]
        | a :: c :: rest, hlen, e, hn, hj =>
          simp only [List.length_cons] at hlen hn hj
          have ha : s[pre.length + 1]? = some a := by rw [e]; exact at_pre1
          have hc : s[pre.length + 2]? = some c := by rw [e]; exact at_pre2
          rw [decide_eq_false (show ¬ s.length ≤ pre.length + 2 by omega), iF]
          simp only [forceI_eq, bO, aI]
          rw [wrap_one (by omega)]
          simp only [bO, aI, dnat, nT, Int.toNat_natCast, ha, hc, hexLit]
          rw [show acall Tryz.prog HK m 11 [.str hexL, .int .u8 (a.toNat : Int)] M = some (.int .i64 (hexI a), M) from sib_hex a (by omega)]
          simp only [bO, aI, dnat, nT, Int.toNat_natCast, hc, beqA_int, beqA_str, forceI_eq]
          rw [show acall Tryz.prog HK m 11 [.str hexL, .int .u8 (c.toNat : Int)] M = some (.int .i64 (hexI c), M) from sib_hex c (by omega)]
          simp only [bO, aI]
          rw [decL_hex]
          cases va : hexV a with
          | none =>
            rw [hexI_none va, ltI_neg]
            refine ⟨M, ?_, Keeps.refl _ _⟩
            simp only [show (true == false) = false from rfl, iF, iT, onward_ret, dread_ret]
          | some y =>
            rw [hexI_some va, ltR0]
            have hy := hexV_lt va
            cases vc : hexV c with
            | none =>
              rw [hexI_none vc, ltI_neg]
              refine ⟨M, ?_, Keeps.refl _ _⟩
              simp only [show (false == false) = true from rfl, iT, cond_false, onward_ret, dread_ret]
            | some z =>
              rw [hexI_some vc, ltR0]
              have hz := hexV_lt vc
              simp only [show (false == false) = true from rfl, iT, cond_false, iF]
              obtain ⟨w1, _, _, _⟩ := join_all ⟨y, hy⟩ ⟨z, hz⟩
              rw [w1]
              obtain ⟨M1, r1, h1, k1⟩ := wb_run hb (UInt8.ofNat (16 * y + z)) (by unfold roomA; omega) (m := m) (by omega)
              rw [show acall Tryz.prog HK m 10 [.ptr (some (b, 0)), .int .u8 ((UInt8.ofNat (16 * y + z)).toNat : Int)] M = _ from r1]
              simp only [bO]
              rw [wrap_one (a := pre.length + 2) (by omega), onward_normal]
              have := ih rest (pre ++ [37, a, c]) (d ++ [UInt8.ofNat (16 * y + z)]) j M1 (by omega) (by rw [e]; simp) (by omega) h1 (by simp; omega)
              simp only [List.length_append, List.length_cons, List.length_nil, Nat.zero_add] at this
              cases hr : decL rest with
              | none =>
                rw [hr] at this
                obtain ⟨M', r2, k2⟩ := this
                exact ⟨M', r2, k1.trans k2 (Nat.le_refl _)⟩
              | some q =>
                rw [hr] at this
                obtain ⟨M', h2, k2, r2⟩ := this
                refine ⟨M', ?_, k1.trans k2 (Nat.le_refl _), r2⟩
                simpa using h2
      · rw [decide_eq_false (show ¬ x.toNat = 37 from fun h => hx (UInt8.toNat_inj.1 h)), Bool.not_false, iT]
        rw [decL_byte hx]
        obtain ⟨M1, r1, h1, k1⟩ := wb_run hb x (by unfold roomA; omega) (m := m) (by omega)
        rw [show acall Tryz.prog HK m 10 [.ptr (some (b, 0)), .int .u8 (x.toNat : Int)] M = _ from r1]
        simp only [bO, forceI_eq]
        rw [wrap_one (by omega), onward_normal]
        have := ih rest (pre ++ [x]) (d ++ [x]) j M1 (by omega) (by rw [e]; simp) (by omega) h1 (by simp; omega)
        simp only [List.length_append, List.length_cons, List.length_nil, Nat.zero_add] at this
        cases hr : decL rest with
        | none =>
          rw [hr] at this
          obtain ⟨M', r2, k2⟩ := this
          exact ⟨M', r2, k1.trans k2 (Nat.le_refl _)⟩
        | some q =>
          rw [hr] at this
          obtain ⟨M', h2, k2, r2⟩ := this
          refine ⟨M', ?_, k1.trans k2 (Nat.le_refl _), r2⟩
          simpa using h2

/-- what desk.Read answers -/
def readV (w : Bs) : AV := match readW w with | some x => .tup [.str x, .bool true] | none => .tup [.str [], .bool false]

theorem dread_run (s : Bs) (hs : s.length ≤ 1000000) {M : AMem} (h0 : 0 < M.next) {m : Nat} (hm : s.length + 20 ≤ m) : ∃ M', call m 5 [.str s] M = some (readV s, M') ∧ Keeps M.next M M' := by
  obtain ⟨m, rfl⟩ : ∃ k, m = k + 1 := ⟨m - 1, by omega⟩
  rw [call, acall_run Tryz.func5 (hk (by decide)), dread_eq]
  have h := dread_loop (s := s) (r := []) (o := false) (b := M.next) (m := m) hs (by omega) s.length s [] [] m (M.new (.cells [.ptr none, .slice none 0 (some 0)] 0 (.of 36))) (Nat.le_refl _) rfl (by omega) (Bld.fresh M h0) (Nat.le_refl _)
  have k0 : Keeps M.next M (M.new (.cells [.ptr none, .slice none 0 (some 0)] 0 (.of 36))) := Keeps.new _ (Nat.le_refl _)
  unfold readV readW
  cases hd : decL s with
  | none =>
    rw [hd] at h
    obtain ⟨M', r1, k1⟩ := h
    have hne : s ≠ [45] := fun e => by rw [e] at hd; cases hd
    rw [if_neg hne]
    exact ⟨M', r1, k0.trans k1 (Nat.le_refl _)⟩
  | some x =>
    rw [hd] at h
    obtain ⟨M1, h1, k1, r1⟩ := h
    have hx := decL_len hd
    obtain ⟨M2, r2, k2⟩ := strB_run h1 (by simp; unfold roomA; omega) (m := m) (by omega)
    have kk := (k0.trans k1 (Nat.le_refl _)).trans k2 (Nat.le_refl _)
    have hn2 : 0 < M2.next := by have := kk.next; omega
    rw [show runLoop Tryz.prog HK Tryz.f5 0 [0, 2, 3, 5, 4] m m (mkFr [(0, .str s), (2, .str []), (3, .bool false), (4, .ptr (some (M.next, 0))), (5, .int .i64 0)]) (M.new (.cells [.ptr none, .slice none 0 (some 0)] 0 (.of 36))) (afterLoop Tryz.prog HK Tryz.f5 0 m) = _ from r1]
    unfold dreadFr
    rw [dread_end]
    rw [show acall Tryz.prog HK m 12 [.ptr (some (M.next, 0))] M1 = _ from r2]
    simp only [bO, aS, List.nil_append, bytesEq_iff, l45]
    by_cases e : s = [45]
    · rw [if_pos e, decide_eq_true e, iT]
      obtain ⟨M3, r3, k3⟩ := dtext_run [] (by simp) hn2 (m := m) (by simp; omega)
      rw [show acall Tryz.prog HK m 7 [.str []] M2 = _ from r3]
      refine ⟨M3, ?_, kk.trans k3 kk.next⟩
      simp only [bO, aS]
      rw [show wordT [] = [45] from rfl, e, decide_eq_true rfl]
      rfl
    · rw [if_neg e, decide_eq_false e, iF]
      obtain ⟨M3, r3, k3⟩ := dtext_run x (by omega) hn2 (m := m) (by omega)
      rw [show acall Tryz.prog HK m 7 [.str x] M2 = _ from r3]
      refine ⟨M3, ?_, kk.trans k3 kk.next⟩
      simp only [bO, aS]
      by_cases q : wordT x = s
      · rw [decide_eq_true q, if_pos q]; rfl
      · rw [decide_eq_false q, if_neg q]; rfl
end Go.Proofs.YtjgionikigpdmaaGreatDoor
