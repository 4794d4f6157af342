/-
  The document's Read of a word, its pair of a line, and its Read of a dump.
-/
import Derived.Test.YtjgionikigpdmaaGreatDoorWdR
namespace Go.Proofs.YtjgionikigpdmaaGreatDoor
open Go.Ab Go.Words
set_option linter.unusedVariables false
set_option linter.unusedSimpArgs false
set_option maxRecDepth 100000

/-! ### bytes that grow -/
structure BGr (lo : Nat) (M : AMem) (u : Option (Nat × Nat)) (l : Nat) (c : Option Nat) (bs : Bs) : Prop where
  len : l = bs.length
  is : (bs = [] ∧ c = some 0) ∨ Buf tU lo M u l c bs

theorem grow_bgr {lo : Nat} {M : AMem} {u : Option (Nat × Nat)} {l : Nat} {c : Option Nat} {bs : Bs} {x : UInt8} {a : Nat} {k : Option Nat} (h : BGr lo M u l c bs) (hlo : lo ≤ M.next) (h0 : 0 < M.next) (ha : M.row a = some [.int .u8 x.toNat]) (hl : l + 1 ≤ roomA) :
    ∃ M', appendA Tryz.prog M 34 34 u l c (.slice (some (a, 0)) 1 k) = some ((some (M.next, 0), l + 1, none), M') ∧ BGr lo M' (some (M.next, 0)) (l + 1) none (bs ++ [x]) ∧ Keeps lo M M' := by
  obtain ⟨i, hi, his, hib⟩ := i5
  rw [append_byte Tryz.underlying34 Tryz.underlying5 hi z5 rfl his hib ha hl]
  rcases h.is with ⟨rfl, rfl⟩ | hb
  · have hl0 : l = 0 := h.len
    subst hl0
    refine ⟨M.new (.cells (strOfBytes [x]) 1 (.of tU)), ?_, ⟨rfl, .inr ⟨rfl, .inr ⟨M.next, rfl, rfl, by omega, hlo, h0, Nat.lt_succ_self _, by rw [AMem.get_new, if_pos rfl]; rfl⟩⟩⟩, Keeps.new _ hlo⟩
    have hs0 : srcCells M 1 0 (.slice u 0 (some 0)) = some [] := by
      unfold srcCells
      cases u <;> simp
    unfold growA
    rw [if_neg (by omega)]
    simp only
    rw [if_neg (by omega), hs0]
    rfl
  · obtain ⟨M', r1, h1, n1, g1⟩ := grow_buf hb (t := [x]) (by simp) hlo h0
    refine ⟨M', r1, ⟨by rw [List.length_append, h.len]; rfl, .inr h1⟩, ⟨by omega, fun q hq => g1 q (by omega) fun k hk e => ?_⟩⟩
    rcases hb.is with ⟨_, h5, _⟩ | ⟨k', h5, _, _, h6, _⟩
    · rw [h5] at hk; cases hk
    · rw [h5] at hk; cases hk; omega

theorem BGr.moved {lo : Nat} {M M' : AMem} {u : Option (Nat × Nat)} {l : Nat} {c : Option Nat} {bs : Bs} (h : BGr lo M u l c bs) (k : Keeps M.next M M') : BGr lo M' u l c bs :=
  ⟨h.len, h.is.imp (fun h => h) fun h => h.moved k.next fun q _ hq => k.get q hq⟩

theorem BGr.str {lo : Nat} {M : AMem} {u : Option (Nat × Nat)} {l : Nat} {c : Option Nat} {bs : Bs} (h : BGr lo M u l c bs) : bytesStr M u l = some bs := by
  have hlen := h.len
  unfold bytesStr
  rcases h.is with ⟨rfl, rfl⟩ | hb
  · have hl0 : l = 0 := hlen
    subst hl0
    cases u <;> rfl
  · rcases hb.is with ⟨rfl, rfl, rfl⟩ | ⟨k, rfl, rfl, hpos, hlk, hk0, hkn, hg⟩
    · have hl0 : l = 0 := hlen
      subst hl0
      rfl
    · simp only [show ¬ l = 0 by omega, if_false]
      unfold cellsFrom
      rw [show M.row (k, 0).1 = some (strOfBytes bs) from row_cells hg]
      have e2 : (strOfBytes bs).length = l := by rw [strOfBytes_len, hlen]
      simp only [Nat.zero_add, e2, Nat.le_refl, if_true, List.drop_zero, List.take_of_length_le (Nat.le_of_eq e2)]
      exact bytesOf_str bs

/-! ### the document's Read of a word -/
theorem rread_loop {s r : Bs} {o : Bool} {lo m : Nat} (hs : s.length ≤ 1000000) (hm : 4 ≤ m) : ∀ (n : Nat) (rest pre d : Bs) (j : Nat) (M : AMem) (u : Option (Nat × Nat)) (ul : Nat) (uc : Option Nat), rest.length ≤ n → s = pre ++ rest → rest.length < j → BGr lo M u ul uc d → d.length ≤ pre.length → lo ≤ M.next → 0 < M.next →
    match decL rest with
    | none => ∃ M', runLoop Tryz.prog HK Tryz.f6 0 [0, 2, 3, 4, 5] m j (mkFr [(0, .str s), (2, .str r), (3, .bool o), (4, .slice u ul uc), (5, .int .i64 (pre.length : Nat))]) M (afterLoop Tryz.prog HK Tryz.f6 0 m) = some (.tup [.str [], .bool false], M') ∧ Keeps lo M M'
    | some x => ∃ M1 u' l' c', BGr lo M1 u' l' c' (d ++ x) ∧ Keeps lo M M1 ∧ runLoop Tryz.prog HK Tryz.f6 0 [0, 2, 3, 4, 5] m j (mkFr [(0, .str s), (2, .str r), (3, .bool o), (4, .slice u ul uc), (5, .int .i64 (pre.length : Nat))]) M (afterLoop Tryz.prog HK Tryz.f6 0 m) = afterLoop Tryz.prog HK Tryz.f6 0 m (.exit 0) (mkFr [(0, .str s), (2, .str r), (3, .bool o), (4, .slice u' l' c'), (5, .int .i64 (s.length : Nat))]) M1 := by
  intro n
  induction n with
  | zero =>
    intro rest pre d j M u ul uc hn e hj hb hd hlo h0
    have : rest = [] := List.eq_nil_of_length_eq_zero (by omega)
    subst this
    obtain ⟨j, rfl⟩ : ∃ k, j = k + 1 := ⟨j - 1, by simp at hj; omega⟩
    rw [List.append_nil] at e
    subst e
    rw [decL_nil]
    refine ⟨M, u, ul, uc, by rw [List.append_nil]; exact hb, Keeps.refl _ _, ?_⟩
    rw [runLoop_succ, rread_body, ltI_nat, decide_eq_false (Nat.lt_irrefl _), iF, onward_exit]
  | succ n ih =>
    intro rest pre d j M u ul uc hn e hj hb hd hlo h0
    obtain ⟨j, rfl⟩ : ∃ k, j = k + 1 := ⟨j - 1, by omega⟩
    match rest with
    | [] =>
      rw [List.append_nil] at e
      subst e
      rw [decL_nil]
      refine ⟨M, u, ul, uc, by rw [List.append_nil]; exact hb, Keeps.refl _ _, ?_⟩
      rw [runLoop_succ, rread_body, ltI_nat, decide_eq_false (Nat.lt_irrefl _), iF, onward_exit]
    | x :: rest =>
      have hlen : s.length = pre.length + (rest.length + 1) := by rw [e]; simp
      have hat : s[pre.length]? = some x := by rw [e]; exact at_pre
      have hdl := hb.len
      simp only [List.length_cons] at hn hj
      rw [runLoop_succ, rread_body, ltI_nat, decide_eq_true (show pre.length < s.length by omega), iT, dnat, nT, Int.toNat_natCast, hat, bO, eqR37]
      by_cases hx : x = 37
      · subst hx
        rw [show decide ((37 : UInt8).toNat = 37) = true from rfl, iT]
        simp only [forceI_eq]
        rw [wrap_two (by omega), leI_nat]
        match rest, hlen, e, hn, hj with
        | [], hlen, e, hn, hj =>
          rw [decL_short1, decide_eq_true (show s.length ≤ pre.length + 2 by simp at hlen; omega)]
          refine ⟨M, ?_, Keeps.refl _ _⟩
          simp only [tf, iF, iT, onward_ret, rread_ret]
        | [a], hlen, e, hn, hj =>
          rw [decL_short2, decide_eq_true (show s.length ≤ pre.length + 2 by simp at hlen; omega)]
          refine ⟨M, ?_, Keeps.refl _ _⟩
          simp only [tf, iF, iT, onward_ret, rread_ret]
        | a :: c :: rest, hlen, e, hn, hj =>
          simp only [List.length_cons] at hlen hn hj
          have ha : s[pre.length + 1]? = some a := by rw [e]; exact at_pre1
          have hc : s[pre.length + 2]? = some c := by rw [e]; exact at_pre2
          have ra : acall Tryz.prog HK m 13 [.int .u8 (a.toNat : Int)] M = some (.int .i64 (hexI a), M) := hex_run a (by omega)
          have rc : acall Tryz.prog HK m 13 [.int .u8 (c.toNat : Int)] M = some (.int .i64 (hexI c), M) := hex_run c (by omega)
          rw [decide_eq_false (show ¬ s.length ≤ pre.length + 2 by omega)]
          rw [wrap_one (by omega)]
          simp only [ff, iT, dnat, nT, Int.toNat_natCast, ha, hc, bO, aI, ra, rc, cond_false]
          rw [decL_hex]
          cases va : hexV a with
          | none =>
            rw [hexI_none va, ltI_neg]
            refine ⟨M, ?_, Keeps.refl _ _⟩
            simp only [tf, iF, iT, onward_ret, rread_ret]
          | some y =>
            rw [hexI_some va, ltR0]
            have hy := hexV_lt va
            cases vc : hexV c with
            | none =>
              rw [hexI_none vc, ltI_neg]
              refine ⟨M, ?_, Keeps.refl _ _⟩
              simp only [ff, iF, iT, cond_false, onward_ret, rread_ret]
            | some z =>
              rw [hexI_some vc, ltR0]
              have hz := hexV_lt vc
              obtain ⟨_, w2, w3, w4⟩ := join_all ⟨y, hy⟩ ⟨z, hz⟩
              simp only at w2 w3 w4
              simp only [ff, iF, iT, cond_false, bO, aI, forceI_eq, w2, w3, w4, beqA_int, beqA_str, nT, dnat, Int.toNat_natCast, hc]
              obtain ⟨M1, r1, h1, k1⟩ := grow_bgr (M := M.new (.cells [.int .u8 ((UInt8.ofNat (16 * y + z)).toNat : Int)] 0 .yes)) (x := UInt8.ofNat (16 * y + z)) (a := M.next) (k := some 1) (hb.moved (Keeps.new _ (Nat.le_refl _))) (Nat.le_succ_of_le hlo) (Nat.zero_lt_succ _) (row_cells (by rw [AMem.get_new, if_pos rfl])) (by unfold roomA; omega)
              rw [r1]
              simp only [bO]
              rw [wrap_one (a := pre.length + 2) (by omega), onward_normal]
              have k01 : Keeps lo M M1 := (Keeps.new _ hlo).trans k1 (Nat.le_refl _)
              have := ih rest (pre ++ [37, a, c]) (d ++ [UInt8.ofNat (16 * y + z)]) j M1 _ _ _ (by omega) (by rw [e]; simp) (by omega) h1 (by simp; omega) (Nat.le_trans hlo k01.next) (by have := k01.next; omega)
              simp only [List.length_append, List.length_cons, List.length_nil, Nat.zero_add] at this
              cases hr : decL rest with
              | none =>
                rw [hr] at this
                obtain ⟨M', r2, k2⟩ := this
                exact ⟨M', r2, k01.trans k2 (Nat.le_refl _)⟩
              | some q =>
                rw [hr] at this
                obtain ⟨M', u', l', c', h2, k2, r2⟩ := this
                refine ⟨M', u', l', c', ?_, k01.trans k2 (Nat.le_refl _), r2⟩
                simpa using h2
      · rw [decide_eq_false (show ¬ x.toNat = 37 from fun h => hx (UInt8.toNat_inj.1 h)), iF]
        rw [decL_byte hx]
        obtain ⟨M1, r1, h1, k1⟩ := grow_bgr (M := M.new (.cells [.int .u8 (x.toNat : Int)] 0 .yes)) (x := x) (a := M.next) (k := some 1) (hb.moved (Keeps.new _ (Nat.le_refl _))) (Nat.le_succ_of_le hlo) (Nat.zero_lt_succ _) (row_cells (by rw [AMem.get_new, if_pos rfl])) (by unfold roomA; omega)
        rw [r1]
        simp only [bO, forceI_eq]
        rw [wrap_one (by omega), onward_normal]
        have k01 : Keeps lo M M1 := (Keeps.new _ hlo).trans k1 (Nat.le_refl _)
        have := ih rest (pre ++ [x]) (d ++ [x]) j M1 _ _ _ (by omega) (by rw [e]; simp) (by omega) h1 (by simp; omega) (Nat.le_trans hlo k01.next) (by have := k01.next; omega)
        simp only [List.length_append, List.length_cons, List.length_nil, Nat.zero_add] at this
        cases hr : decL rest with
        | none =>
          rw [hr] at this
          obtain ⟨M', r2, k2⟩ := this
          exact ⟨M', r2, k01.trans k2 (Nat.le_refl _)⟩
        | some q =>
          rw [hr] at this
          obtain ⟨M', u', l', c', h2, k2, r2⟩ := this
          refine ⟨M', u', l', c', ?_, k01.trans k2 (Nat.le_refl _), r2⟩
          simpa using h2

theorem rread_run (s : Bs) (hs : s.length ≤ 1000000) {M : AMem} (h0 : 0 < M.next) {m : Nat} (hm : s.length + 30 ≤ m) :
    ∃ x M', call m 6 [.str s] M = some (.tup [.str x, .bool (readW s).isSome], M') ∧ Keeps M.next M M' ∧ ∀ y, readW s = some y → x = y := by
  obtain ⟨m, rfl⟩ : ∃ k, m = k + 1 := ⟨m - 1, by omega⟩
  rw [call, acall_run Tryz.func6 (hk (by decide)), rread_eq, bytesEq_iff]
  unfold readW
  by_cases e : s = [45]
  · rw [if_pos e, decide_eq_true (show s = [{ toBitVec := 45#8 : UInt8 }] from e), iT]
    exact ⟨[], M, rfl, Keeps.refl _ _, fun y hy => by cases hy; rfl⟩
  · rw [if_neg e, decide_eq_false (show ¬ s = [{ toBitVec := 45#8 : UInt8 }] from e), iF]
    have h := rread_loop (s := s) (r := []) (o := false) (lo := M.next) (m := m) hs (by omega) s.length s [] [] m (M.new (.cells [] 0 .yes)) (some (M.next, 0)) 0 (some 0) (Nat.le_refl _) rfl (by omega) ⟨rfl, .inl ⟨rfl, rfl⟩⟩ (Nat.le_refl _) (Nat.le_succ _) (Nat.zero_lt_succ _)
    have k0 : Keeps M.next M (M.new (.cells [] 0 .yes)) := Keeps.new _ (Nat.le_refl _)
    cases hd : decL s with
    | none =>
      rw [hd] at h
      obtain ⟨M', r1, k1⟩ := h
      exact ⟨[], M', r1, k0.trans k1 (Nat.le_refl _), fun y hy => by cases hy⟩
    | some x =>
      rw [hd] at h
      obtain ⟨M1, u', l', c', h1, k1, r1⟩ := h
      have hx := decL_len hd
      have hstr := h1.str
      rw [List.nil_append] at hstr
      refine ⟨x, M1, ?_, k0.trans k1 (Nat.le_refl _), fun y hy => by
        simp only at hy
        split at hy
        · cases hy; rfl
        · cases hy⟩
      refine r1.trans ?_
      rw [rread_end]
      simp only [hstr, bO, aS]
      rw [show acall Tryz.prog HK m 8 [.str x] M1 = some (.str (wordT x), M1) from rtext_run x (by omega) (by omega)]
      simp only [bO, aS, hstr, beqA_str, nT, bytesEq_iff]
      by_cases q : wordT x = s
      · simp only [q, decide_true, if_true, Option.isSome_some]
      · simp only [q, decide_false, if_false, Option.isSome_none]
end Go.Proofs.YtjgionikigpdmaaGreatDoor
