/-
  The document's pair of a line, its Read of a dump; 'sluicegatelaw38.DumpReads' answers true, told of the abstract memory.
-/
import Derived.Test.YtacldkbigpfamaaDumpW
namespace Go.Proofs.Ytacldkbigpfamaa
open Go.Ab Go.Words
set_option linter.unusedVariables false
set_option linter.unusedSimpArgs false

theorem cutB_pre {c : UInt8} : ∀ {pre : Bs} (rest : Bs), (∀ b ∈ pre, b ≠ c) → (cutB c (pre ++ rest)).1.length = pre.length + (cutB c rest).1.length
  | [], rest, _ => by simp
  | b :: pre, rest, h => by
    have ih := cutB_pre (pre := pre) rest fun x hx => h x (List.mem_cons_of_mem _ hx)
    have e : cutB c (b :: (pre ++ rest)) = (b :: (cutB c (pre ++ rest)).1, (cutB c (pre ++ rest)).2.1, (cutB c (pre ++ rest)).2.2) := if_neg (h b (List.mem_cons_self ..))
    show (cutB c (b :: (pre ++ rest))).1.length = _
    rw [e]
    simp only [List.length_cons, ih]
    omega

theorem rpair_find {s : Bs} {b m : Nat} {o : Bool} {M : AMem} (hs : s.length ≤ 1000000) (K : AExit → Fr → AMem → Option (AV × AMem)) : ∀ (rest pre : Bs) (j : Nat), s = pre ++ rest → (∀ x ∈ pre, x ≠ 61) → rest.length < j →
    runLoop Try.prog HK Try.f18 0 [0, 2, 3, 4] m j (mkFr [(0, .str s), (2, .ptr (some (b, 0))), (3, .bool o), (4, .int .i64 (pre.length : Nat))]) M K = K (.exit 0) (mkFr [(0, .str s), (2, .ptr (some (b, 0))), (3, .bool o), (4, .int .i64 ((cutB 61 s).1.length : Nat))]) M := by
  intro rest
  induction rest with
  | nil =>
    intro pre j e hp hj
    obtain ⟨j, rfl⟩ : ∃ k, j = k + 1 := ⟨j - 1, by simp at hj; omega⟩
    have hc := cutB_pre (c := 61) [] hp
    rw [List.append_nil] at e hc
    subst e
    rw [runLoop_succ, rpair_body, ltI_nat, decide_eq_false (Nat.lt_irrefl _)]
    simp only [ft, iF, onward_exit]
    rw [hc]
    rfl
  | cons x rest ih =>
    intro pre j e hp hj
    obtain ⟨j, rfl⟩ : ∃ k, j = k + 1 := ⟨j - 1, by omega⟩
    have hlen : s.length = pre.length + (rest.length + 1) := by rw [e]; simp
    have hat : s[pre.length]? = some x := by rw [e]; exact at_pre
    rw [runLoop_succ, rpair_body, ltI_nat, decide_eq_true (show pre.length < s.length by omega)]
    simp only [tt, iT, dnat, nT, Int.toNat_natCast, hat, bO, eqR61, cond_true]
    by_cases hx : x = 61
    · subst hx
      have hc := cutB_pre (c := 61) (61 :: rest) hp
      rw [← e] at hc
      rw [show decide ((61 : UInt8).toNat = 61) = true from rfl, Bool.not_true, iF, onward_exit, hc]
      rfl
    · rw [decide_eq_false (show ¬ x.toNat = 61 from fun h => hx (UInt8.toNat_inj.1 h)), Bool.not_false, iT, forceI_eq, wrap_one (by omega), onward_normal]
      have := ih (pre ++ [x]) j (by rw [e]; simp) (fun y hy => by
        rcases List.mem_append.1 hy with hy | hy
        · exact hp y hy
        · rw [List.mem_singleton.1 hy]; exact hx) (by simp at hj; omega)
      simp only [List.length_append, List.length_cons, List.length_nil, Nat.zero_add] at this
      exact this

theorem rpair_run (s : Bs) (hs : s.length ≤ 1000000) {M : AMem} (h0 : 0 < M.next) {m : Nat} (hm : s.length + 40 ≤ m) :
    ∃ k v M', call m 18 [.str s] M = some (.tup [.agg [.str k, .str v], .bool (pairP s).isSome], M') ∧ Keeps M.next M M' ∧ ∀ p, pairP s = some p → k = p.1 ∧ v = p.2 := by
  obtain ⟨m, rfl⟩ : ∃ k, m = k + 1 := ⟨m - 1, by omega⟩
  have hl := cutB_len 61 s
  let M0 := M.new (.cells [.str [], .str []] 0 .yes)
  have hg0 : M0.get M.next = some (.cells [.str [], .str []] 0 .yes) := by rw [AMem.get_new, if_pos rfl]
  have k0 : Keeps M.next M M0 := Keeps.new _ (Nat.le_refl _)
  rw [call, acall_run Try.func18 (hk (by decide)), rpair_eq]
  have hf := rpair_find (s := s) (b := M.next) (m := m) (o := false) (M := M0) hs (afterLoop Try.prog HK Try.f18 0 m) s [] m rfl (fun x hx => by cases hx) (by omega)
  have hf' : runLoop Try.prog HK Try.f18 0 [0, 2, 3, 4] m m (mkFr [(0, .str s), (2, .ptr (some (M.next, 0))), (3, .bool false), (4, .int .i64 0)]) M0 (afterLoop Try.prog HK Try.f18 0 m) = _ := hf
  show ∃ k v M', runLoop Try.prog HK Try.f18 0 [0, 2, 3, 4] m m (mkFr [(0, .str s), (2, .ptr (some (M.next, 0))), (3, .bool false), (4, .int .i64 0)]) M0 (afterLoop Try.prog HK Try.f18 0 m) = _ ∧ _
  rw [hf', rpair_end, eqI_nat]
  unfold pairP
  cases hc : (cutB 61 s).2.2 with
  | false =>
    obtain ⟨h1, h2⟩ := cutB_none hc
    rw [h1, decide_eq_true rfl, iT]
    refine ⟨[], [], M0.set M.next (.cells [.str [], .str []] 0 .yes), ?_, k0.trans (Keeps.set _ (Nat.le_refl _)) (Nat.le_refl _), fun p hp => by cases hp⟩
    rw [hg0]
    show bindO (bindO ((M0.set M.next (.cells [.str [], .str []] 0 .yes)).row M.next) _) _ = _
    rw [two_row]
    rfl
  | true =>
    obtain ⟨t1, t2⟩ := cutB_take hc
    have hlt : (cutB 61 s).1.length + 1 ≤ s.length := by
      have := congrArg List.length (cutB_some hc)
      simp at this
      omega
    rw [decide_eq_false (show ¬ (cutB 61 s).1.length = s.length by omega), iF]
    obtain ⟨x, M1, r1, k1, e1⟩ := rread_run (cutB 61 s).1 (by omega) (M := M0) (Nat.zero_lt_succ _) (m := m) (by omega)
    obtain ⟨y, M2, r2, k2, e2⟩ := rread_run (cutB 61 s).2.1 (by omega) (M := M1) (by have := k1.next; have : M0.next = M.next + 1 := rfl; omega) (m := m) (by omega)
    have k12 : Keeps M0.next M0 M2 := k1.trans k2 k1.next
    have hg2 : M2.get M.next = some (.cells [.str [], .str []] 0 .yes) := (k12.get M.next (Nat.lt_succ_self _)).trans hg0
    have hfin : ∀ x y : Bs, Keeps M.next M (M2.set M.next (.cells [.str x, .str y] 0 .yes)) := fun x y => (k0.trans k12 (Nat.le_succ _)).trans (Keeps.set _ (Nat.le_refl _)) (Nat.le_refl _)
    simp only [dnat, nT, Int.toNat_natCast, decide_eq_true (show 0 ≤ (cutB 61 s).1.length by omega), decide_eq_true (show (cutB 61 s).1.length ≤ s.length by omega), Bool.and_self, t1, List.drop_zero]
    rw [show acall Try.prog HK m 25 [.str (cutB 61 s).1] M0 = _ from r1]
    simp only [bO, aT, aC, aS, aB, aN, forceI_eq]
    rw [wrap_one (by omega)]
    simp only [dnat, nT, Int.toNat_natCast, decide_eq_true hlt, decide_eq_true (Nat.le_refl s.length), Bool.and_self, List.take_length, t2]
    rw [show acall Try.prog HK m 25 [.str (cutB 61 s).2.1] M1 = _ from r2]
    simp only [bO, aT, aC, aS, aB, aN]
    refine ⟨x, y, M2.set M.next (.cells [.str x, .str y] 0 .yes), ?_, hfin x y, ?_⟩
    · rw [hg2]
      cases ra : readW (cutB 61 s).1 with
      | none =>
        simp only [Option.isSome_none, ft, iF]
        show bindO (bindO ((M2.set M.next (.cells [.str x, .str y] 0 .yes)).row M.next) _) _ = _
        rw [two_row]
        rfl
      | some a =>
        simp only [Option.isSome_some, tt, iT]
        show bindO (bindO ((M2.set M.next (.cells [.str x, .str y] 0 .yes)).row M.next) _) _ = _
        rw [two_row]
        cases readW (cutB 61 s).2.1 <;> rfl
    · intro p hp
      cases ra : readW (cutB 61 s).1 with
      | none => rw [ra] at hp; cases hp
      | some a =>
        cases rb : readW (cutB 61 s).2.1 with
        | none => rw [ra, rb] at hp; cases hp
        | some c =>
          rw [ra, rb] at hp
          cases hp
          exact ⟨e1 a ra, e2 c rb⟩

theorem r38_find {s : Bs} {q u : Option (Nat × Nat)} {ql ul m : Nat} {qc uc : Option Nat} {x i : Int} {M : AMem} (hs : s.length ≤ 1000000) (K : AExit → Fr → AMem → Option (AV × AMem)) : ∀ (rest pre : Bs) (j : Nat), s = pre ++ rest → (∀ y ∈ pre, y ≠ 10) → rest.length < j →
    runLoop Try.prog HK Try.f11 1 [0, 2, 3, 4, 5, 6] m j (mkFr [(0, .str s), (2, .slice q ql qc), (3, .int .i64 x), (4, .slice u ul uc), (5, .int .i64 i), (6, .int .i64 (pre.length : Nat))]) M K = K (.exit 2) (mkFr [(0, .str s), (2, .slice q ql qc), (3, .int .i64 x), (4, .slice u ul uc), (5, .int .i64 i), (6, .int .i64 ((cutB 10 s).1.length : Nat))]) M := by
  intro rest
  induction rest with
  | nil =>
    intro pre j e hp hj
    obtain ⟨j, rfl⟩ : ∃ k, j = k + 1 := ⟨j - 1, by simp at hj; omega⟩
    have hc := cutB_pre (c := 10) [] hp
    rw [List.append_nil] at e hc
    subst e
    rw [runLoop_succ, r38in_body, ltI_nat, decide_eq_false (Nat.lt_irrefl _)]
    simp only [ft, iF, onward_exit]
    rw [hc]
    rfl
  | cons y rest ih =>
    intro pre j e hp hj
    obtain ⟨j, rfl⟩ : ∃ k, j = k + 1 := ⟨j - 1, by omega⟩
    have hlen : s.length = pre.length + (rest.length + 1) := by rw [e]; simp
    have hat : s[pre.length]? = some y := by rw [e]; exact at_pre
    rw [runLoop_succ, r38in_body, ltI_nat, decide_eq_true (show pre.length < s.length by omega)]
    simp only [tt, iT, dnat, nT, Int.toNat_natCast, hat, bO, cond_true]
    rw [show eqI (y.toNat : Int) 10 = decide (y.toNat = 10) from eqI_nat _ 10]
    by_cases hy : y = 10
    · subst hy
      have hc := cutB_pre (c := 10) (10 :: rest) hp
      rw [← e] at hc
      rw [show decide ((10 : UInt8).toNat = 10) = true from rfl, Bool.not_true, iF, onward_exit, hc]
      rfl
    · rw [decide_eq_false (show ¬ y.toNat = 10 from fun h => hy (UInt8.toNat_inj.1 h)), Bool.not_false, iT, forceI_eq, wrap_one (by omega), onward_normal]
      have := ih (pre ++ [y]) j (by rw [e]; simp) (fun z hz => by
        rcases List.mem_append.1 hz with hz | hz
        · exact hp z hz
        · rw [List.mem_singleton.1 hz]; exact hy) (by simp at hj; omega)
      simp only [List.length_append, List.length_cons, List.length_nil, Nat.zero_add] at this
      exact this

/-- what the document's Read answers -/
def RefRd (lo : Nat) (M' : AMem) (v : AV) (done : List (Bs × Bs)) (res : List (Bs × Bs) × Nat) : Prop :=
  (res.2 = 0 ∧ ∃ u l c, v = .tup [.slice u l c, .int .i64 0] ∧ PGr lo M' u l c (done ++ res.1)) ∨ (res.2 ≠ 0 ∧ v = .tup [.slice none 0 (some 0), .int .i64 (res.2 : Nat)])

theorem r38read_loop {q : Option (Nat × Nat)} {ql : Nat} {qc : Option Nat} {x : Int} {lo m : Nat} : ∀ (n : Nat) (s : Bs) (done : List (Bs × Bs)) (j : Nat) (M : AMem) (u : Option (Nat × Nat)) (ul : Nat) (uc : Option Nat),
    s.length ≤ n → s.length < j → done.length + s.length ≤ 1000000 → s.length + 60 ≤ m → PGr lo M u ul uc done → lo ≤ M.next → 0 < M.next →
    ∃ v M', runLoop Try.prog HK Try.f11 0 [0, 2, 3, 4, 5] m j (mkFr [(0, .str s), (2, .slice q ql qc), (3, .int .i64 x), (4, .slice u ul uc), (5, .int .i64 ((done.length : Nat) : Int))]) M (afterLoop Try.prog HK Try.f11 0 m) = some (v, M') ∧ Keeps lo M M' ∧ RefRd lo M' v done (readD s (done.length + 1)) := by
  intro n
  induction n with
  | zero =>
    intro s done j M u ul uc hn hj hd hm hp hlo h0
    have : s = [] := List.eq_nil_of_length_eq_zero (by omega)
    subst this
    obtain ⟨j, rfl⟩ : ∃ k, j = k + 1 := ⟨j - 1, by simp at hj; omega⟩
    refine ⟨.tup [.slice u ul uc, .int .i64 0], M, ?_, Keeps.refl _ _, .inl ⟨rfl, u, ul, uc, rfl, by rw [readD_nil, List.append_nil]; exact hp⟩⟩
    rw [runLoop_succ, r38read_body, ltL0]
    simp only [List.length_nil, decide_eq_false (Nat.lt_irrefl 0), iF, onward_exit, r38read_end]
  | succ n ih =>
    intro s done j M u ul uc hn hj hd hm hp hlo h0
    obtain ⟨j, rfl⟩ : ∃ k, j = k + 1 := ⟨j - 1, by omega⟩
    by_cases hs : s = []
    · subst hs
      refine ⟨.tup [.slice u ul uc, .int .i64 0], M, ?_, Keeps.refl _ _, .inl ⟨rfl, u, ul, uc, rfl, by rw [readD_nil, List.append_nil]; exact hp⟩⟩
      rw [runLoop_succ, r38read_body, ltL0]
      simp only [List.length_nil, decide_eq_false (Nat.lt_irrefl 0), iF, onward_exit, r38read_end]
    · have hl := cutB_len 10 s
      have hl2 := hl.2 hs
      have hpos : 0 < s.length := by
        rcases Nat.eq_zero_or_pos s.length with h | h
        · exact absurd (List.eq_nil_of_length_eq_zero h) hs
        · exact h
      rw [runLoop_succ, r38read_body, ltL0, decide_eq_true hpos, iT, forceI_eq, wrap_one (by omega)]
      have hf := r38_find (s := s) (q := q) (u := u) (ql := ql) (ul := ul) (m := m) (qc := qc) (uc := uc) (x := x) (i := ((done.length + 1 : Nat) : Int)) (M := M) (by omega) (afterIn Try.prog HK Try.f11 0 0 m [0, 2, 3, 4, 5] (onward Try.prog HK Try.f11 0 [0, 2, 3, 4, 5] m j (afterLoop Try.prog HK Try.f11 0 m))) s [] m rfl (fun y hy => by cases hy) (by omega)
      rw [show runLoop Try.prog HK Try.f11 1 [0, 2, 3, 4, 5, 6] m m (mkFr [(0, .str s), (2, .slice q ql qc), (3, .int .i64 x), (4, .slice u ul uc), (5, .int .i64 ((done.length + 1 : Nat) : Int)), (6, .int .i64 0)]) M (afterIn Try.prog HK Try.f11 0 0 m [0, 2, 3, 4, 5] (onward Try.prog HK Try.f11 0 [0, 2, 3, 4, 5] m j (afterLoop Try.prog HK Try.f11 0 m))) = _ from hf]
      rw [r38in_endz]
      have htk : List.drop 0 (List.take (cutB 10 s).1.length s) = (cutB 10 s).1 := by
        rw [List.drop_zero]
        cases hc : (cutB 10 s).2.2 with
        | false => rw [(cutB_none hc).1, List.take_length]
        | true => exact (cutB_take hc).1
      simp only [dnat, nT, Int.toNat_natCast, decide_eq_true (show 0 ≤ (cutB 10 s).1.length by omega), decide_eq_true (show (cutB 10 s).1.length ≤ s.length by omega), Bool.and_self, htk, eqI_nat]
      obtain ⟨k, v, M1, r1, k1, hkv⟩ := rpair_run (cutB 10 s).1 (by omega) h0 (m := m) (by omega)
      rw [show acall Try.prog HK m 18 [.str (cutB 10 s).1] M = _ from r1]
      simp only [bO, aT, aC, aS, aB, aN, aG]
      rw [show (M1.new (.cells [.str [], .str []] 0 .yes)).get M1.next = some (.cells [.str [], .str []] 0 .yes) from by rw [AMem.get_new, if_pos rfl]]
      let M2 := (M1.new (.cells [.str [], .str []] 0 .yes)).set M1.next (.cells [.str k, .str v] 0 .yes)
      have k2 : Keeps M1.next M1 M2 := (Keeps.new _ (Nat.le_refl _)).trans (Keeps.set _ (Nat.le_refl _)) (Nat.le_refl _)
      have k02 : Keeps M.next M M2 := k1.trans k2 k1.next
      show ∃ v' M', ifB ((!(pairP (cutB 10 s).1).isSome) == false) _ _ = some (v', M') ∧ _
      have hbad : ∀ res : List (Bs × Bs) × Nat, res = ([], done.length + 1) → ∃ v' M', onward Try.prog HK Try.f11 0 [0, 2, 3, 4, 5] m j (afterLoop Try.prog HK Try.f11 0 m) .ret (mkFr [(0, .str s), (2, .slice none 0 (some 0)), (3, .int .i64 ((done.length + 1 : Nat) : Int)), (4, .slice u ul uc), (5, .int .i64 ((done.length + 1 : Nat) : Int))]) M2 = some (v', M') ∧ Keeps lo M M' ∧ RefRd lo M' v' done res := by
        intro res hr
        subst hr
        refine ⟨.tup [.slice none 0 (some 0), .int .i64 ((done.length + 1 : Nat) : Int)], M2, ?_, k02.less hlo, .inr ⟨by simp, rfl⟩⟩
        rw [onward_ret, r38read_ret]
      rw [readD_cons hs]
      cases hpp : pairP (cutB 10 s).1 with
      | none =>
        simp only [Option.isSome_none, Bool.not_false, tf, iF, iT]
        exact hbad _ (by cases (cutB 10 s).2.2 <;> rfl)
      | some p =>
        obtain ⟨rfl, rfl⟩ := hkv p hpp
        simp only [Option.isSome_some, Bool.not_true, ff, iT, cond_false]
        cases hc : (cutB 10 s).2.2 with
        | false =>
          rw [(cutB_none hc).1]
          simp only [decide_true, iT]
          exact hbad _ rfl
        | true =>
          obtain ⟨t1, t2⟩ := cutB_take hc
          have hlt : (cutB 10 s).1.length + 1 ≤ s.length := by
            have := congrArg List.length (cutB_some hc)
            simp at this
            omega
          rw [decide_eq_false (show ¬ (cutB 10 s).1.length = s.length by omega)]
          simp only [iF]
          rw [show (M1.new (.cells [.str [], .str []] 0 .yes)).set M1.next (ABlk.cells (AV.str p.1 :: AV.str p.2 :: List.drop (0 + (1 + 1)) [AV.str [], AV.str []]) 0 Cl.yes) = M2 from rfl]
          rw [show M2.row M1.next = some [.str p.1, .str p.2] from two_row]
          show ∃ v' M', bindO (appendA Try.prog (M2.new (.cells [.str p.1, .str p.2] 0 .yes)) 22 22 u ul uc (.slice (some (M2.next, 0)) 1 (some 1))) _ = some (v', M') ∧ _
          obtain ⟨i, hi, his, hib⟩ := i33
          have k3 : Keeps M.next M (M2.new (.cells [.str p.1, .str p.2] 0 .yes)) := k02.trans (Keeps.new _ k02.next) (Nat.le_refl _)
          obtain ⟨M4, r4, h4, k4⟩ := append_pair (P := Try.prog) (st := 22) (p := p) (k := some 1) u22 cl33 hi z33 rfl his hib (hp.moved k3) (Nat.le_trans hlo k3.next) (row_cells (by rw [AMem.get_new, if_pos rfl])) (by have := hp.len; omega)
          rw [r4, bO, forceI_eq, wrap_one (by omega)]
          simp only [dnat, nT, Int.toNat_natCast, decide_eq_true hlt, decide_eq_true (Nat.le_refl s.length), Bool.and_self, List.take_length, t2]
          rw [onward_normal]
          have k04 : Keeps lo M M4 := (k3.less hlo).trans k4 (Nat.le_refl _)
          obtain ⟨v', M', r5, k5, h5⟩ := ih (cutB 10 s).2.1 (done ++ [p]) j M4 _ _ _ (by omega) (by omega) (by simp; omega) (by omega) h4 (Nat.le_trans hlo k04.next) (by have := k04.next; omega)
          simp only [List.length_append, List.length_cons, List.length_nil, Nat.zero_add] at r5 h5
          refine ⟨v', M', r5, k04.trans k5 (Nat.le_refl _), ?_⟩
          show RefRd lo M' v' done (match readD (cutB 10 s).2.1 (done.length + 1 + 1) with | (l, 0) => (p :: l, 0) | (_, k + 1) => ([], k + 1))
          rcases hres : readD (cutB 10 s).2.1 (done.length + 1 + 1) with ⟨l, k⟩
          rw [hres] at h5
          rcases h5 with ⟨e1, u', l', c', e2, e3⟩ | ⟨e1, e2⟩
          · have e1 : k = 0 := e1
            subst e1
            exact .inl ⟨rfl, u', l', c', e2, by simpa using e3⟩
          · have e1 : k ≠ 0 := e1
            obtain ⟨k, rfl⟩ : ∃ j, k = j + 1 := ⟨k - 1, by omega⟩
            exact .inr ⟨by simp, e2⟩

theorem r38read_run (s : Bs) (hs : s.length ≤ 900000) {M : AMem} (h0 : 0 < M.next) {m : Nat} (hm : s.length + 80 ≤ m) : ∃ v M', call m 11 [.str s] M = some (v, M') ∧ Keeps M.next M M' ∧ RefRd M.next M' v [] (readD s 1) := by
  obtain ⟨m, rfl⟩ : ∃ k, m = k + 1 := ⟨m - 1, by omega⟩
  rw [call, acall_run Try.func11 (hk (by decide)), r38read_eq]
  obtain ⟨v, M', r1, k1, h1⟩ := r38read_loop (q := none) (ql := 0) (qc := some 0) (x := 0) (lo := M.next) (m := m) s.length s [] m (M.new (.cells [] 0 .yes)) (some (M.next, 0)) 0 (some 0) (Nat.le_refl _) (by omega) (by simp; omega) (by omega) ⟨rfl, .inl ⟨rfl, rfl⟩⟩ (Nat.le_succ _) (Nat.zero_lt_succ _)
  exact ⟨v, M', r1, (Keeps.new _ (Nat.le_refl _)).trans k1 (Nat.le_refl _), h1⟩

/-! ### the law -/
theorem eq_bool (M : AMem) (a b : Bool) : eqA Try.prog M 12 4 (.bool a) (.bool b) = some (a == b) := by
  unfold eqA
  simp only [Try.underlying4]

theorem pin_none (M : AMem) : PIn M none 0 [] := ⟨rfl, .inl rfl⟩

theorem reads_run (s : Bs) {M : AMem} (h0 : 1 ≤ M.next) {m : Nat} (hm : 3000000 ≤ m) : isT (call m 4 [.str s] M) = true := by
  obtain ⟨m, rfl⟩ : ∃ k, m = k + 1 := ⟨m - 1, by omega⟩
  rw [call, acall_run Try.func4 (hk (by decide)), reads_eq, ltL4000]
  by_cases hs : 4000 < s.length
  · rw [decide_eq_true hs, iT, awake_call h0 (by omega)]
    rfl
  · rw [decide_eq_false hs, iF]
    obtain ⟨v, M1, r1, k1, h1⟩ := dumpread_run s (by omega) h0 (m := m) (by omega)
    obtain ⟨w, M2, r2, k2, h2⟩ := r38read_run s (by omega) (M := M1) (by have := k1.next; omega) (m := m) (by omega)
    rw [show acall Try.prog HK m 8 [.str s] M = _ from r1]
    have hn2 : 1 ≤ M2.next := by have := k1.next; have := k2.next; omega
    rcases h1 with ⟨e1, u, l, c, rfl, hg⟩ | ⟨e1, rfl⟩
    · rcases h2 with ⟨e2, u', l', c', rfl, hg'⟩ | ⟨e2, rfl⟩
      case inr => exact absurd e1 e2
      rw [List.nil_append] at hg hg'
      have hrd : readD s 1 = ((readD s 1).1, 0) := by rw [← e1]
      have hdump : dumpT (readD s 1).1 = s := dumpT_readD s.length s 0 _ (Nat.le_refl _) hrd
      have hp1 : PIn M2 u l (readD s 1).1 := (hg.moved k2).pin
      have hlenp : (readD s 1).1.length ≤ 4000 := by have := dumpT_ge (readD s 1).1; rw [hdump] at this; omega
      simp only [bO, aT, aC, aL, aI, aB, aN]
      rw [show acall Try.prog HK m 11 [.str s] M1 = _ from r2]
      simp only [bO, aT, aC, aL, aI, aB, aN]
      rw [show acall Try.prog HK m 10 [.slice u l c, .slice u' l' c'] M2 = some (.bool (decide ((readD s 1).1 = (readD s 1).1)), M2) from same_run hp1 hg'.pin (by omega) (by omega)]
      simp only [bO, aB, decide_true, Bool.not_true, ff, iT, cond_false, show eqI (0 : Int) 0 = true from rfl, eq_bool, beq_self_eq_true, show (true != true) = false from rfl, iF, cond_true]
      obtain ⟨M3, r3, k3⟩ := dumptext_run (sc := c) hp1 (by rw [hdump]; omega) (by omega) (m := m) (by omega)
      rw [show acall Try.prog HK m 7 [.slice u l c] M2 = _ from r3, hdump]
      simp only [bO, aS, bytesEq_iff, decide_true, tt, iT, cond_false, cond_true]
      rw [awake_call (by have := k3.next; omega) (by omega)]
      rfl
    · rcases h2 with ⟨e2, u', l', c', rfl, hg'⟩ | ⟨e2, rfl⟩
      case inl => exact absurd e2 e1
      simp only [bO, aT, aC, aL, aI, aB, aN]
      rw [show acall Try.prog HK m 11 [.str s] M1 = _ from r2]
      simp only [bO, aT, aC, aL, aI, aB, aN]
      rw [show acall Try.prog HK m 10 [.slice none 0 (some 0), .slice none 0 (some 0)] M2 = some (.bool (decide (([] : List (Bs × Bs)) = [])), M2) from same_run (pin_none M2) (pin_none M2) (by simp) (by omega)]
      have hz : eqI (((readD s 1).2 : Nat) : Int) 0 = false := by rw [eqR0, decide_eq_false e1]
      have hsame : eqI (((readD s 1).2 : Nat) : Int) (((readD s 1).2 : Nat) : Int) = true := by rw [eqI_nat]; simp
      simp only [bO, aB, decide_true, Bool.not_true, Bool.not_false, ff, tf, tt, ft, iT, iF, cond_false, cond_true, hz, hsame, eq_bool, show (false == false) = true from rfl, show (true != true) = false from rfl]
      rw [awake_call hn2 (by omega)]
      rfl
end Go.Proofs.Ytacldkbigpfamaa
