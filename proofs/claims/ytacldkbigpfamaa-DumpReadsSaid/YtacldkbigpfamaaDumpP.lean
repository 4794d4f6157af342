/-
  dump's pair of a line, dump.Read, dump.Text, and whether pairs are the same.
-/
import Derived.Test.YtacldkbigpfamaaDumpR
import Derived.Test.YtacldkbigpfamaaPairs
namespace Go.Proofs.Ytacldkbigpfamaa
open Go.Ab Go.Words
set_option linter.unusedVariables false
set_option linter.unusedSimpArgs false

theorem two_row {M : AMem} {a : Nat} {x y : AV} {s : Nat} {l : Cl} : (M.set a (.cells [x, y] s l)).row a = some [x, y] := row_cells (by rw [AMem.get_set, if_pos rfl])

theorem readV_some {w x : Bs} (h : readW w = some x) : readV w = .tup [.str x, .bool true] := by unfold readV; rw [h]
theorem readV_none {w : Bs} (h : readW w = none) : readV w = .tup [.str [], .bool false] := by unfold readV; rw [h]

/-- what dump's pair of a line is -/
theorem dpair_run (s : Bs) (hs : s.length ≤ 1000000) {M : AMem} (h0 : 0 < M.next) {m : Nat} (hm : s.length + 30 ≤ m) :
    ∃ k v M', call m 16 [.str s] M = some (.tup [.agg [.str k, .str v], .bool (pairP s).isSome], M') ∧ Keeps M.next M M' ∧ ∀ p, pairP s = some p → k = p.1 ∧ v = p.2 := by
  obtain ⟨m, rfl⟩ : ∃ k, m = k + 1 := ⟨m - 1, by omega⟩
  have hl := cutB_len 61 s
  let M0 := M.new (.cells [.str [], .str []] 0 .yes)
  have hg0 : M0.get M.next = some (.cells [.str [], .str []] 0 .yes) := by rw [AMem.get_new, if_pos rfl]
  have k0 : Keeps M.next M M0 := Keeps.new _ (Nat.le_refl _)
  rw [call, acall_run Try.func16 (hk (by decide)), dpair_eq]
  rw [show acall Try.prog HK m 15 [.str s, .str [{ toBitVec := 61#8 : UInt8 }]] (M.new (.cells [.str [], .str []] 0 .yes)) = some (.tup [.str (cutB 61 s).1, .str (cutB 61 s).2.1, .bool (cutB 61 s).2.2], M0) from cut_run s 61 (by omega) (by omega)]
  simp only [bO, aT, aC, aS, aB, aN]
  unfold pairP
  cases hc : (cutB 61 s).2.2 with
  | false =>
    refine ⟨[], [], M0.set M.next (.cells [.str [], .str []] 0 .yes), ?_, k0.trans (Keeps.set _ (Nat.le_refl _)) (Nat.le_refl _), fun p hp => by cases hp⟩
    rw [hg0]
    show bindO (bindO ((M0.set M.next (.cells [.str [], .str []] 0 .yes)).row M.next) _) _ = _
    rw [two_row]
    rfl
  | true =>
    obtain ⟨M1, r1, k1⟩ := dread_run (cutB 61 s).1 (by omega) (M := M0) (Nat.zero_lt_succ _) (m := m) (by omega)
    obtain ⟨M2, r2, k2⟩ := dread_run (cutB 61 s).2.1 (by omega) (M := M1) (by have := k1.next; have : M0.next = M.next + 1 := rfl; omega) (m := m) (by omega)
    have k12 : Keeps M0.next M0 M2 := k1.trans k2 k1.next
    have hg2 : M2.get M.next = some (.cells [.str [], .str []] 0 .yes) := (k12.get M.next (Nat.lt_succ_self _)).trans hg0
    have hfin : ∀ x y : Bs, Keeps M.next M (M2.set M.next (.cells [.str x, .str y] 0 .yes)) := fun x y => (k0.trans k12 (Nat.le_succ _)).trans (Keeps.set _ (Nat.le_refl _)) (Nat.le_refl _)
    simp only [Bool.not_true, iF]
    rw [show acall Try.prog HK m 23 [.str (cutB 61 s).1] M0 = _ from r1]
    cases ra : readW (cutB 61 s).1 with
    | none =>
      rw [readV_none ra]
      simp only [bO, aT, aC, aS, aB, aN]
      rw [show acall Try.prog HK m 23 [.str (cutB 61 s).2.1] M1 = _ from r2]
      cases rb : readW (cutB 61 s).2.1 with
      | none =>
        rw [readV_none rb]
        refine ⟨[], [], _, ?_, hfin [] [], fun p hp => by cases hp⟩
        simp only [bO, aT, aC, aS, aB, aN, ft, iF]
        rw [hg2]
        show bindO (bindO ((M2.set M.next (.cells [.str [], .str []] 0 .yes)).row M.next) _) _ = _
        rw [two_row]
        rfl
      | some y =>
        rw [readV_some rb]
        refine ⟨[], y, _, ?_, hfin [] y, fun p hp => by cases hp⟩
        simp only [bO, aT, aC, aS, aB, aN, ft, iF]
        rw [hg2]
        show bindO (bindO ((M2.set M.next (.cells [.str [], .str y] 0 .yes)).row M.next) _) _ = _
        rw [two_row]
        rfl
    | some x =>
      rw [readV_some ra]
      simp only [bO, aT, aC, aS, aB, aN]
      rw [show acall Try.prog HK m 23 [.str (cutB 61 s).2.1] M1 = _ from r2]
      cases rb : readW (cutB 61 s).2.1 with
      | none =>
        rw [readV_none rb]
        refine ⟨x, [], _, ?_, hfin x [], fun p hp => by cases hp⟩
        simp only [bO, aT, aC, aS, aB, aN, tt, iT]
        rw [hg2]
        show bindO (bindO ((M2.set M.next (.cells [.str x, .str []] 0 .yes)).row M.next) _) _ = _
        rw [two_row]
        rfl
      | some y =>
        rw [readV_some rb]
        refine ⟨x, y, _, ?_, hfin x y, fun p hp => by cases hp; exact ⟨rfl, rfl⟩⟩
        simp only [bO, aT, aC, aS, aB, aN, tt, iT]
        rw [hg2]
        show bindO (bindO ((M2.set M.next (.cells [.str x, .str y] 0 .yes)).row M.next) _) _ = _
        rw [two_row]
        rfl

theorem u22 : Try.prog.underlying 22 = some (.slice 33) := by kernel_rfl
theorem i33 : ∃ i, Try.prog.info? 33 = some i ∧ i.size = 2 ∧ i.bytes ≤ 64 := by
  have h : (Try.prog.info? 33).map (fun i => (i.size, i.bytes)) = some (2, 32) := by kernel_rfl
  obtain ⟨i, h1, h2⟩ := Option.map_eq_some_iff.1 h
  simp only [Prod.mk.injEq] at h2
  exact ⟨i, h1, h2.1, by omega⟩
theorem z33 : zeroA Try.prog 33 = some (.agg [.str [], .str []]) := by kernel_rfl
theorem cl33 : byteCl Try.prog 33 = .yes := by kernel_rfl

/-- what dump.Read answers: of what is read -/
def DumpRd (lo : Nat) (M' : AMem) (v : AV) (done : List (Bs × Bs)) (res : List (Bs × Bs) × Nat) : Prop :=
  (res.2 = 0 ∧ ∃ u l c, v = .tup [.slice u l c, .int .i64 0, .bool true] ∧ PGr lo M' u l c (done ++ res.1)) ∨ (res.2 ≠ 0 ∧ v = .tup [.slice none 0 (some 0), .int .i64 (res.2 : Nat), .bool false])

theorem dumpread_loop {q : Option (Nat × Nat)} {ql : Nat} {qc : Option Nat} {x : Int} {o : Bool} {lo m : Nat} : ∀ (n : Nat) (s : Bs) (done : List (Bs × Bs)) (j : Nat) (M : AMem) (u : Option (Nat × Nat)) (ul : Nat) (uc : Option Nat),
    s.length ≤ n → s.length < j → done.length + s.length ≤ 1000000 → s.length + 40 ≤ m → PGr lo M u ul uc done → lo ≤ M.next → 0 < M.next →
    ∃ v M', runLoop Try.prog HK Try.f8 0 [0, 2, 3, 4, 5, 6] m j (mkFr [(0, .str s), (2, .slice q ql qc), (3, .int .i64 x), (4, .bool o), (5, .slice u ul uc), (6, .int .i64 ((done.length + 1 : Nat) : Int))]) M (afterLoop Try.prog HK Try.f8 0 m) = some (v, M') ∧ Keeps lo M M' ∧ DumpRd lo M' v done (readD s (done.length + 1)) := by
  intro n
  induction n with
  | zero =>
    intro s done j M u ul uc hn hj hd hm hp hlo h0
    have : s = [] := List.eq_nil_of_length_eq_zero (by omega)
    subst this
    obtain ⟨j, rfl⟩ : ∃ k, j = k + 1 := ⟨j - 1, by simp at hj; omega⟩
    refine ⟨.tup [.slice u ul uc, .int .i64 0, .bool true], M, ?_, Keeps.refl _ _, .inl ⟨rfl, u, ul, uc, rfl, by rw [readD_nil, List.append_nil]; exact hp⟩⟩
    rw [runLoop_succ, dumpread_body, show bytesEq [] [] = true from rfl, Bool.not_true, iF, onward_exit, dumpread_end]
  | succ n ih =>
    intro s done j M u ul uc hn hj hd hm hp hlo h0
    obtain ⟨j, rfl⟩ : ∃ k, j = k + 1 := ⟨j - 1, by omega⟩
    by_cases hs : s = []
    · subst hs
      refine ⟨.tup [.slice u ul uc, .int .i64 0, .bool true], M, ?_, Keeps.refl _ _, .inl ⟨rfl, u, ul, uc, rfl, by rw [readD_nil, List.append_nil]; exact hp⟩⟩
      rw [runLoop_succ, dumpread_body, show bytesEq [] [] = true from rfl, Bool.not_true, iF, onward_exit, dumpread_end]
    · have hl := cutB_len 10 s
      have hl2 := hl.2 hs
      rw [runLoop_succ, dumpread_body, bytesEq_iff, decide_eq_false hs, Bool.not_false, iT]
      rw [show acall Try.prog HK m 15 [.str s, .str [{ toBitVec := 10#8 : UInt8 }]] M = some (.tup [.str (cutB 10 s).1, .str (cutB 10 s).2.1, .bool (cutB 10 s).2.2], M) from cut_run s 10 (by omega) (by omega)]
      simp only [bO, aT, aC, aS, aB, aN]
      obtain ⟨k, v, M1, r1, k1, hkv⟩ := dpair_run (cutB 10 s).1 (by omega) h0 (m := m) (by omega)
      rw [show acall Try.prog HK m 16 [.str (cutB 10 s).1] M = _ from r1]
      simp only [bO, aT, aC, aS, aB, aN, aG]
      rw [show (M1.new (.cells [.str [], .str []] 0 .yes)).get M1.next = some (.cells [.str [], .str []] 0 .yes) from by rw [AMem.get_new, if_pos rfl]]
      let M2 := (M1.new (.cells [.str [], .str []] 0 .yes)).set M1.next (.cells [.str k, .str v] 0 .yes)
      have k2 : Keeps M1.next M1 M2 := (Keeps.new _ (Nat.le_refl _)).trans (Keeps.set _ (Nat.le_refl _)) (Nat.le_refl _)
      have k02 : Keeps M.next M M2 := k1.trans k2 k1.next
      show ∃ v' M', ifB ((!(pairP (cutB 10 s).1).isSome) == false) _ _ = some (v', M') ∧ _
      have hbad : ∀ res : List (Bs × Bs) × Nat, res = ([], done.length + 1) → ∃ v' M', onward Try.prog HK Try.f8 0 [0, 2, 3, 4, 5, 6] m j (afterLoop Try.prog HK Try.f8 0 m) .ret (mkFr [(0, .str s), (2, .slice none 0 (some 0)), (3, .int .i64 ((done.length + 1 : Nat) : Int)), (4, .bool false), (5, .slice u ul uc), (6, .int .i64 ((done.length + 1 : Nat) : Int))]) M2 = some (v', M') ∧ Keeps lo M M' ∧ DumpRd lo M' v' done res := by
        intro res hr
        subst hr
        refine ⟨.tup [.slice none 0 (some 0), .int .i64 ((done.length + 1 : Nat) : Int), .bool false], M2, ?_, k02.less hlo, .inr ⟨by simp, rfl⟩⟩
        rw [onward_ret, dumpread_ret]
      rw [readD_cons hs]
      cases hpp : pairP (cutB 10 s).1 with
      | none =>
        simp only [Option.isSome_none, Bool.not_false, tf, iF, iT]
        exact hbad _ (by cases (cutB 10 s).2.2 <;> rfl)
      | some p =>
        obtain ⟨rfl, rfl⟩ := hkv p hpp
        simp only [Option.isSome_some, Bool.not_true, ff, iT, cond_false]
        cases hc : (cutB 10 s).2.2 with
        | false =>
          simp only [Bool.not_false, iT]
          exact hbad _ rfl
        | true =>
          simp only [Bool.not_true, iF]
          rw [show (M1.new (.cells [.str [], .str []] 0 .yes)).set M1.next (ABlk.cells (AV.str p.1 :: AV.str p.2 :: List.drop (0 + (1 + 1)) [AV.str [], AV.str []]) 0 Cl.yes) = M2 from rfl]
          rw [show M2.row M1.next = some [.str p.1, .str p.2] from two_row]
          show ∃ v' M', bindO (appendA Try.prog (M2.new (.cells [.str p.1, .str p.2] 0 .yes)) 22 22 u ul uc (.slice (some (M2.next, 0)) 1 (some 1))) _ = some (v', M') ∧ _
          obtain ⟨i, hi, his, hib⟩ := i33
          have k3 : Keeps M.next M (M2.new (.cells [.str p.1, .str p.2] 0 .yes)) := k02.trans (Keeps.new _ k02.next) (Nat.le_refl _)
          obtain ⟨M4, r4, h4, k4⟩ := append_pair (P := Try.prog) (st := 22) (p := p) (k := some 1) u22 cl33 hi z33 rfl his hib (hp.moved k3) (Nat.le_trans hlo k3.next) (row_cells (by rw [AMem.get_new, if_pos rfl])) (by have := hp.len; omega)
          rw [r4, bO, forceI_eq, wrap_one (by omega), onward_normal]
          have k04 : Keeps lo M M4 := (k3.less hlo).trans k4 (Nat.le_refl _)
          obtain ⟨v', M', r5, k5, h5⟩ := ih (cutB 10 s).2.1 (done ++ [p]) j M4 _ _ _ (by omega) (by omega) (by simp; omega) (by omega) h4 (Nat.le_trans hlo k04.next) (by have := k04.next; omega)
          simp only [List.length_append, List.length_cons, List.length_nil, Nat.zero_add] at r5 h5
          refine ⟨v', M', r5, k04.trans k5 (Nat.le_refl _), ?_⟩
          show DumpRd lo M' v' done (match readD (cutB 10 s).2.1 (done.length + 1 + 1) with | (l, 0) => (p :: l, 0) | (_, k + 1) => ([], k + 1))
          rcases hres : readD (cutB 10 s).2.1 (done.length + 1 + 1) with ⟨l, k⟩
          rw [hres] at h5
          rcases h5 with ⟨e1, u', l', c', e2, e3⟩ | ⟨e1, e2⟩
          · have e1 : k = 0 := e1
            subst e1
            exact .inl ⟨rfl, u', l', c', e2, by simpa using e3⟩
          · have e1 : k ≠ 0 := e1
            obtain ⟨k, rfl⟩ : ∃ j, k = j + 1 := ⟨k - 1, by omega⟩
            exact .inr ⟨by simp, e2⟩

theorem dumpread_run (s : Bs) (hs : s.length ≤ 900000) {M : AMem} (h0 : 0 < M.next) {m : Nat} (hm : s.length + 60 ≤ m) : ∃ v M', call m 8 [.str s] M = some (v, M') ∧ Keeps M.next M M' ∧ DumpRd M.next M' v [] (readD s 1) := by
  obtain ⟨m, rfl⟩ : ∃ k, m = k + 1 := ⟨m - 1, by omega⟩
  rw [call, acall_run Try.func8 (hk (by decide)), dumpread_eq]
  exact dumpread_loop s.length s [] m M none 0 (some 0) (Nat.le_refl _) (by omega) (by simp; omega) (by omega) ⟨rfl, .inl ⟨rfl, rfl⟩⟩ (Nat.le_refl _) h0
end Go.Proofs.Ytacldkbigpfamaa
