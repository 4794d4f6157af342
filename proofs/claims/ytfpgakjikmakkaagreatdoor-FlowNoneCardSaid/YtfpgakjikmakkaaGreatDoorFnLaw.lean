/-
  'sluicegatelaw22.FlowNone' answers true, told of the abstract memory.
-/
import Derived.Test.YtfpgakjikmakkaaGreatDoorFnShelf
import Derived.Test.YtfpgakjikmakkaaGreatDoorWake
namespace Go.Proofs.YtfpgakjikmakkaaGreatDoor
open Go Go.Ab
set_option linter.unusedVariables false
set_option linter.unusedSimpArgs false
set_option linter.unusedSectionVars false
set_option maxRecDepth 100000

theorem freeW : Free hkW := by
  intro f h
  unfold hkW
  split
  · simp at h
  · simp at h
  · rfl

theorem wake_call {M : AMem} (h : 2 ≤ M.next) (hs : subM linG M = true) {m : Nat} (hm : 1 ≤ m) : acall Tryz.prog hkW m 9 [] M = some (.bool true, M) := by
  obtain ⟨m, rfl⟩ : ∃ k, m = k + 1 := ⟨m - 1, by omega⟩
  rw [acall]
  show wakeH [] M = _
  unfold wakeH
  rw [Nat.ble_eq_true_of_le h, hs]
  rfl

theorem subM_get {M M' : AMem} (k : M'.get 1 = M.get 1) (hs : subM linG M = true) : subM linG M' = true := by
  unfold subM linG at *
  simp only [List.all_cons, List.all_nil] at *
  rw [k]
  exact hs

theorem law_runs (c0 c1 c2 c3 c4 c5 c6 c7 : Int) {i lv : Int} {ka pa ba ra : Option (Nat × Nat)} {kl pl bl rl : Nat} {kc pc bc rc : Option Nat} {M : AMem} {ps : List Txt} {xs : List (Txt × Bool × Txt)} {ys : List (Txt × Txt)}
    (hM : 2 ≤ M.next) (ht : subM linG M = true) (hp : strE.In M pa pl ps) (hx : msgE.In M ba bl xs) (hy : pairE.In M ra rl ys) (i0 : 0 ≤ i) (i1 : i < 4294967296) {m : Nat} (hm : 2000 ≤ m) :
    isT (acall Tryz.prog hkW m 3 [.agg (C8 c0 c1 c2 c3 c4 c5 c6 c7), .int .u32 i, .agg (nodeA lv ka pa ba ra kl pl bl rl kc pc bc rc)] M) = true := by
  obtain ⟨n, rfl⟩ : ∃ n, m = n + 1 := ⟨m - 1, by omega⟩
  have hF := freeW
  let M1 : AMem := bx c0 c1 c2 c3 c4 c5 c6 c7 M
  let M2 : AMem := M1.new (.cells (nodeA lv ka pa ba ra kl pl bl rl kc pc bc rc) 0 .yes)
  have k2 : Keeps M.next M M2 := (Keeps.new (M := M) _ (Nat.le_refl _)).trans (Keeps.new (M := M1) _ (Nat.le_succ _)) (Nat.le_refl _)
  have g1 : M1.get M.next = some (.cells (C8 c0 c1 c2 c3 c4 c5 c6 c7) 0 .yes) := fresh_get M _
  have g2 : M2.get M.next = some (.cells (C8 c0 c1 c2 c3 c4 c5 c6 c7) 0 .yes) := by show (M1.new _).get _ = _; rw [AMem.get_new, if_neg (show ¬ M.next = M1.next by show ¬ M.next = M.next + 1; omega)]; exact g1
  have n2 : M2.get (M.next + 1) = some (.cells (nodeA lv ka pa ba ra kl pl bl rl kc pc bc rc) 0 .yes) := fresh_get M1 _
  have hn2 : M2.next = M.next + 2 := rfl
  obtain ⟨M3, r3, k3⟩ := roadN_run hF i M2 (m := n) (by omega)
  have hn3 := k3.next
  obtain ⟨M4, r4, k4⟩ := raiseN_run hF i lv ka pa ba ra kl pl bl rl kc pc bc rc M3 (m := n) (by omega)
  have hn4 := k4.next
  obtain ⟨M5, r5, k5⟩ := drainN_run hF i M4 (m := n) (by omega)
  have hn5 := k5.next
  have n3 : M3.get (M.next + 1) = some (.cells (nodeA lv ka pa ba ra kl pl bl rl kc pc bc rc) 0 .yes) := by rw [k3.get _ (by omega)]; exact n2
  have k25 : Keeps M2.next M2 M5 := (k3.trans k4 k3.next).trans k5 (by omega)
  have g5 : M5.get M.next = some (.cells (C8 c0 c1 c2 c3 c4 c5 c6 c7) 0 .yes) := by rw [k25.get _ (by omega)]; exact g2
  obtain ⟨M6, r6, k6⟩ := light_run hF c0 c1 c2 c3 c4 c5 c6 c7 M5 (m := n) (by omega)
  have hn6 := k6.next
  have k26 : Keeps M2.next M2 M6 := k25.trans k6 (by omega)
  have kM6 : Keeps M.next M M6 := k2.trans k26 k2.next
  have n6 : M6.get (M.next + 1) = some (.cells (nodeA lv ka pa ba ra kl pl bl rl kc pc bc rc) 0 .yes) := by rw [k26.get _ (by omega)]; exact n2
  have ht6 : subM linG M6 = true := subM_get (kM6.get 1 (by omega)) ht
  rw [acall_run Tryz.func3 (hF 3 rfl), law_eq]
  simp only [AMem.next_new]
  rw [show acall Tryz.prog hkW n 4 [AV.ptr none, AV.int IntKind.u32 i] ((M.new (ABlk.cells [AV.int IntKind.i64 c0, AV.int IntKind.i64 c1, AV.int IntKind.i64 c2, AV.int IntKind.i64 c3, AV.int IntKind.i64 c4, AV.int IntKind.i64 c5, AV.int IntKind.i64 c6, AV.int IntKind.i64 c7] 0 Cl.yes)).new (ABlk.cells [AV.int IntKind.i64 lv, AV.slice ka kl kc, AV.slice pa pl pc, AV.slice ba bl bc, AV.slice ra rl rc] 0 Cl.yes)) = _ from r3]
  rw [bO, aT, aC, aL, aC, aI, aN, row_cells n3, bO, take5, bO, aG, aC, aI, aC, aL, aC, aL, aC, aL, aC, aL, aN, r4, bO, aT, aC, aI, aC, aI, aN, r5, bO, aT, aC, aI, aC, aI, aC, aI, aN]
  rw [show (!eqI 1 1) = false from rfl, iF, iF, iF, row_cells g5, bO, take8, bO, aG, aC, aI, aC, aI, aC, aI, aC, aI, aC, aI, aC, aI, aC, aI, aC, aI, aN, r6, bO, aB]
  cases hl0 : lightZ c0 c1 c2 c3 c4 c5 c6 c7 with
  | false =>
    rw [Bool.not_false, iT, wake_call (by omega) ht6 (by omega)]
    rfl
  | true =>
  have hz : rightZ c0 c1 c2 c3 c4 c5 c6 c7 = true := by
    unfold lightZ at hl0
    simp only [Bool.and_eq_true] at hl0
    exact hl0.1
  obtain ⟨b, M7, r7, k7⟩ := great_run hF (lv := lv) (ka := ka) (kl := kl) (kc := kc) (pc := pc) (bc := bc) (rc := rc) (Elt.In.moved _ hp kM6.next kM6.get) (Elt.In.moved _ hx kM6.next kM6.get) (Elt.In.moved _ hy kM6.next kM6.get) (m := n) (by omega)
  have hn7 := k7.next
  have ht7 : subM linG M7 = true := subM_get (k7.get 1 (by omega)) ht6
  rw [Bool.not_true, iF, row_cells n6, bO, take5, bO, aG, aC, aI, aC, aL, aC, aL, aC, aL, aC, aL, aN, r7, bO, aB]
  cases b with
  | true =>
    rw [iT, wake_call (by omega) ht7 (by omega)]
    rfl
  | false =>
  have hz' := hz
  unfold rightZ at hz'
  simp only [Bool.and_eq_true, leI_eq, decide_eq_true_eq] at hz'
  obtain ⟨hsz, ⟨a1, a2⟩, ⟨a3, a4⟩, ⟨a5, a6⟩, a7, a8⟩ := hz'
  have k27 : Keeps M2.next M2 M7 := k26.trans k7 (by omega)
  have g7 : M7.get M.next = some (.cells (C8 c0 c1 c2 c3 c4 c5 c6 c7) 0 .yes) := by rw [k27.get _ (by omega)]; exact g2
  have n7 : M7.get (M.next + 1) = some (.cells (nodeA lv ka pa ba ra kl pl bl rl kc pc bc rc) 0 .yes) := by rw [k27.get _ (by omega)]; exact n2
  obtain ⟨s, d, img, c, h, lk, fr, mp, p, r, wd, ws, M8, r8, ⟨lo, S, l1, l2, l3⟩, l4, l5, k8⟩ := begun_run hF (M := M7) hz (m := n) (by omega)
  have hn8 := k8.next
  have S8 : ShB M8 lo s d img c h lk fr mp p r wd c0 c1 c2 c3 c4 c5 c6 c7 i := ⟨S.get, S.pool, S.row.get, S.slt, S.plt, S.row.lt, S.cls, S.clp, S.clr, l1, l2, hz, S.cache.b1, S.cache.b2, S.cache.b3, S.cache.b4, S.cache.b5, .inl ⟨S.cache, S.dev⟩⟩
  have g8 : M8.get M.next = some (.cells (C8 c0 c1 c2 c3 c4 c5 c6 c7) 0 .yes) := by rw [k8.get _ (by omega)]; exact g7
  have n8 : M8.get (M.next + 1) = some (.cells (nodeA lv ka pa ba ra kl pl bl rl kc pc bc rc) 0 .yes) := by rw [k8.get _ (by omega)]; exact n7
  obtain ⟨M9, r9, S9, hn9, e9⟩ := road_run hF S8 i0 i1 (m := n) (by omega)
  have n9 : M9.get (M.next + 1) = some (.cells (nodeA lv ka pa ba ra kl pl bl rl kc pc bc rc) 0 .yes) := by rw [e9 _ (by omega) (by omega)]; exact n8
  obtain ⟨MB, rB, SB, hnB, eB⟩ := raise_run hF S9 i0 i1 lv ka pa ba ra kl pl bl rl kc pc bc rc (m := n) (by omega)
  obtain ⟨MD, rD, SD, hnD, eD⟩ := drain_run hF SB i0 i1 (m := n) (by omega)
  have hl := left_run hF SD (m := n) (by omega)
  have hgD : MD.get M.next = some (.cells (C8 c0 c1 c2 c3 c4 c5 c6 c7) 0 .yes) := by rw [eD _ (by omega) (by omega), eB _ (by omega) (by omega), e9 _ (by omega) (by omega)]; exact g8
  have htD : subM linG MD = true := subM_get (by rw [eD _ (by omega) (by omega), eB _ (by omega) (by omega), e9 _ (by omega) (by omega), k8.get _ (by omega)]) ht7
  rw [iF, row_cells g7, bO, take8, bO, aG, aC, aI, aC, aI, aC, aI, aC, aI, aC, aI, aC, aI, aC, aI, aC, aI, aN, r8, bO, aT, aC, aP, aC, aP, aN]
  simp only [eS]
  rw [show (false != false) = false from rfl, iF]
  by_cases h0 : 0 < i
  · rw [ltI_eq, decide_eq_true h0, iT, row_cells g8, bO]
    simp only [List.getElem?_cons_zero]
    rw [bO, aI, wrap_i64 (x := i) (by omega) (by omega)]
    by_cases h1 : i < c0
    · have he : errOf c0 i = 12 := by unfold errOf; rw [if_neg (by omega)]
      rw [he] at r9 rB rD
      rw [ltI_eq, decide_eq_true h1, iT, r9]
      rw [bO, aT, aC, aL, aC, aI, aN, row_cells n9, bO, take5, bO, aG, aC, aI, aC, aL, aC, aL, aC, aL, aC, aL, aN, rB, bO, aT, aC, aI, aC, aI, aN, rD, bO, aT, aC, aI, aC, aI, aC, aI, aN]
      rw [show eqI 12 12 = true from rfl, iT, iT, iT]
      simp only [row_cells hgD, bO, List.getElem?_cons_zero, aI, forceI_eq]
      rw [wrap_i64 (x := c0 - 1) (by omega) (by omega), hl]
      simp only [bO, aI]
      rw [show eqI (c0 - 1) (c0 - 1) = true by rw [eqI_eq]; simp, iT]
      simp only [row_cells hgD, bO, List.getElem?_cons_zero, aI, forceI_eq, wrap_i64 (x := c0 - 1) (by omega) (by omega), beqA_int, beqA_ptr, nT]
      rw [wake_call (by omega) htD (by omega)]
      rfl
    · have he : errOf c0 i = 4 := by unfold errOf; rw [if_pos (by omega)]
      rw [he] at r9 rB rD
      rw [ltI_eq, decide_eq_false h1, iF, r9]
      rw [bO, aT, aC, aL, aC, aI, aN, row_cells n9, bO, take5, bO, aG, aC, aI, aC, aL, aC, aL, aC, aL, aC, aL, aN, rB, bO, aT, aC, aI, aC, aI, aN, rD, bO, aT, aC, aI, aC, aI, aC, aI, aN]
      rw [show eqI 4 4 = true from rfl, iT, iT, iT]
      simp only [row_cells hgD, bO, List.getElem?_cons_zero, aI, forceI_eq]
      rw [wrap_i64 (x := c0 - 1) (by omega) (by omega), hl]
      simp only [bO, aI]
      rw [show eqI (c0 - 1) (c0 - 1) = true by rw [eqI_eq]; simp, iT]
      simp only [row_cells hgD, bO, List.getElem?_cons_zero, aI, forceI_eq, wrap_i64 (x := c0 - 1) (by omega) (by omega), beqA_int, beqA_ptr, nT]
      rw [wake_call (by omega) htD (by omega)]
      rfl
  · have he : errOf c0 i = 4 := by unfold errOf; rw [if_pos (by omega)]
    rw [he] at r9 rB rD
    rw [ltI_eq, decide_eq_false h0, iF, r9]
    rw [bO, aT, aC, aL, aC, aI, aN, row_cells n9, bO, take5, bO, aG, aC, aI, aC, aL, aC, aL, aC, aL, aC, aL, aN, rB, bO, aT, aC, aI, aC, aI, aN, rD, bO, aT, aC, aI, aC, aI, aC, aI, aN]
    rw [show eqI 4 4 = true from rfl, iT, iT, iT]
    simp only [row_cells hgD, bO, List.getElem?_cons_zero, aI, forceI_eq]
    rw [wrap_i64 (x := c0 - 1) (by omega) (by omega), hl]
    simp only [bO, aI]
    rw [show eqI (c0 - 1) (c0 - 1) = true by rw [eqI_eq]; simp, iT]
    simp only [row_cells hgD, bO, List.getElem?_cons_zero, aI, forceI_eq, wrap_i64 (x := c0 - 1) (by omega) (by omega), beqA_int, beqA_ptr, nT]
    rw [wake_call (by omega) htD (by omega)]
    rfl
end Go.Proofs.YtfpgakjikmakkaaGreatDoor
