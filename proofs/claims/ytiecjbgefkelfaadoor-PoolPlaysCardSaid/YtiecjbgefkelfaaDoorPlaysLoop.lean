/-
  'sluicegatelaw07.PoolPlays' answers true, told of the abstract memory: its rounds.
-/
import Derived.Test.YtiecjbgefkelfaaDoorPlaysRun
namespace Go.Proofs.YtiecjbgefkelfaaDoor
open Go.Ab
set_option linter.unusedVariables false
set_option linter.unusedSimpArgs false
set_option maxRecDepth 100000

section
variable {M : AMem} {a : Nat} {R : RowS} {p cnt : Nat} {ws : List W64} {bs : List Bool} {m : Nat} {s : Option (Nat × Nat)} {l : Nat} {c : Option Nat} {xs : List (Int × Int × Nat)}

abbrev fpB (n : Nat) (l : Nat) (c : Option Nat) (ask a p : Nat) (qc : Option Nat) (w d : Nat) (kd kk : Int) (i : Nat) : Fr :=
  mkFr [(0, .int .i64 n), (1, .slice (some (1, 0)) l c), (2, .int .u32 ask), (6, .bool false), (7, .ptr (some (a, 0))), (8, .int .i64 0), (9, .slice (some (p, 0)) n qc), (10, .int .i64 w), (11, .ptr (some (d, 0))), (12, .bool true), (71, .int .i64 w), (72, .slice (some (1, 0)) l c), (73, .int .i64 l), (74, .bool true), (75, .bool true), (76, .int .i64 w), (77, .bool true), (78, .bool true), (81, .slice (some (1, 0)) l c), (82, .int .i64 w), (83, .ptr (some (1, 0 + w * 3))), (84, .agg [.int .i64 kd, .int .i64 kk, .int .u32 i]), (85, .ptr (some (d, 0))), (86, .int .i64 kd)]

def actMem (M : AMem) (kd kk : Int) (i : Nat) : AMem := (M.new (ABlk.cells [AV.int IntKind.i64 0, AV.int IntKind.i64 0, AV.int IntKind.u32 0] 0 true)).set M.next (ABlk.cells [.int .i64 kd, .int .i64 kk, .int .u32 i] 0 true)

theorem pp_act (hx : (xs.length : Nat) = l) {w : Nat} (q : w < l) (g2 : M.row 1 = some (act3Cells xs)) {kd kk : Int} {i : Nat} (g3 : (act3Cells xs)[w * 3 + 0]? = some (.int .i64 kd)) (g4 : (act3Cells xs)[w * 3 + 1]? = some (.int .i64 kk)) (g5 : (act3Cells xs)[w * 3 + 2]? = some (.int .u32 i)) :
    (bindO (M.row 1) fun a => if 0 + w * 3 + 3 ≤ a.length then some (AV.agg (List.take 3 (List.drop (0 + w * 3) a))) else none) = some (.agg [.int .i64 kd, .int .i64 kk, .int .u32 i]) := by
  have hlen3 := act3Cells_len xs
  rw [g2, bO, if_pos (by rw [hlen3]; omega), Nat.zero_add]
  congr 2
  apply List.ext_getElem?
  intro j
  rw [List.getElem?_take]
  by_cases hj : j < 3
  · rw [if_pos hj, List.getElem?_drop]
    have : j = 0 ∨ j = 1 ∨ j = 2 := by omega
    rcases this with rfl | rfl | rfl
    · rw [g3]; rfl
    · rw [g4]; rfl
    · rw [g5]; rfl
  · rw [if_neg hj, List.getElem?_eq_none (by simp; omega)]

theorem pp_round {β : Type} {n : Nat} (ask : Nat) {qc : Option Nat} {w : Nat} (q : w < l) (hw : w < 60) {kd kk : Int} {i : Nat}
    (h3 : (bindO (M.row 1) fun a => if 0 + w * 3 + 3 ≤ a.length then some (AV.agg (List.take 3 (List.drop (0 + w * 3) a))) else none) = some (.agg [.int .i64 kd, .int .i64 kk, .int .u32 i])) (k : AExit → Fr → AMem → Option β) :
    runBody Tryd.prog HK Tryd.f6 0 [0, 1, 2, 6, 7, 8, 9, 10] m (fp0 n (some (1, 0)) l c ask a p qc w) M k =
      runBlk Tryd.prog HK Tryd.f6 0 2 m (fpB n l c ask a p qc w M.next kd kk i) (actMem M kd kk i) (behindBlk Tryd.prog HK Tryd.f6 0 2 m [0, 1, 2, 6, 7, 8, 9, 10] k) := by
  have hd5 : decide ((w : Int) < 60) = true := by simp; omega
  have hget0 : (M.new (ABlk.cells [AV.int IntKind.i64 0, AV.int IntKind.i64 0, AV.int IntKind.u32 0] 0 true)).get M.next = some (.cells [AV.int IntKind.i64 0, AV.int IntKind.i64 0, AV.int IntKind.u32 0] 0 true) := by rw [AMem.get_new, if_pos rfl]
  have hput : (if 0 + (1 + 1 + 1) ≤ [AV.int IntKind.i64 0, AV.int IntKind.i64 0, AV.int IntKind.u32 0].length then some (AV.int IntKind.i64 kd :: AV.int IntKind.i64 kk :: AV.int IntKind.u32 (i : Int) :: List.drop (0 + (1 + 1 + 1)) [AV.int IntKind.i64 0, AV.int IntKind.i64 0, AV.int IntKind.u32 0]) else none) = some [.int .i64 kd, .int .i64 kk, .int .u32 i] := rfl
  have hgd : ((M.new (ABlk.cells [AV.int IntKind.i64 0, AV.int IntKind.i64 0, AV.int IntKind.u32 0] 0 true)).set M.next (ABlk.cells [.int .i64 kd, .int .i64 kk, .int .u32 i] 0 true)).get M.next = some (.cells [.int .i64 kd, .int .i64 kk, .int .u32 i] 0 true) := by rw [AMem.get_set, if_pos rfl]
  have hrow1 := row_cells hgd
  rw [fp0, pp_body]
  rw [dlt q, hd5]
  rw [tt, iT, cond_true, iT, dnat, Bool.and_self, nT, bO, Int.toNat_natCast]
  rw [h3, bO, aG, aC, aI, aC, aI, aC, aI, aN, hget0, gC, hput, bO, bO, hrow1, bO, List.getElem?_cons_zero, bO, aI]
  rfl

theorem pp_out {β : Type} {n : Nat} (ask : Nat) {qc : Option Nat} {w : Nat} (q : ¬(w < l ∧ w < 60)) (k : AExit → Fr → AMem → Option β) :
    runBody Tryd.prog HK Tryd.f6 0 [0, 1, 2, 6, 7, 8, 9, 10] m (fp0 n s l c ask a p qc w) M k = k (.exit 0) (fp0 n s l c ask a p qc w) M := by
  rw [fp0, pp_body]
  by_cases q1 : w < l
  · have hd5 : decide ((w : Int) < 60) = false := by simp; omega
    rw [dlt q1, hd5, tt, iT, cond_true, iF]
  · have : decide ((w : Int) < (l : Int)) = false := by simp; omega
    rw [this, ft, iF, iF]

theorem pp_loop {ask : Nat} (ha : ask < 4294967296) (hm : 70001 ≤ m) : ∀ (d w mm : Nat) {M : AMem} {p cnt : Nat} {ws : List W64} {bs : List Bool} {qc : Option Nat}, Inv7 M a R p s l xs cnt ws bs → 60 - w = d → d + 1 ≤ mm → w ≤ l →
    ∃ M', runLoop Tryd.prog HK Tryd.f6 0 [0, 1, 2, 6, 7, 8, 9, 10] m mm (fp0 R.n s l c ask a p qc w) M (afterLoop Tryd.prog HK Tryd.f6 0 m) = some (.bool true, M') := by
  intro d
  induction d with
  | zero =>
    intro w mm M p cnt ws bs qc h hd hmm hwl
    obtain ⟨mm, rfl⟩ : ∃ k, mm = k + 1 := ⟨mm - 1, by omega⟩
    exact ⟨M, (runLoop_succ ..).trans ((pp_out ask (by omega) _).trans ((onward_exit ..).trans (pp_last (c := c) h ask qc w (by omega))))⟩
  | succ d ih =>
    intro w mm M p cnt ws bs qc h hd hmm hwl
    obtain ⟨mm, rfl⟩ : ∃ k, mm = k + 1 := ⟨mm - 1, by omega⟩
    by_cases q : w < l
    · obtain ⟨g1, g2, g3, g4, g5, g6⟩ := h.sl.gets q
      have hxl := h.sl.len
      subst g1
      generalize hkd : (xs.getD w (0, 0, 0)).1 = kd at *
      generalize hkk : (xs.getD w (0, 0, 0)).2.1 = kk at *
      generalize hii : (xs.getD w (0, 0, 0)).2.2 = i at *
      have h3 := pp_act hxl q g2 g3 g4 g5
      have hn1 : (actMem M kd kk i).next = M.next + 1 := rfl
      have f1 : ∀ q, q < M.next → (actMem M kd kk i).get q = M.get q := fun q hq => by unfold actMem; rw [AMem.get_set, if_neg (by omega), AMem.get_new, if_neg (by omega)]
      have hgd : (actMem M kd kk i).get M.next = some (.cells [.int .i64 kd, .int .i64 kk, .int .u32 i] 0 true) := by unfold actMem; rw [AMem.get_set, if_pos rfl]
      have i1 : Inv7 (actMem M kd kk i) a R p (some (1, 0)) l xs cnt ws bs := h.step (M1 := actMem M kd kk i) (p' := p) (bs' := bs) (by omega) f1 (by
        obtain ⟨sz, cl, hh⟩ := h.ref.get
        exact ⟨⟨sz, cl, by rw [f1 p h.big.2.2.2.2]; exact hh⟩, h.ref.len⟩) (by have := h.big; omega) (.inl rfl) (h.pool.grow (by omega) f1) (Nat.le_refl _) (fun _ _ _ _ => rfl) h.eq
      have hr := pp_round (c := c) (a := a) (p := p) (m := m) (n := R.n) (qc := qc) ask q (w := w) (by omega) h3 (onward Tryd.prog HK Tryd.f6 0 [0, 1, 2, 6, 7, 8, 9, 10] m mm (afterLoop Tryd.prog HK Tryd.f6 0 m))
      have hsw : OnP (actMem M kd kk i) ask a R (some (1, 0)) l c xs w M.next kd (behindBlk Tryd.prog HK Tryd.f6 0 2 m [0, 1, 2, 6, 7, 8, 9, 10] (onward Tryd.prog HK Tryd.f6 0 [0, 1, 2, 6, 7, 8, 9, 10] m mm (afterLoop Tryd.prog HK Tryd.f6 0 m)))
          (runBlk Tryd.prog HK Tryd.f6 0 2 m (fpB R.n l c ask a p qc w M.next kd kk i) (actMem M kd kk i) (behindBlk Tryd.prog HK Tryd.f6 0 2 m [0, 1, 2, 6, 7, 8, 9, 10] (onward Tryd.prog HK Tryd.f6 0 [0, 1, 2, 6, 7, 8, 9, 10] m mm (afterLoop Tryd.prog HK Tryd.f6 0 m)))) := by
        by_cases k01 : kd = 0 ∨ kd = 1
        · exact sw_take i1 ask (qc := qc) w M.next kd k01 hm _ _ _ _ _ _ _
        · exact sw_rest i1 ask (qc := qc) w M.next kd kk i g6 ⟨fun h => k01 (.inl h), fun h => k01 (.inr h)⟩ (by omega) ⟨0, true, hgd⟩ hm _ _ _ _ _ _ _
      obtain ⟨M2, p2, cnt2, ws2, bs2, qc2, inv, e⟩ := hsw
      obtain ⟨M3, inv3, e3⟩ := pp_check (c := c) inv ha (qc := qc2) (w := w) (by omega) M.next kd hm (onward Tryd.prog HK Tryd.f6 0 [0, 1, 2, 6, 7, 8, 9, 10] m mm (afterLoop Tryd.prog HK Tryd.f6 0 m))
      obtain ⟨M', hM'⟩ := ih (w + 1) mm (qc := qc2) inv3 (by omega) (by omega) (by omega)
      exact ⟨M', (runLoop_succ ..).trans (hr.trans (e.trans (e3.trans ((onward_normal ..).trans hM'))))⟩
    · exact ⟨M, (runLoop_succ ..).trans ((pp_out ask (by omega) _).trans ((onward_exit ..).trans (pp_last (c := c) h ask qc w (by omega))))⟩
end
end Go.Proofs.YtiecjbgefkelfaaDoor
