/-
  'sluicegatelaw07.PoolOnce' answers true: its rounds, its start.
-/
import Derived.Test.YtiecjbgefkelfaaDoorOnceRun
namespace Go.Proofs.YtiecjbgefkelfaaDoor
open Go.Ab
set_option linter.unusedVariables false
set_option linter.unusedSimpArgs false

section
variable {M : AMem} {a : Nat} {R : RowS} {cnt : Nat} {ws : List W64} {m : Nat} {mp clock : Nat} {ks : List (Nat × Nat)} {s : Option (Nat × Nat)} {l : Nat} {c : Option Nat} {xs : List (Int × Int × Nat)}

theorem PoolAt.roots (h : PoolAt M a R cnt ws) : Roots mem0 M := by
  have hg : ∀ α B, mem0.get α = some B → α = 0 ∧ B = .ro (tabInts.map (AV.int .u8)) := by
    intro α B e
    unfold mem0 at e
    rw [AMem.get_new] at e
    by_cases q : α = 0
    · rw [if_pos q] at e; cases e; exact ⟨q, rfl⟩
    · rw [if_neg q] at e
      have : (Tri.nil : Tri ABlk).get α = none := Tri.get_nil α
      unfold AMem.get at e
      rw [this] at e; cases e
  refine ⟨by have := h.lt; show 1 ≤ M.next; omega, fun α B e => ?_, fun α B e => ?_⟩
  · obtain ⟨rfl, rfl⟩ := hg α B e; exact h.row.tab
  · obtain ⟨rfl, rfl⟩ := hg α B e
    exact ⟨Nat.zero_lt_one, _, rfl, by decide⟩

theorem awake7_run (h : Roots mem0 M) (hm : 1 ≤ m) : call m 30 [] M = some (.bool true, M) := by
  obtain ⟨k, rfl⟩ : ∃ k, m = k + 1 := ⟨m - 1, by omega⟩
  exact pureHook_call (by decide) h k

theorem once_last (h : InvO M a R mp s l xs cnt ws ks []) (i : Int) (w : Nat) (hm : 70000 ≤ m) : afterLoop Tryd.prog HK Tryd.f5 0 m (.exit 0) (fo0 i R.n s l c a mp w) M = some (.bool true, M) := by
  have ha := awake7_run h.pool.roots (m := m) (by omega)
  rw [fo0, once_end]
  simp only [ha, bO, aB]

theorem once_loop (i : Int) (hm : 70001 ≤ m) : ∀ (d w mm : Nat) {M : AMem} {cnt : Nat} {ws : List W64} {ks : List (Nat × Nat)}, InvO M a R mp s l xs cnt ws ks [] → 100 - w = d → d + 1 ≤ mm → w ≤ l →
    ∃ M', runLoop Tryd.prog HK Tryd.f5 0 [0, 1, 4, 5, 6, 7, 8, 9] m mm (fo0 i R.n s l c a mp w) M (afterLoop Tryd.prog HK Tryd.f5 0 m) = some (.bool true, M') := by
  intro d
  induction d with
  | zero =>
    intro w mm M cnt ws ks h hd hmm hwl
    obtain ⟨mm, rfl⟩ : ∃ k, mm = k + 1 := ⟨mm - 1, by omega⟩
    refine ⟨M, ?_⟩
    rw [runLoop_succ]
    conv => lhs; rw [fo0, once_body]
    have hd5 : decide ((w : Int) < 100) = false := by simp; omega
    have hl := once_last (c := c) h i w (m := m) (by omega)
    by_cases q : w < l
    · simp only [dlt q, hd5, tt, cond_true, iT, iF, onward_exit]; exact hl
    · have : decide ((w : Int) < (l : Int)) = false := by simp; omega
      simp only [this, ft, iF, onward_exit]; exact hl
  | succ d ih =>
    intro w mm M cnt ws ks h hd hmm hwl
    obtain ⟨mm, rfl⟩ : ∃ k, mm = k + 1 := ⟨mm - 1, by omega⟩
    by_cases q : w < l
    · obtain ⟨g1, g2, g3, g4, g5, g6⟩ := h.sl.gets q
      have hd5 : decide ((w : Int) < 100) = true := by simp; omega
      rw [runLoop_succ]
      conv => arg 1; ext M'; lhs; rw [fo0, once_body]
      simp only [dlt q, hd5, tt, cond_true, iT, dnat, Bool.and_self, nT, g1, bO, g2, Nat.zero_add, Int.toNat_natCast, g3, aI]
      generalize hkd : (xs.getD w (0, 0, 0)).1 = kd
      obtain ⟨M1, cnt', ws', ks', todo, g, gl, gc, inv, hg, hb, e⟩ := once_sw (c := c) h i q kd hkd hm (.bool true) (.bool true) (.bool true) (.bool true) (.ptr (some (1, 0 + w * 3))) (.ptr (some (1, 0 + w * 3 + 0))) (behindBlk Tryd.prog HK Tryd.f5 0 2 m [0, 1, 4, 5, 6, 7, 8, 9] (onward Tryd.prog HK Tryd.f5 0 [0, 1, 4, 5, 6, 7, 8, 9] m mm (afterLoop Tryd.prog HK Tryd.f5 0 m)))
      have hle := R.le
      have hcl := inv.pool.le
      have hkl := inv.klen
      have hgl := hg.len
      rw [List.length_map] at hgl
      obtain ⟨M2, ks2, x', e2, inv2⟩ := once1_loop (c := c) (m := m) i w g gl (by omega) gc kd (by omega) (afterIn Tryd.prog HK Tryd.f5 0 0 m [0, 1, 4, 5, 6, 7, 8, 9] (onward Tryd.prog HK Tryd.f5 0 [0, 1, 4, 5, 6, 7, 8, 9] m mm (afterLoop Tryd.prog HK Tryd.f5 0 m))) todo [] m inv (by simpa using hg) hb (by omega)
      have hc := once_check (c := c) i (w := w) (by omega) g gl gc x' kd inv2 (m := m) (by omega) (onward Tryd.prog HK Tryd.f5 0 [0, 1, 4, 5, 6, 7, 8, 9] m mm (afterLoop Tryd.prog HK Tryd.f5 0 m))
      obtain ⟨M', hM'⟩ := ih (w + 1) mm inv2 (by omega) (by omega) (by omega)
      refine ⟨M', ?_⟩
      rw [foS, once_rest] at e
      have e' := e.trans (e2.trans (hc.trans ((onward_normal ..).trans hM')))
      simp only [g1, Nat.zero_add] at e'
      exact e'
    · refine ⟨M, ?_⟩
      rw [runLoop_succ]
      conv => lhs; rw [fo0, once_body]
      have hl := once_last (c := c) h i w (m := m) (by omega)
      have : decide ((w : Int) < (l : Int)) = false := by simp; omega
      simp only [this, ft, iF, onward_exit]; exact hl

/-- PoolOnce, at every number of blocks and every acts -/
theorem once_run {M : AMem} (hm : 70001 ≤ m) (hs : Act3In M s l xs) (i : Nat) (hi : i < 256) (ht : M.get 0 = some (.ro (tabInts.map (AV.int .u8)))) (hn : 2 ≤ M.next) :
    isT (call (m + 1) 5 [.int .u8 i, .slice s l c] M) = true := by
  rw [call, acall_run Tryd.func5 (hk (by decide)), once_eq]
  have hw : IntKind.i64.wrap (5 + (IntKind.i64.wrap (i : Int)).tmod 60) = ((5 + i % 60 : Nat) : Int) := by
    have e1 : IntKind.i64.wrap (i : Int) = (i : Int) := by rw [wrap_i64 (by omega) (by omega)]
    have e2 : (i : Int).tmod 60 = ((i % 60 : Nat) : Int) := rfl
    rw [e1, e2, wrap_i64 (by omega) (by omega)]; omega
  rw [hw]
  obtain ⟨R, ws, M1, hR, e, hp, hb, hf, hnx⟩ := pnew_run (M := M) (n := 5 + i % 60) (by omega) (by omega) hn ht (m := m) (by omega)
  have hup : mapUpdA Tryd.prog (M1.new (.map [] 0)) 53 (some M1.next) (.int .u32 0) (.bool true) = some ((M1.new (.map [] 0)).set M1.next (.map (setU [(0, 0)]) 1)) :=
    updU_out (ks := []) (j := 0) (clock := 0) (by rw [AMem.get_new, if_pos rfl]; rfl) (by simp)
  have hget : ∀ q, q < M1.next → ((M1.new (.map [] 0)).set M1.next (.map (setU [(0, 0)]) 1)).get q = M1.get q := fun q hq => by
    rw [AMem.get_set, if_neg (by omega), AMem.get_new, if_neg (by omega)]
  obtain ⟨p1, p2, p3⟩ := hp.lt
  have inv : InvO ((M1.new (.map [] 0)).set M1.next (.map (setU [(0, 0)]) 1)) (M.next + 2) R M1.next s l xs 1 ws [(0, 0)] [] := by
    refine ⟨hp.of (by show M1.next ≤ M1.next + 1; omega) (hget 0 (by omega)) (hget _ p1) (hget _ p2) (hget _ p3), ⟨1, by rw [AMem.get_set, if_pos rfl]⟩, hs.of ((hget 1 (by omega)).trans (hf 1 (by omega))), by simp, fun j => ?_, rfl, ⟨by omega, by omega, by omega, by omega, ?_⟩, by have := R.le; omega⟩
    · rw [hb]; simp
    · show M1.next < M1.next + 1; omega
  obtain ⟨M', hM'⟩ := once_loop (c := c) (m := m) (i : Int) hm 100 0 m inv rfl (by omega) (by omega)
  rw [hR] at hM'
  simp only [e, bO, aT, aC, aP, aI, aN, show ((0 : Int) != 0) = false from rfl, ff, iT, iF, cond_false, eS, show ((false : Bool) != false) = false from rfl, hup]
  exact (congrArg isT hM').trans rfl
end
end Go.Proofs.YtiecjbgefkelfaaDoor
