/-
  What the settings' functions answer, told of the abstract memory.
-/
import Derived.Test.YtfpgakjikmakkaaGreatDoorTrEq
namespace Go.Proofs.YtfpgakjikmakkaaGreatDoor
open Go.Ab
set_option linter.unusedVariables false
set_option linter.unusedSectionVars false
set_option linter.unusedSimpArgs false
set_option linter.unusedSimpArgs false
set_option maxRecDepth 100000

/-- settings, as they lie in a struct -/
abbrev C8 (c0 c1 c2 c3 c4 c5 c6 c7 : Int) : List AV := [.int .i64 c0, .int .i64 c1, .int .i64 c2, .int .i64 c3, .int .i64 c4, .int .i64 c5, .int .i64 c6, .int .i64 c7]
/-- a memory with settings in a box -/
abbrev bx (c0 c1 c2 c3 c4 c5 c6 c7 : Int) (M : AMem) : AMem := M.new (.cells (C8 c0 c1 c2 c3 c4 c5 c6 c7) 0 .yes)

theorem row_new (M : AMem) (cs : List AV) (s : Nat) (cl : Cl) : (M.new (.cells cs s cl)).row M.next = some cs := row_cells (by rw [AMem.get_new, if_pos rfl])
theorem row_kept {M M' : AMem} {cs : List AV} {s : Nat} {cl : Cl} (k : Keeps (M.next + 1) (M.new (.cells cs s cl)) M') : M'.row M.next = some cs := by rw [k.row (by omega), row_new]
theorem keeps_box {M M' : AMem} {B : ABlk} (k : Keeps (M.next + 1) (M.new B) M') : Keeps M.next M M' := (Keeps.new B (Nat.le_refl _)).trans k (Nat.le_succ _)

/-- a hook that answers awake, Sorted and Equal at most -/
def Free (H : Hook) : Prop := ∀ f, (f == 9 || f == 77) = false → H f = none

def sizedZ (c3 c4 c5 c6 c7 : Int) : Bool := (leI 8 c3 && leI c3 64) && ((leI 1 c6 && leI c6 64) && ((leI 0 c7 && leI c7 256) && ((leI (2 * c3) c4 && leI c4 512) && (leI c4 c5 && leI c5 1024))))
def innerZ (c3 c4 c6 c7 : Int) : Int := 8 + 4 * c3 + (c3 - 1) * (1 + c6) + c4 * (4 + c6 + c7)
def outerZ (c5 c6 c7 : Int) : Int := 8 + c5 * (3 + c6 + c7)

theorem sizedZ_iff {c3 c4 c5 c6 c7 : Int} : sizedZ c3 c4 c5 c6 c7 = true ↔ (8 ≤ c3 ∧ c3 ≤ 64) ∧ (1 ≤ c6 ∧ c6 ≤ 64) ∧ (0 ≤ c7 ∧ c7 ≤ 256) ∧ (2 * c3 ≤ c4 ∧ c4 ≤ 512) ∧ (c4 ≤ c5 ∧ c5 ≤ 1024) := by
  unfold sizedZ
  simp only [leI_eq, Bool.and_eq_true, decide_eq_true_eq]

section
variable {H : Hook} (hF : Free H)
include hF

theorem in_run (a b c : Int) (M : AMem) {m : Nat} (hm : 1 ≤ m) : acall Tryz.prog H m 51 [.int .i64 a, .int .i64 b, .int .i64 c] M = some (.bool (leI b a && leI a c), M) := by
  obtain ⟨m, rfl⟩ : ∃ k, m = k + 1 := ⟨m - 1, by omega⟩
  rw [acall_run Tryz.func51 (hF 51 rfl), inR_eq]
  cases leI b a <;> rfl

theorem sizedR_run (c0 c1 c2 c3 c4 c5 c6 c7 : Int) (M : AMem) {m : Nat} (hm : 2 ≤ m) : acall Tryz.prog H m 50 [.agg (C8 c0 c1 c2 c3 c4 c5 c6 c7)] M = some (.bool (sizedZ c3 c4 c5 c6 c7), bx c0 c1 c2 c3 c4 c5 c6 c7 M) := by
  obtain ⟨m, rfl⟩ : ∃ k, m = k + 1 := ⟨m - 1, by omega⟩
  have hin : ∀ a b c (M : AMem), acall Tryz.prog H m 51 [.int .i64 a, .int .i64 b, .int .i64 c] M = some (.bool (leI b a && leI a c), M) := fun a b c M => in_run hF a b c M (by omega)
  rw [acall_run Tryz.func50 (hF 50 rfl), sizedR_eq]
  simp only [row_new, bO, aI, aB, hin, forceI_eq, List.getElem?_cons_zero, List.getElem?_cons_succ]
  unfold sizedZ
  cases h1 : (leI 8 c3 && leI c3 64) with
  | false => rfl
  | true =>
    simp only [leI_eq, Bool.and_eq_true, decide_eq_true_eq] at h1
    rw [wrap_i64 (show -9223372036854775808 ≤ 2 * c3 by omega) (by omega)]
    cases (leI 1 c6 && leI c6 64) <;> cases (leI 0 c7 && leI c7 256) <;> cases (leI (2 * c3) c4 && leI c4 512) <;> cases (leI c4 c5 && leI c5 1024) <;> rfl

theorem lt_not (a b : Int) : ltI a b = !leI b a := by
  rw [ltI_eq, leI_eq]
  by_cases h : a < b
  · rw [decide_eq_true h, decide_eq_false (by omega)]; rfl
  · rw [decide_eq_false h, decide_eq_true (by omega)]; rfl

theorem sized_run (c0 c1 c2 c3 c4 c5 c6 c7 : Int) (M : AMem) {m : Nat} (hm : 1 ≤ m) : acall Tryz.prog H m 36 [.agg (C8 c0 c1 c2 c3 c4 c5 c6 c7)] M = some (.bool (sizedZ c3 c4 c5 c6 c7), bx c0 c1 c2 c3 c4 c5 c6 c7 M) := by
  obtain ⟨m, rfl⟩ : ∃ k, m = k + 1 := ⟨m - 1, by omega⟩
  rw [acall_run Tryz.func36 (hF 36 rfl), sized_eq]
  simp only [row_new, bO, aI, forceI_eq, List.getElem?_cons_zero, List.getElem?_cons_succ, lt_not hF]
  unfold sizedZ
  cases h1 : leI 8 c3 with
  | false => rfl
  | true =>
    cases h2 : leI c3 64 with
    | false => rfl
    | true =>
      simp only [leI_eq, decide_eq_true_eq] at h1 h2
      rw [wrap_i64 (show -9223372036854775808 ≤ 2 * c3 by omega) (by omega)]
      cases leI (2 * c3) c4 <;> cases leI c4 512 <;> cases leI c4 c5 <;> cases leI c5 1024 <;> cases leI 1 c6 <;> cases leI c6 64 <;> cases leI 0 c7 <;> cases leI c7 256 <;> rfl

theorem inner_run (c0 c1 c2 c3 c4 c5 c6 c7 : Int) (M : AMem) (hz : sizedZ c3 c4 c5 c6 c7 = true) {m : Nat} (hm : 2 ≤ m) : ∃ M', acall Tryz.prog H m 147 [.agg (C8 c0 c1 c2 c3 c4 c5 c6 c7)] M = some (.int .i64 (innerZ c3 c4 c6 c7), M') ∧ Keeps M.next M M' := by
  obtain ⟨m, rfl⟩ : ∃ k, m = k + 1 := ⟨m - 1, by omega⟩
  obtain ⟨⟨z1, z2⟩, ⟨z3, z4⟩, ⟨z5, z6⟩, ⟨z7, z8⟩, z9, z10⟩ := sizedZ_iff.1 hz
  have k : Keeps (M.next + 1) (bx c0 c1 c2 c3 c4 c5 c6 c7 M) (bx c0 c1 c2 c3 c4 c5 c6 c7 (bx c0 c1 c2 c3 c4 c5 c6 c7 M)) := Keeps.new _ (Nat.le_refl _)
  have hr := row_kept k
  refine ⟨_, ?_, keeps_box k⟩
  rw [acall_run Tryz.func147 (hF 147 rfl), inner_eq]
  simp only [row_new, bO, aI, aG, aC, aN, List.length_cons, List.length_nil, List.take, List.drop, if_pos (show 0 + 8 ≤ 0 + 1 + 1 + 1 + 1 + 1 + 1 + 1 + 1 by omega)]
  rw [show acall Tryz.prog H m 36 [.agg [.int .i64 c0, .int .i64 c1, .int .i64 c2, .int .i64 c3, .int .i64 c4, .int .i64 c5, .int .i64 c6, .int .i64 c7]] (bx c0 c1 c2 c3 c4 c5 c6 c7 M) = _ from sized_run hF c0 c1 c2 c3 c4 c5 c6 c7 _ (by omega), hz]
  simp only [bO, aB, aI, Bool.not_true, iF, hr, forceI_eq, List.getElem?_cons_zero, List.getElem?_cons_succ]
  have p1 : 0 ≤ (c3 - 1) * (1 + c6) := Int.mul_nonneg (by omega) (by omega)
  have p2 : (c3 - 1) * (1 + c6) ≤ 63 * 65 := Int.mul_le_mul (by omega) (by omega) (by omega) (by omega)
  have p3 : 0 ≤ c4 * (4 + c6 + c7) := Int.mul_nonneg (by omega) (by omega)
  have p4 : c4 * (4 + c6 + c7) ≤ 512 * 324 := Int.mul_le_mul (by omega) (by omega) (by omega) (by omega)
  rw [wrap_i64 (x := 4 * c3) (by omega) (by omega), wrap_i64 (x := 8 + 4 * c3) (by omega) (by omega), wrap_i64 (x := c3 - 1) (by omega) (by omega), wrap_i64 (x := 1 + c6) (by omega) (by omega),
    wrap_i64 (x := (c3 - 1) * (1 + c6)) (by omega) (by omega), wrap_i64 (x := 8 + 4 * c3 + (c3 - 1) * (1 + c6)) (by omega) (by omega), wrap_i64 (x := 4 + c6) (by omega) (by omega), wrap_i64 (x := 4 + c6 + c7) (by omega) (by omega),
    wrap_i64 (x := c4 * (4 + c6 + c7)) (by omega) (by omega), wrap_i64 (x := 8 + 4 * c3 + (c3 - 1) * (1 + c6) + c4 * (4 + c6 + c7)) (by omega) (by omega)]
  rfl

theorem outer_run (c0 c1 c2 c3 c4 c5 c6 c7 : Int) (M : AMem) (hz : sizedZ c3 c4 c5 c6 c7 = true) {m : Nat} (hm : 2 ≤ m) : ∃ M', acall Tryz.prog H m 148 [.agg (C8 c0 c1 c2 c3 c4 c5 c6 c7)] M = some (.int .i64 (outerZ c5 c6 c7), M') ∧ Keeps M.next M M' := by
  obtain ⟨m, rfl⟩ : ∃ k, m = k + 1 := ⟨m - 1, by omega⟩
  obtain ⟨⟨z1, z2⟩, ⟨z3, z4⟩, ⟨z5, z6⟩, ⟨z7, z8⟩, z9, z10⟩ := sizedZ_iff.1 hz
  have k : Keeps (M.next + 1) (bx c0 c1 c2 c3 c4 c5 c6 c7 M) (bx c0 c1 c2 c3 c4 c5 c6 c7 (bx c0 c1 c2 c3 c4 c5 c6 c7 M)) := Keeps.new _ (Nat.le_refl _)
  have hr := row_kept k
  refine ⟨_, ?_, keeps_box k⟩
  rw [acall_run Tryz.func148 (hF 148 rfl), outer_eq]
  simp only [row_new, bO, aI, aG, aC, aN, List.length_cons, List.length_nil, List.take, List.drop, if_pos (show 0 + 8 ≤ 0 + 1 + 1 + 1 + 1 + 1 + 1 + 1 + 1 by omega)]
  rw [show acall Tryz.prog H m 36 [.agg [.int .i64 c0, .int .i64 c1, .int .i64 c2, .int .i64 c3, .int .i64 c4, .int .i64 c5, .int .i64 c6, .int .i64 c7]] (bx c0 c1 c2 c3 c4 c5 c6 c7 M) = _ from sized_run hF c0 c1 c2 c3 c4 c5 c6 c7 _ (by omega), hz]
  simp only [bO, aB, aI, Bool.not_true, iF, hr, forceI_eq, List.getElem?_cons_zero, List.getElem?_cons_succ]
  have p3 : 0 ≤ c5 * (3 + c6 + c7) := Int.mul_nonneg (by omega) (by omega)
  have p4 : c5 * (3 + c6 + c7) ≤ 1024 * 323 := Int.mul_le_mul (by omega) (by omega) (by omega) (by omega)
  rw [wrap_i64 (x := 3 + c6) (by omega) (by omega), wrap_i64 (x := 3 + c6 + c7) (by omega) (by omega), wrap_i64 (x := c5 * (3 + c6 + c7)) (by omega) (by omega), wrap_i64 (x := 8 + c5 * (3 + c6 + c7)) (by omega) (by omega)]
  rfl
end
end Go.Proofs.YtfpgakjikmakkaaGreatDoor

/-
  The document's sums of the settings, and whether settings are right.
-/
namespace Go.Proofs.YtfpgakjikmakkaaGreatDoor
open Go.Ab
set_option linter.unusedVariables false
set_option linter.unusedSimpArgs false
set_option linter.unusedSectionVars false
set_option maxRecDepth 100000

def S0 (c6 : Int) : Nat → Int
  | 0 => 8
  | i + 1 => S0 c6 i + 4 + (if i = 0 then 0 else 1 + c6)

theorem S0_eq (c6 : Int) : ∀ i : Nat, S0 c6 (i + 1) = 8 + 4 * ((i : Int) + 1) + (i : Int) * (1 + c6)
  | 0 => by simp [S0]
  | i + 1 => by
    have h := S0_eq c6 i
    rw [S0, if_neg (by omega), h]
    have : ((i + 1 : Nat) : Int) * (1 + c6) = (i : Int) * (1 + c6) + (1 + c6) := by
      rw [show ((i + 1 : Nat) : Int) = (i : Int) + 1 by omega, Int.add_mul, Int.one_mul]
    omega

theorem S0_bound {c6 : Int} (h1 : 1 ≤ c6) (h2 : c6 ≤ 64) : ∀ i : Nat, 8 ≤ S0 c6 i ∧ S0 c6 i ≤ 8 + 69 * i
  | 0 => by simp [S0]
  | i + 1 => by
    have h := S0_bound h1 h2 i
    rw [S0]
    split <;> omega

/-- so many times 'd' on top of 's' -/
def S1 (s d : Int) : Nat → Int
  | 0 => s
  | i + 1 => S1 s d i + d

theorem S1_eq (s d : Int) : ∀ i : Nat, S1 s d i = s + (i : Int) * d
  | 0 => by simp [S1]
  | i + 1 => by
    have h := S1_eq s d i
    rw [S1, h, show ((i + 1 : Nat) : Int) = (i : Int) + 1 by omega, Int.add_mul, Int.one_mul]
    omega

theorem S1_bound {s d : Int} (h0 : 0 ≤ d) (h1 : d ≤ 400) : ∀ i : Nat, s ≤ S1 s d i ∧ S1 s d i ≤ s + 400 * i
  | 0 => by simp [S1]
  | i + 1 => by
    have h := S1_bound (s := s) h0 h1 i
    rw [S1]
    omega

section
variable {H : Hook} (hF : Free H)
include hF

theorem innerR_loop0 {c0 c1 c2 c3 c4 c5 c6 c7 : Int} {M : AMem} {b m : Nat} (hr : M.row b = some (C8 c0 c1 c2 c3 c4 c5 c6 c7)) (z3 : 1 ≤ c6) (z4 : c6 ≤ 64) : ∀ (k i j : Nat), (i : Int) + k = c3 → i + k ≤ 64 → k < j →
    runLoop Tryz.prog H Tryz.f52 0 [0, 2, 3, 4, 1] m j (mkFr [(0, .agg (C8 c0 c1 c2 c3 c4 c5 c6 c7)), (1, .ptr (some (b, 0))), (2, .int .i64 0), (3, .int .i64 (S0 c6 i)), (4, .int .i64 (i : Int))]) M (afterLoop Tryz.prog H Tryz.f52 0 m) =
      afterLoop Tryz.prog H Tryz.f52 0 m (.exit 0) (mkFr [(0, .agg (C8 c0 c1 c2 c3 c4 c5 c6 c7)), (1, .ptr (some (b, 0))), (2, .int .i64 0), (3, .int .i64 (S0 c6 (i + k))), (4, .int .i64 ((i + k : Nat) : Int))]) M := by
  intro k
  induction k with
  | zero =>
    intro i j hi h64 hj
    obtain ⟨j, rfl⟩ : ∃ q, j = q + 1 := ⟨j - 1, by omega⟩
    rw [runLoop_succ, innerRL_body]
    simp only [bO, hr, Nat.zero_add, List.getElem?_cons_zero, List.getElem?_cons_succ, aI]
    rw [ltI_eq, decide_eq_false (by omega), iF, onward_exit]
    rfl
  | succ k ih =>
    intro i j hi h64 hj
    obtain ⟨j, rfl⟩ : ∃ q, j = q + 1 := ⟨j - 1, by omega⟩
    have hb := S0_bound z3 z4 i
    have := ih (i + 1) j (by omega) (by omega) (by omega)
    rw [show i + 1 + k = i + (k + 1) by omega] at this
    rw [runLoop_succ, innerRL_body]
    simp only [bO, hr, Nat.zero_add, List.getElem?_cons_zero, List.getElem?_cons_succ, aI]
    rw [ltI_eq, decide_eq_true (by omega), iT]
    simp only [forceI_eq]
    rw [wrap_i64 (x := S0 c6 i + 4) (by omega) (by omega), wrap_i64 (x := (i : Int) + 1) (by omega) (by omega), ltI_eq]
    by_cases h0 : i = 0
    · subst h0
      rw [decide_eq_false (by simp), iF, onward_normal]
      exact this
    · rw [decide_eq_true (by omega), iT, wrap_i64 (x := S0 c6 i + 4 + 1) (by omega) (by omega), wrap_i64 (x := S0 c6 i + 4 + 1 + c6) (by omega) (by omega), onward_normal]
      rw [show S0 c6 i + 4 + 1 + c6 = S0 c6 (i + 1) by rw [S0, if_neg h0]; omega, show (i : Int) + 1 = ((i + 1 : Nat) : Int) by omega]
      exact this

theorem innerR_loop1 {c0 c1 c2 c3 c4 c5 c6 c7 e s : Int} {M : AMem} {b m : Nat} (hr : M.row b = some (C8 c0 c1 c2 c3 c4 c5 c6 c7)) (z3 : 1 ≤ c6) (z4 : c6 ≤ 64) (z5 : 0 ≤ c7) (z6 : c7 ≤ 256) (s1 : 0 ≤ s) (s2 : s ≤ 10000) : ∀ (k i j : Nat), (i : Int) + k = c4 → i + k ≤ 512 → k < j →
    runLoop Tryz.prog H Tryz.f52 1 [0, 2, 3, 4, 5, 1] m j (mkFr [(0, .agg (C8 c0 c1 c2 c3 c4 c5 c6 c7)), (1, .ptr (some (b, 0))), (2, .int .i64 0), (3, .int .i64 (S1 s (4 + c6 + c7) i)), (4, .int .i64 e), (5, .int .i64 (i : Int))]) M (afterLoop Tryz.prog H Tryz.f52 1 m) =
      some (.int .i64 (S1 s (4 + c6 + c7) (i + k)), M) := by
  intro k
  induction k with
  | zero =>
    intro i j hi h64 hj
    obtain ⟨j, rfl⟩ : ∃ q, j = q + 1 := ⟨j - 1, by omega⟩
    rw [runLoop_succ, innerRLL1_body]
    simp only [bO, hr, Nat.zero_add, List.getElem?_cons_zero, List.getElem?_cons_succ, aI]
    rw [ltI_eq, decide_eq_false (by omega), iF, onward_exit]
    rw [innerRLL1_end2]
    rfl
  | succ k ih =>
    intro i j hi h64 hj
    obtain ⟨j, rfl⟩ : ∃ q, j = q + 1 := ⟨j - 1, by omega⟩
    have hb := S1_bound (s := s) (d := 4 + c6 + c7) (by omega) (by omega) i
    have := ih (i + 1) j (by omega) (by omega) (by omega)
    rw [show i + 1 + k = i + (k + 1) by omega] at this
    rw [runLoop_succ, innerRLL1_body]
    simp only [bO, hr, Nat.zero_add, List.getElem?_cons_zero, List.getElem?_cons_succ, aI]
    rw [ltI_eq, decide_eq_true (by omega), iT]
    simp only [forceI_eq]
    rw [wrap_i64 (x := S1 s (4 + c6 + c7) i + 4) (by omega) (by omega), wrap_i64 (x := (i : Int) + 1) (by omega) (by omega), wrap_i64 (x := S1 s (4 + c6 + c7) i + 4 + c6) (by omega) (by omega), wrap_i64 (x := S1 s (4 + c6 + c7) i + 4 + c6 + c7) (by omega) (by omega), onward_normal]
    rw [show S1 s (4 + c6 + c7) i + 4 + c6 + c7 = S1 s (4 + c6 + c7) (i + 1) by rw [S1]; omega, show (i : Int) + 1 = ((i + 1 : Nat) : Int) by omega]
    exact this

theorem innerR_run (c0 c1 c2 c3 c4 c5 c6 c7 : Int) (M : AMem) (hz : sizedZ c3 c4 c5 c6 c7 = true) {m : Nat} (hm : 600 ≤ m) : ∃ M', acall Tryz.prog H m 52 [.agg (C8 c0 c1 c2 c3 c4 c5 c6 c7)] M = some (.int .i64 (innerZ c3 c4 c6 c7), M') ∧ Keeps M.next M M' := by
  obtain ⟨m, rfl⟩ : ∃ k, m = k + 1 := ⟨m - 1, by omega⟩
  obtain ⟨⟨z1, z2⟩, ⟨z3, z4⟩, ⟨z5, z6⟩, ⟨z7, z8⟩, z9, z10⟩ := sizedZ_iff.1 hz
  have k : Keeps (M.next + 1) (bx c0 c1 c2 c3 c4 c5 c6 c7 M) (bx c0 c1 c2 c3 c4 c5 c6 c7 (bx c0 c1 c2 c3 c4 c5 c6 c7 M)) := Keeps.new _ (Nat.le_refl _)
  have hr := row_kept k
  refine ⟨_, ?_, keeps_box k⟩
  rw [acall_run Tryz.func52 (hF 52 rfl), innerR_eq]
  simp only [row_new, bO, aI, aG, aC, aN, List.length_cons, List.length_nil, List.take, List.drop, if_pos (show 0 + 8 ≤ 0 + 1 + 1 + 1 + 1 + 1 + 1 + 1 + 1 by omega)]
  rw [show acall Tryz.prog H m 50 [.agg [.int .i64 c0, .int .i64 c1, .int .i64 c2, .int .i64 c3, .int .i64 c4, .int .i64 c5, .int .i64 c6, .int .i64 c7]] (bx c0 c1 c2 c3 c4 c5 c6 c7 M) = _ from sizedR_run hF c0 c1 c2 c3 c4 c5 c6 c7 _ (by omega), hz]
  simp only [bO, aB, Bool.not_true, iF]
  have l0 := innerR_loop0 hF hr z3 z4 (m := m) c3.toNat 0 m (by omega) (by omega) (by omega)
  rw [Nat.zero_add] at l0
  refine Eq.trans l0 ?_
  rw [innerRL_end0]
  have e0 : S0 c6 c3.toNat = 8 + 4 * c3 + (c3 - 1) * (1 + c6) := by
    obtain ⟨q, hq⟩ : ∃ q : Nat, c3.toNat = q + 1 := ⟨c3.toNat - 1, by omega⟩
    rw [hq, S0_eq, show (q : Int) = c3 - 1 by omega]
    omega
  have hb := S0_bound z3 z4 c3.toNat
  have l1 := innerR_loop1 hF hr z3 z4 z5 z6 (e := ((c3.toNat : Nat) : Int)) (s := S0 c6 c3.toNat) (m := m) (by omega) (by omega) c4.toNat 0 m (by omega) (by omega) (by omega)
  rw [Nat.zero_add] at l1
  refine Eq.trans l1 ?_
  rw [S1_eq, e0, show ((c4.toNat : Nat) : Int) = c4 by omega]
  rfl

theorem outerR_loop {c0 c1 c2 c3 c4 c5 c6 c7 : Int} {M : AMem} {b m : Nat} (hr : M.row b = some (C8 c0 c1 c2 c3 c4 c5 c6 c7)) (z3 : 1 ≤ c6) (z4 : c6 ≤ 64) (z5 : 0 ≤ c7) (z6 : c7 ≤ 256) : ∀ (k i j : Nat), (i : Int) + k = c5 → i + k ≤ 1024 → k < j →
    runLoop Tryz.prog H Tryz.f53 0 [0, 2, 3, 4, 1] m j (mkFr [(0, .agg (C8 c0 c1 c2 c3 c4 c5 c6 c7)), (1, .ptr (some (b, 0))), (2, .int .i64 0), (3, .int .i64 (S1 8 (3 + c6 + c7) i)), (4, .int .i64 (i : Int))]) M (afterLoop Tryz.prog H Tryz.f53 0 m) =
      some (.int .i64 (S1 8 (3 + c6 + c7) (i + k)), M) := by
  intro k
  induction k with
  | zero =>
    intro i j hi h64 hj
    obtain ⟨j, rfl⟩ : ∃ q, j = q + 1 := ⟨j - 1, by omega⟩
    rw [runLoop_succ, outerRL_body]
    simp only [bO, hr, Nat.zero_add, List.getElem?_cons_zero, List.getElem?_cons_succ, aI]
    rw [ltI_eq, decide_eq_false (by omega), iF, onward_exit, outerRL_end0]
    rfl
  | succ k ih =>
    intro i j hi h64 hj
    obtain ⟨j, rfl⟩ : ∃ q, j = q + 1 := ⟨j - 1, by omega⟩
    have hb := S1_bound (s := 8) (d := 3 + c6 + c7) (by omega) (by omega) i
    have := ih (i + 1) j (by omega) (by omega) (by omega)
    rw [show i + 1 + k = i + (k + 1) by omega] at this
    rw [runLoop_succ, outerRL_body]
    simp only [bO, hr, Nat.zero_add, List.getElem?_cons_zero, List.getElem?_cons_succ, aI]
    rw [ltI_eq, decide_eq_true (by omega), iT]
    simp only [forceI_eq]
    rw [wrap_i64 (x := S1 8 (3 + c6 + c7) i + 3) (by omega) (by omega), wrap_i64 (x := (i : Int) + 1) (by omega) (by omega), wrap_i64 (x := S1 8 (3 + c6 + c7) i + 3 + c6) (by omega) (by omega), wrap_i64 (x := S1 8 (3 + c6 + c7) i + 3 + c6 + c7) (by omega) (by omega), onward_normal]
    rw [show S1 8 (3 + c6 + c7) i + 3 + c6 + c7 = S1 8 (3 + c6 + c7) (i + 1) by rw [S1]; omega, show (i : Int) + 1 = ((i + 1 : Nat) : Int) by omega]
    exact this

theorem outerR_run (c0 c1 c2 c3 c4 c5 c6 c7 : Int) (M : AMem) (hz : sizedZ c3 c4 c5 c6 c7 = true) {m : Nat} (hm : 1100 ≤ m) : ∃ M', acall Tryz.prog H m 53 [.agg (C8 c0 c1 c2 c3 c4 c5 c6 c7)] M = some (.int .i64 (outerZ c5 c6 c7), M') ∧ Keeps M.next M M' := by
  obtain ⟨m, rfl⟩ : ∃ k, m = k + 1 := ⟨m - 1, by omega⟩
  obtain ⟨⟨z1, z2⟩, ⟨z3, z4⟩, ⟨z5, z6⟩, ⟨z7, z8⟩, z9, z10⟩ := sizedZ_iff.1 hz
  have k : Keeps (M.next + 1) (bx c0 c1 c2 c3 c4 c5 c6 c7 M) (bx c0 c1 c2 c3 c4 c5 c6 c7 (bx c0 c1 c2 c3 c4 c5 c6 c7 M)) := Keeps.new _ (Nat.le_refl _)
  have hr := row_kept k
  refine ⟨_, ?_, keeps_box k⟩
  rw [acall_run Tryz.func53 (hF 53 rfl), outerR_eq]
  simp only [row_new, bO, aI, aG, aC, aN, List.length_cons, List.length_nil, List.take, List.drop, if_pos (show 0 + 8 ≤ 0 + 1 + 1 + 1 + 1 + 1 + 1 + 1 + 1 by omega)]
  rw [show acall Tryz.prog H m 50 [.agg [.int .i64 c0, .int .i64 c1, .int .i64 c2, .int .i64 c3, .int .i64 c4, .int .i64 c5, .int .i64 c6, .int .i64 c7]] (bx c0 c1 c2 c3 c4 c5 c6 c7 M) = _ from sizedR_run hF c0 c1 c2 c3 c4 c5 c6 c7 _ (by omega), hz]
  simp only [bO, aB, Bool.not_true, iF]
  have l0 := outerR_loop hF hr z3 z4 z5 z6 (m := m) c5.toNat 0 m (by omega) (by omega) (by omega)
  rw [Nat.zero_add] at l0
  refine Eq.trans l0 ?_
  rw [S1_eq, show ((c5.toNat : Nat) : Int) = c5 by omega]
  rfl
end
end Go.Proofs.YtfpgakjikmakkaaGreatDoor

/-
  Are settings right, and light?
-/
namespace Go.Proofs.YtfpgakjikmakkaaGreatDoor
open Go.Ab
set_option linter.unusedVariables false
set_option linter.unusedSimpArgs false
set_option linter.unusedSectionVars false
set_option maxRecDepth 100000

def rightZ (c0 c1 c2 c3 c4 c5 c6 c7 : Int) : Bool := sizedZ c3 c4 c5 c6 c7 && ((leI 5 c0 && leI c0 65536) && ((leI 8 c2 && leI c2 64) && ((leI 64 c1 && leI c1 65536) && (leI (innerZ c3 c4 c6 c7) c1 && leI (outerZ c5 c6 c7) c1))))
def lightZ (c0 c1 c2 c3 c4 c5 c6 c7 : Int) : Bool := rightZ c0 c1 c2 c3 c4 c5 c6 c7 && (leI c1 3000 && leI c0 400)

section
variable {H : Hook} (hF : Free H)
include hF

theorem right_run (c0 c1 c2 c3 c4 c5 c6 c7 : Int) (M : AMem) {m : Nat} (hm : 1200 ≤ m) : ∃ M', acall Tryz.prog H m 23 [.agg (C8 c0 c1 c2 c3 c4 c5 c6 c7)] M = some (.bool (rightZ c0 c1 c2 c3 c4 c5 c6 c7), M') ∧ Keeps M.next M M' := by
  obtain ⟨m, rfl⟩ : ∃ k, m = k + 1 := ⟨m - 1, by omega⟩
  have k2 : Keeps (M.next + 1) (bx c0 c1 c2 c3 c4 c5 c6 c7 M) (bx c0 c1 c2 c3 c4 c5 c6 c7 (bx c0 c1 c2 c3 c4 c5 c6 c7 M)) := Keeps.new _ (Nat.le_refl _)
  have hr2 := row_kept k2
  have hin : ∀ a b c (M : AMem), acall Tryz.prog H m 51 [.int .i64 a, .int .i64 b, .int .i64 c] M = some (.bool (leI b a && leI a c), M) := fun a b c M => in_run hF a b c M (by omega)
  have hsz : acall Tryz.prog H m 50 [.agg [.int .i64 c0, .int .i64 c1, .int .i64 c2, .int .i64 c3, .int .i64 c4, .int .i64 c5, .int .i64 c6, .int .i64 c7]] (bx c0 c1 c2 c3 c4 c5 c6 c7 M) = _ := sizedR_run hF c0 c1 c2 c3 c4 c5 c6 c7 _ (by omega)
  rw [acall_run Tryz.func23 (hF 23 rfl), right_eq]
  simp only [row_new, bO, aI, aG, aC, aN, List.length_cons, List.length_nil, List.take, List.drop, if_pos (show 0 + 8 ≤ 0 + 1 + 1 + 1 + 1 + 1 + 1 + 1 + 1 by omega)]
  rw [hsz]
  unfold rightZ
  cases hz : sizedZ c3 c4 c5 c6 c7 with
  | false => exact ⟨_, rfl, keeps_box k2⟩
  | true =>
    simp only [bO, aB, iT, hr2, aI, hin, List.getElem?_cons_zero, List.getElem?_cons_succ]
    cases a1 : (leI 5 c0 && leI c0 65536) with
    | false => exact ⟨_, rfl, keeps_box k2⟩
    | true =>
      simp only [iT, bO, aB, hr2, aI, hin, List.getElem?_cons_zero, List.getElem?_cons_succ]
      cases a2 : (leI 8 c2 && leI c2 64) with
      | false => exact ⟨_, rfl, keeps_box k2⟩
      | true =>
        simp only [iT, bO, aB, hr2, aI, hin, List.getElem?_cons_zero, List.getElem?_cons_succ]
        cases a3 : (leI 64 c1 && leI c1 65536) with
        | false => exact ⟨_, rfl, keeps_box k2⟩
        | true =>
          obtain ⟨M3, r3, k3⟩ := innerR_run hF c0 c1 c2 c3 c4 c5 c6 c7 (bx c0 c1 c2 c3 c4 c5 c6 c7 (bx c0 c1 c2 c3 c4 c5 c6 c7 M)) hz (m := m) (by omega)
          have kk3 : Keeps (M.next + 1) (bx c0 c1 c2 c3 c4 c5 c6 c7 M) M3 := k2.trans k3 (Nat.le_succ _)
          have hr3 := row_kept kk3
          obtain ⟨M4, r4, k4⟩ := outerR_run hF c0 c1 c2 c3 c4 c5 c6 c7 M3 hz (m := m) (by omega)
          have kk4 : Keeps (M.next + 1) (bx c0 c1 c2 c3 c4 c5 c6 c7 M) M4 := kk3.trans k4 kk3.next
          have hr4 := row_kept kk4
          simp only [iT, bO, aB, hr2, aI, aG, aC, aN, List.length_cons, List.length_nil, List.take, List.drop, if_pos (show 0 + 8 ≤ 0 + 1 + 1 + 1 + 1 + 1 + 1 + 1 + 1 by omega), List.getElem?_cons_zero, List.getElem?_cons_succ]
          rw [r3]
          simp only [bO, aI]
          cases b1 : leI (innerZ c3 c4 c6 c7) c1 with
          | false =>
            refine ⟨M3, ?_, keeps_box kk3⟩
            simp only [iF, bO, hr3, aI, List.getElem?_cons_zero, List.getElem?_cons_succ, beqA_int, beqA_ptr, nT]
            rfl
          | true =>
            refine ⟨M4, ?_, keeps_box kk4⟩
            simp only [iT, bO, hr3, aI, aG, aC, aN, List.length_cons, List.length_nil, List.take, List.drop, if_pos (show 0 + 8 ≤ 0 + 1 + 1 + 1 + 1 + 1 + 1 + 1 + 1 by omega), List.getElem?_cons_zero, List.getElem?_cons_succ, beqA_int, beqA_ptr, nT]
            rw [r4]
            simp only [bO, hr4, aI, List.getElem?_cons_zero, List.getElem?_cons_succ, beqA_int, beqA_ptr, nT]
            rfl

theorem light_run (c0 c1 c2 c3 c4 c5 c6 c7 : Int) (M : AMem) {m : Nat} (hm : 1201 ≤ m) : ∃ M', acall Tryz.prog H m 7 [.agg (C8 c0 c1 c2 c3 c4 c5 c6 c7)] M = some (.bool (lightZ c0 c1 c2 c3 c4 c5 c6 c7), M') ∧ Keeps M.next M M' := by
  obtain ⟨m, rfl⟩ : ∃ k, m = k + 1 := ⟨m - 1, by omega⟩
  obtain ⟨M2, r2, k2⟩ := right_run hF c0 c1 c2 c3 c4 c5 c6 c7 (bx c0 c1 c2 c3 c4 c5 c6 c7 M) (m := m) (by omega)
  have hr2 := row_kept (M := M) k2
  refine ⟨M2, ?_, keeps_box k2⟩
  rw [acall_run Tryz.func7 (hF 7 rfl), light_eq]
  simp only [row_new, bO, aI, aG, aC, aN, List.length_cons, List.length_nil, List.take, List.drop, if_pos (show 0 + 8 ≤ 0 + 1 + 1 + 1 + 1 + 1 + 1 + 1 + 1 by omega)]
  rw [r2]
  unfold lightZ
  cases rightZ c0 c1 c2 c3 c4 c5 c6 c7 with
  | false => rfl
  | true =>
    simp only [bO, aB, iT, hr2, aI, List.getElem?_cons_zero, List.getElem?_cons_succ]
    cases leI c1 3000 <;> cases leI c0 400 <;> rfl
end
end Go.Proofs.YtfpgakjikmakkaaGreatDoor

/-
  conf.Check tells OK of right settings.
-/
namespace Go.Proofs.YtfpgakjikmakkaaGreatDoor
open Go.Ab
set_option linter.unusedVariables false
set_option linter.unusedSimpArgs false
set_option linter.unusedSectionVars false
set_option maxRecDepth 100000

theorem beq8 (c0 c1 c2 c3 c4 c5 c6 c7 : Int) : beqA 9 (.agg (C8 c0 c1 c2 c3 c4 c5 c6 c7)) (.agg (C8 c0 c1 c2 c3 c4 c5 c6 c7)) = true := by
  simp [beqA, beqA.beqL]

def leastZ (a b : Int) : Int := if b > (if a > 64 then a else 64) then b else (if a > 64 then a else 64)

theorem leastZ_le {a b c : Int} (h1 : 64 ≤ c) (h2 : a ≤ c) (h3 : b ≤ c) : leastZ a b ≤ c := by
  unfold leastZ
  split <;> split <;> omega

section
variable {H : Hook} (hF : Free H)
include hF

theorem least_run (c0 c1 c2 c3 c4 c5 c6 c7 : Int) (M : AMem) (hz : sizedZ c3 c4 c5 c6 c7 = true) {m : Nat} (hm : 10 ≤ m) : ∃ M', acall Tryz.prog H m 105 [.agg (C8 c0 c1 c2 c3 c4 c5 c6 c7)] M = some (.agg (C8 c0 (leastZ (innerZ c3 c4 c6 c7) (outerZ c5 c6 c7)) c2 c3 c4 c5 c6 c7), M') ∧ Keeps M.next M M' := by
  obtain ⟨m, rfl⟩ : ∃ k, m = k + 1 := ⟨m - 1, by omega⟩
  let M0 : AMem := (bx c0 c1 c2 c3 c4 c5 c6 c7 M).new (.cells (C8 0 0 0 0 0 0 0 0) 0 .yes)
  have g0 : M0.get M.next = some (.cells (C8 c0 c1 c2 c3 c4 c5 c6 c7) 0 .yes) := by
    show ((bx c0 c1 c2 c3 c4 c5 c6 c7 M).new _).get M.next = _
    rw [AMem.get_new, if_neg (by rw [AMem.next_new]; omega), AMem.get_new, if_pos rfl]
  have g1 : M0.get (M.next + 1) = some (.cells (C8 0 0 0 0 0 0 0 0) 0 .yes) := by
    show ((bx c0 c1 c2 c3 c4 c5 c6 c7 M).new _).get (M.next + 1) = _
    rw [AMem.get_new, if_pos (show M.next + 1 = (bx c0 c1 c2 c3 c4 c5 c6 c7 M).next from rfl)]
  have n0 : M0.next = M.next + 2 := rfl
  have k1 : Keeps M0.next M0 (bx c0 c1 c2 c3 c4 c5 c6 c7 M0) := Keeps.new _ (Nat.le_refl _)
  have hr1 : (bx c0 c1 c2 c3 c4 c5 c6 c7 M0).row M.next = some (C8 c0 c1 c2 c3 c4 c5 c6 c7) := row_cells (by rw [k1.get _ (by omega), g0])
  obtain ⟨M2, r2, k2⟩ := inner_run hF c0 c1 c2 c3 c4 c5 c6 c7 (bx c0 c1 c2 c3 c4 c5 c6 c7 M0) hz (m := m) (by omega)
  have kk2 : Keeps M0.next M0 M2 := k1.trans k2 k1.next
  have hr2 : M2.row M.next = some (C8 c0 c1 c2 c3 c4 c5 c6 c7) := row_cells (by rw [kk2.get _ (by omega), g0])
  obtain ⟨M3, r3, k3⟩ := outer_run hF c0 c1 c2 c3 c4 c5 c6 c7 M2 hz (m := m) (by omega)
  have kk3 : Keeps M0.next M0 M3 := kk2.trans k3 kk2.next
  have g3 : M3.get M.next = some (.cells (C8 c0 c1 c2 c3 c4 c5 c6 c7) 0 .yes) := by rw [kk3.get _ (by omega), g0]
  have g4 : M3.get (M.next + 1) = some (.cells (C8 0 0 0 0 0 0 0 0) 0 .yes) := by rw [kk3.get _ (by omega), g1]
  let y : Int := leastZ (innerZ c3 c4 c6 c7) (outerZ c5 c6 c7)
  let M4 : AMem := M3.set M.next (.cells (C8 c0 y c2 c3 c4 c5 c6 c7) 0 .yes)
  let M5 : AMem := M4.set (M.next + 1) (.cells (C8 c0 y c2 c3 c4 c5 c6 c7) 0 .yes)
  have hr4 : M4.row M.next = some (C8 c0 y c2 c3 c4 c5 c6 c7) := row_cells (s := 0) (l := .yes) (by show (M3.set _ _).get _ = _; rw [AMem.get_set, if_pos rfl])
  have g5 : M4.get (M.next + 1) = some (.cells (C8 0 0 0 0 0 0 0 0) 0 .yes) := by
    show (M3.set _ _).get _ = _
    rw [AMem.get_set, if_neg (by omega), g4]
  have hr5 : M5.row (M.next + 1) = some (C8 c0 y c2 c3 c4 c5 c6 c7) := row_cells (s := 0) (l := .yes) (by show (M4.set _ _).get _ = _; rw [AMem.get_set, if_pos rfl])
  have kM0 : Keeps M.next M M0 := (Keeps.new (.cells (C8 c0 c1 c2 c3 c4 c5 c6 c7) 0 .yes) (Nat.le_refl _)).trans (Keeps.new (.cells (C8 0 0 0 0 0 0 0 0) 0 .yes) (Nat.le_succ _)) (Nat.le_refl _)
  have kM3 : Keeps M.next M M3 := kM0.trans kk3 kM0.next
  refine ⟨M5, ?_, (kM3.trans (Keeps.set (M := M3) (.cells (C8 c0 y c2 c3 c4 c5 c6 c7) 0 .yes) (Nat.le_refl M.next)) (Nat.le_refl _)).trans (Keeps.set (M := M4) (.cells (C8 c0 y c2 c3 c4 c5 c6 c7) 0 .yes) (Nat.le_succ M.next)) (Nat.le_refl _)⟩
  rw [acall_run Tryz.func105 (hF 105 rfl), least_eq]
  rw [show ((M.new (ABlk.cells [AV.int IntKind.i64 c0, AV.int IntKind.i64 c1, AV.int IntKind.i64 c2, AV.int IntKind.i64 c3, AV.int IntKind.i64 c4, AV.int IntKind.i64 c5, AV.int IntKind.i64 c6, AV.int IntKind.i64 c7] 0 Cl.yes)).new (ABlk.cells [AV.int IntKind.i64 0, AV.int IntKind.i64 0, AV.int IntKind.i64 0, AV.int IntKind.i64 0, AV.int IntKind.i64 0, AV.int IntKind.i64 0, AV.int IntKind.i64 0, AV.int IntKind.i64 0] 0 Cl.yes)).row M.next = some (C8 c0 c1 c2 c3 c4 c5 c6 c7) from row_cells g0]
  simp only [bO, aI, aG, aC, aN, List.length_cons, List.length_nil, List.take, List.drop, if_pos (show 0 + 8 ≤ 0 + 1 + 1 + 1 + 1 + 1 + 1 + 1 + 1 by omega)]
  rw [show acall Tryz.prog H m 36 [.agg [.int .i64 c0, .int .i64 c1, .int .i64 c2, .int .i64 c3, .int .i64 c4, .int .i64 c5, .int .i64 c6, .int .i64 c7]] M0 = _ from sized_run hF c0 c1 c2 c3 c4 c5 c6 c7 _ (by omega), hz]
  simp only [bO, aB, iT, hr1, aI, aG, aC, aN, List.length_cons, List.length_nil, List.take, List.drop, if_pos (show 0 + 8 ≤ 0 + 1 + 1 + 1 + 1 + 1 + 1 + 1 + 1 by omega)]
  rw [r2]
  simp only [bO, aI, hr2, aG, aC, aN, List.length_cons, List.length_nil, List.take, List.drop, if_pos (show 0 + 8 ≤ 0 + 1 + 1 + 1 + 1 + 1 + 1 + 1 + 1 by omega)]
  rw [beq8, nT, bO, r3]
  simp only [bO, aI, if_true]
  rw [g3, gC]
  show bindO (bindO (some (C8 c0 y c2 c3 c4 c5 c6 c7)) fun a => needB (Nat.ble 0 1) (some (M3.set M.next (.cells a 0 .yes)))) _ = _
  rw [bO]
  show bindO (some M4) _ = _
  rw [bO, hr4]
  simp only [bO, aI, aG, aC, aN, List.length_cons, List.length_nil, List.take, List.drop, if_pos (show 0 + 8 ≤ 0 + 1 + 1 + 1 + 1 + 1 + 1 + 1 + 1 by omega)]
  show bindO (getCells (M4.get (M.next + 1)) _) _ = _
  rw [g5, gC]
  show bindO (bindO (some (C8 c0 y c2 c3 c4 c5 c6 c7)) fun a => needB (Nat.ble 0 0) (some (M4.set (M.next + 1) (.cells a 0 .yes)))) _ = _
  rw [bO]
  show bindO (some M5) _ = _
  rw [bO]
  show bindO (bindO (M5.row (M.next + 1)) _) _ = _
  rw [hr5]
  rfl

theorem check_run (c0 c1 c2 c3 c4 c5 c6 c7 : Int) (M : AMem) (hz : rightZ c0 c1 c2 c3 c4 c5 c6 c7 = true) {m : Nat} (hm : 20 ≤ m) : ∃ M', acall Tryz.prog H m 55 [.agg (C8 c0 c1 c2 c3 c4 c5 c6 c7)] M = some (.int .i64 0, M') ∧ Keeps M.next M M' := by
  obtain ⟨m, rfl⟩ : ∃ k, m = k + 1 := ⟨m - 1, by omega⟩
  unfold rightZ at hz
  simp only [Bool.and_eq_true] at hz
  obtain ⟨hs, ⟨a1, a2⟩, ⟨a3, a4⟩, ⟨a5, a6⟩, a7, a8⟩ := hz
  have k2 : Keeps (M.next + 1) (bx c0 c1 c2 c3 c4 c5 c6 c7 M) (bx c0 c1 c2 c3 c4 c5 c6 c7 (bx c0 c1 c2 c3 c4 c5 c6 c7 M)) := Keeps.new _ (Nat.le_refl _)
  have hr2 := row_kept k2
  obtain ⟨M3, r3, k3⟩ := least_run hF c0 c1 c2 c3 c4 c5 c6 c7 (bx c0 c1 c2 c3 c4 c5 c6 c7 (bx c0 c1 c2 c3 c4 c5 c6 c7 M)) hs (m := m) (by omega)
  have kk3 : Keeps (M.next + 1) (bx c0 c1 c2 c3 c4 c5 c6 c7 M) M3 := k2.trans k3 (Nat.le_succ _)
  have hr3 := row_kept kk3
  refine ⟨M3, ?_, keeps_box kk3⟩
  rw [acall_run Tryz.func55 (hF 55 rfl), check_eq]
  simp only [row_new, bO, aI, aG, aC, aN, List.length_cons, List.length_nil, List.take, List.drop, if_pos (show 0 + 8 ≤ 0 + 1 + 1 + 1 + 1 + 1 + 1 + 1 + 1 by omega)]
  rw [show acall Tryz.prog H m 36 [.agg [.int .i64 c0, .int .i64 c1, .int .i64 c2, .int .i64 c3, .int .i64 c4, .int .i64 c5, .int .i64 c6, .int .i64 c7]] (bx c0 c1 c2 c3 c4 c5 c6 c7 M) = _ from sized_run hF c0 c1 c2 c3 c4 c5 c6 c7 _ (by omega), hs]
  simp only [bO, aB, iT, hr2, aI, List.getElem?_cons_zero, List.getElem?_cons_succ, a1, a2, a3, a4, Bool.not_true, iF]
  rw [show ltI 65536 c1 = false from by rw [lt_not hF, a6]; rfl]
  simp only [iF, bO, hr2, aI, aG, aC, aN, List.length_cons, List.length_nil, List.take, List.drop, if_pos (show 0 + 8 ≤ 0 + 1 + 1 + 1 + 1 + 1 + 1 + 1 + 1 by omega), List.getElem?_cons_zero, List.getElem?_cons_succ]
  rw [r3]
  simp only [bO, hr3, aI, aG, aC, aN, List.getElem?_cons_zero, List.getElem?_cons_succ, beqA_int, beqA_ptr, nT]
  have hle : leastZ (innerZ c3 c4 c6 c7) (outerZ c5 c6 c7) ≤ c1 := by
    simp only [leI_eq, decide_eq_true_eq] at a5 a7 a8
    exact leastZ_le a5 a7 a8
  rw [ltI_eq, decide_eq_false (by omega)]
  rfl
end
end Go.Proofs.YtfpgakjikmakkaaGreatDoor
