/-
  Slices of pairs of texts, told of the abstract memory.
-/
import Derived.Test.YtacldkbigpfamaaSteps
namespace Go.Words
open Go Go.Ab
set_option linter.unusedVariables false

def pairCells : List (Bs × Bs) → List AV
  | [] => []
  | p :: ps => .str p.1 :: .str p.2 :: pairCells ps

theorem pairCells_len : ∀ ps, (pairCells ps).length = ps.length * 2
  | [] => rfl
  | p :: ps => by
    show (pairCells ps).length + 1 + 1 = _
    rw [pairCells_len ps, List.length_cons]; omega
theorem pairCells_append : ∀ a b, pairCells (a ++ b) = pairCells a ++ pairCells b
  | [], b => rfl
  | p :: a, b => by
    show AV.str p.1 :: AV.str p.2 :: pairCells (a ++ b) = _
    rw [pairCells_append a b]; rfl
theorem pairCells_flat : ∀ ps, (pairCells ps).all flatA = true
  | [] => rfl
  | p :: ps => by
    show (flatA (.str p.1) && (flatA (.str p.2) && (pairCells ps).all flatA)) = true
    rw [pairCells_flat ps]; rfl

theorem pc_at {pre rest : List (Bs × Bs)} {p : Bs × Bs} : pairCells (pre ++ p :: rest) = pairCells pre ++ (.str p.1 :: .str p.2 :: pairCells rest) := pairCells_append _ _
theorem pc_take {pre rest : List (Bs × Bs)} {p : Bs × Bs} : List.take 2 (List.drop (pre.length * 2) (pairCells (pre ++ p :: rest))) = [.str p.1, .str p.2] := by
  rw [pc_at, ← pairCells_len, List.drop_left]; rfl
theorem pc_0 {pre rest : List (Bs × Bs)} {p : Bs × Bs} : (pairCells (pre ++ p :: rest))[pre.length * 2]? = some (.str p.1) := by
  rw [pc_at, ← pairCells_len, List.getElem?_append_right (Nat.le_refl _), Nat.sub_self]; rfl
theorem pc_1 {pre rest : List (Bs × Bs)} {p : Bs × Bs} : (pairCells (pre ++ p :: rest))[pre.length * 2 + 1]? = some (.str p.2) := by
  rw [pc_at, ← pairCells_len, List.getElem?_append_right (by omega), show (pairCells pre).length + 1 - (pairCells pre).length = 1 by omega]; rfl

/-- a slice that holds pairs -/
structure PIn (M : AMem) (u : Option (Nat × Nat)) (l : Nat) (ps : List (Bs × Bs)) : Prop where
  len : l = ps.length
  is : l = 0 ∨ ∃ a, u = some (a, 0) ∧ a < M.next ∧ M.row a = some (pairCells ps)

theorem PIn.keeps {M M' : AMem} {u : Option (Nat × Nat)} {l : Nat} {ps : List (Bs × Bs)} (h : PIn M u l ps) (k : Keeps M.next M M') : PIn M' u l ps := by
  refine ⟨h.len, ?_⟩
  rcases h.is with h | ⟨a, h1, h2, h3⟩
  · exact .inl h
  · exact .inr ⟨a, h1, Nat.lt_of_lt_of_le h2 k.next, (k.row h2).trans h3⟩

theorem PIn.some {M : AMem} {u : Option (Nat × Nat)} {l : Nat} {ps pre rest : List (Bs × Bs)} {p : Bs × Bs} (h : PIn M u l ps) (e : ps = pre ++ p :: rest) : ∃ a, u = Option.some (a, 0) ∧ a < M.next ∧ M.row a = Option.some (pairCells (pre ++ p :: rest)) := by
  rcases h.is with h0 | ⟨a, h1, h2, h3⟩
  · have := h.len; rw [h0, e] at this; simp at this
  · exact ⟨a, h1, h2, by rw [← e]; exact h3⟩

/-- a slice of pairs that grew of nothing; its row lies from 'lo' on -/
structure PGr (lo : Nat) (M : AMem) (u : Option (Nat × Nat)) (l : Nat) (c : Option Nat) (ps : List (Bs × Bs)) : Prop where
  len : l = ps.length
  is : (ps = [] ∧ c = some 0) ∨ (∃ k, u = some (k, 0) ∧ c = none ∧ 0 < l ∧ lo ≤ k ∧ k < M.next ∧ M.get k = some (.cells (pairCells ps) 2 .yes))

theorem PGr.moved {lo : Nat} {M M' : AMem} {u : Option (Nat × Nat)} {l : Nat} {c : Option Nat} {ps : List (Bs × Bs)} (h : PGr lo M u l c ps) (k : Keeps M.next M M') : PGr lo M' u l c ps := by
  refine ⟨h.len, ?_⟩
  rcases h.is with h | ⟨j, h1, h2, h3, h4, h5, h6⟩
  · exact .inl h
  · exact .inr ⟨j, h1, h2, h3, h4, Nat.lt_of_lt_of_le h5 k.next, (k.get j h5).trans h6⟩

theorem PGr.pin {lo : Nat} {M : AMem} {u : Option (Nat × Nat)} {l : Nat} {c : Option Nat} {ps : List (Bs × Bs)} (h : PGr lo M u l c ps) : PIn M u l ps := by
  refine ⟨h.len, ?_⟩
  rcases h.is with ⟨h1, h2⟩ | ⟨k, h1, h2, h3, h4, h5, h6⟩
  · left; rw [h.len, h1]; rfl
  · exact .inr ⟨k, h1, h5, row_cells h6⟩

/-- 'append' of one pair -/
theorem append_pair {P : Program} {st e : TypeId} {ie : TypeInfo} {z : AV} (hu : P.underlying st = some (.slice e)) (hcl : byteCl P e = .yes) (hi : P.info? e = some ie) (hz : zeroA P e = some z) (h1 : z.cells.length = 2) (h2 : ie.size = 2) (h3 : ie.bytes ≤ 64)
    {lo : Nat} {M : AMem} {u : Option (Nat × Nat)} {l : Nat} {c : Option Nat} {ps : List (Bs × Bs)} {p : Bs × Bs} {a : Nat} {k : Option Nat} (h : PGr lo M u l c ps) (hlo : lo ≤ M.next) (ha : M.row a = some [.str p.1, .str p.2]) (hl : l ≤ 1000000) :
    ∃ M', appendA P M st st u l c (.slice (some (a, 0)) 1 k) = some ((some (M.next, 0), l + 1, none), M') ∧ PGr lo M' (some (M.next, 0)) (l + 1) none (ps ++ [p]) ∧ Keeps lo M M' := by
  have hsrc : srcCells M 2 1 (.slice (some (a, 0)) 1 k) = some [.str p.1, .str p.2] := by
    unfold srcCells
    simp only [Nat.le_refl, if_true, Nat.one_ne_zero, if_false]
    unfold cellsFrom
    rw [show M.row (a, 0).1 = some [.str p.1, .str p.2] from ha]
    rfl
  have hroom : (l + 1) * ie.bytes ≤ roomA ∧ l + 1 ≤ roomA := by
    have : (l + 1) * ie.bytes ≤ 1000001 * 64 := Nat.mul_le_mul (by omega) h3
    unfold roomA; omega
  have key : appendA P M st st u l c (.slice (some (a, 0)) 1 k) = growA M e .yes 2 u l c 1 [.str p.1, .str p.2] := by
    unfold appendA
    simp only [hu, hi, hz, h1, h2, hcl, ne_eq, not_true_eq_false, show ¬ (2 : Nat) = 0 from by decide, or_self, if_false, srcLen, Option.map_some, hsrc]
    rw [if_pos hroom]
  have hlen := h.len
  have e1 : pairCells (ps ++ [p]) = pairCells ps ++ [.str p.1, .str p.2] := pairCells_append ps [p]
  rw [key]
  rcases h.is with ⟨rfl, rfl⟩ | ⟨j, rfl, rfl, hpos, hlj, hjn, hg⟩
  · have hl0 : l = 0 := hlen
    subst hl0
    refine ⟨M.new (.cells [.str p.1, .str p.2] 2 .yes), ?_, ⟨by simp, .inr ⟨M.next, rfl, rfl, by omega, hlo, Nat.lt_succ_self _, by rw [AMem.get_new, if_pos rfl]; rfl⟩⟩, Keeps.new _ hlo⟩
    have hs0 : srcCells M 2 0 (.slice u 0 (some 0)) = some [] := by
      unfold srcCells
      cases u <;> simp
    unfold growA
    rw [if_neg (by omega)]
    simp only
    rw [if_neg (by omega), hs0]
    rfl
  · have hold : srcCells M 2 l (.slice (some (j, 0)) l none) = some (pairCells ps) := by
      unfold srcCells
      simp only [Nat.le_refl, if_true, show ¬ l = 0 by omega, if_false]
      unfold cellsFrom
      rw [show M.row (j, 0).1 = some (pairCells ps) from row_cells hg]
      have e2 : (pairCells ps).length = l * 2 := by rw [pairCells_len, hlen]
      simp only [Nat.zero_add, e2, Nat.le_refl, if_true, List.drop_zero, List.take_of_length_le (Nat.le_of_eq e2)]
    have hput : putAt (pairCells ps) (0 + l * 2) [.str p.1, .str p.2] = none := by
      unfold putAt
      rw [if_neg]
      rw [pairCells_len, hlen]; simp
    refine ⟨(M.kill j).new (.cells (pairCells ps ++ [.str p.1, .str p.2]) 2 .yes), ?_, ⟨by rw [List.length_append, hlen]; rfl, .inr ⟨M.next, rfl, rfl, by omega, hlo, Nat.lt_succ_self _, ?_⟩⟩, (Keeps.kill hlj).trans (Keeps.new _ hlo) (Nat.le_refl _)⟩
    · unfold growA
      rw [if_neg (by omega)]
      simp only [hg]
      rw [if_pos ⟨.inl hpos, trivial, rfl⟩, hput]
      simp only [hold]
      rfl
    · rw [AMem.get_new, AMem.next_kill, if_pos rfl, e1]
end Go.Words
