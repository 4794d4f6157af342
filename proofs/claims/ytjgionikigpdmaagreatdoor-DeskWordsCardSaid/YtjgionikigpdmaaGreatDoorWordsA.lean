/-
  Words and dumps, told of what the evaluator works out: bytes as numbers, the place of a digit, what is cut at a byte.
-/
import Derived.Test.YtjgionikigpdmaaGreatDoorBuf
import Derived.Test.YtjgionikigpdmaaGreatDoorWords
namespace Go.Words
open Go Go.Ab
set_option linter.unusedVariables false

theorem bytesEq_iff : ∀ (a b : Bs), bytesEq a b = decide (a = b)
  | [], [] => rfl
  | [], _ :: _ => rfl
  | _ :: _, [] => rfl
  | x :: a, y :: b => by
    show (Nat.beq x.toNat y.toNat && bytesEq a b) = _
    have e1 : Nat.beq x.toNat y.toNat = decide (x = y) := by rw [Bool.eq_iff_iff]; simp [UInt8.toNat_inj]
    rw [bytesEq_iff a b, e1, Bool.eq_iff_iff]
    simp

/-- the value of a hex digit, or -1 -/
def hexI (c : UInt8) : Int := match hexV c with | some x => (x : Int) | none => -1

theorem idx_hex_all : ∀ n : Fin 256, idxL n.val hexL 0 = hexI (UInt8.ofNat n.val) := by decide +kernel

theorem idx_hex (c : UInt8) : idxL (((c.toNat : Int)).toNat % 256) hexL 0 = hexI c := by
  have h := idx_hex_all ⟨c.toNat, c.toNat_lt⟩
  simp only at h
  rw [show ((c.toNat : Int)).toNat % 256 = c.toNat by have := c.toNat_lt; omega, h]
  simp

theorem hexV_lt {c : UInt8} {x : Nat} (h : hexV c = some x) : x < 16 := by
  unfold hexV at h
  split at h
  · cases h; omega
  · split at h
    · cases h; omega
    · cases h

/-- where a byte is first -/
theorem idxL_cut (c : UInt8) : ∀ (s : Bs) (i : Nat), idxL c.toNat s i = if (cutB c s).2.2 then ((i + (cutB c s).1.length : Nat) : Int) else -1
  | [], i => rfl
  | b :: s, i => by
    have e1 : Nat.beq b.toNat c.toNat = decide (b = c) := by rw [Bool.eq_iff_iff]; simp [UInt8.toNat_inj]
    unfold idxL cutB
    rw [e1]
    by_cases h : b = c
    · subst h
      simp
    · simp only [h, decide_false, if_false]
      rw [idxL_cut c s (i + 1)]
      simp only [List.length_cons]
      split
      · congr 1; omega
      · rfl

theorem cutB_none {c : UInt8} : ∀ {s : Bs}, (cutB c s).2.2 = false → (cutB c s).1 = s ∧ (cutB c s).2.1 = []
  | [], _ => ⟨rfl, rfl⟩
  | b :: s, h => by
    unfold cutB at h ⊢
    by_cases e : b = c
    · rw [if_pos e] at h; cases h
    · rw [if_neg e] at h ⊢
      obtain ⟨h1, h2⟩ := cutB_none (s := s) h
      exact ⟨by simp only [h1], h2⟩

theorem cutB_some {c : UInt8} {s : Bs} (h : (cutB c s).2.2 = true) : s = (cutB c s).1 ++ c :: (cutB c s).2.1 := cutB_join (by rw [← h])

theorem cutB_take {c : UInt8} {s : Bs} (h : (cutB c s).2.2 = true) : s.take (cutB c s).1.length = (cutB c s).1 ∧ s.drop ((cutB c s).1.length + 1) = (cutB c s).2.1 := by
  have e := cutB_some h
  generalize (cutB c s).1 = a at e ⊢
  generalize (cutB c s).2.1 = r at e ⊢
  rw [e]
  constructor
  · simp
  · rw [List.drop_append, List.drop_eq_nil_of_le (by omega), show a.length + 1 - a.length = 1 by omega]
    rfl

theorem hexL_at_all : ∀ n : Fin 16, (hexL.take (n.val + 1)).drop n.val = [hexD n.val] := by decide
theorem hexL_at {n : Nat} (h : n < 16) : (hexL.take (n + 1)).drop n = [hexD n] := hexL_at_all ⟨n, h⟩
theorem hexL_len : hexL.length = 16 := rfl
end Go.Words
