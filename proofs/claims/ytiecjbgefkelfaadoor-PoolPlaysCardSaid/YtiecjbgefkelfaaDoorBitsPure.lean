/-
  Rows of places in words of 64: the plain law, no program in sight.
-/
import Derived.Test.YtiecjbgefkelfaaDoorAbSym
namespace Go.Ab
set_option linter.unusedVariables false
set_option linter.unusedSimpArgs false

abbrev W64 := BitVec 64

/-- whole numbers of 64 bits as the evaluator writes them -/
def u64 (x : W64) : Int := (x.toNat : Int)

theorem ofInt_u64 (x : W64) : BitVec.ofInt 64 (u64 x) = x := by
  unfold u64; rw [BitVec.ofInt_natCast, BitVec.ofNat_toNat, BitVec.setWidth_eq]

theorem wrap_u64 (n : Nat) : IntKind.u64.wrap (n : Int) = u64 (BitVec.ofNat 64 n) := by
  unfold u64 IntKind.wrap
  simp only [IntKind.signed, IntKind.bits, Bool.false_and, Bool.false_eq_true, if_false, BitVec.toNat_ofNat]
  omega

theorem wrap_u64_of (x : W64) : IntKind.u64.wrap (x.toNat : Int) = u64 x := by rw [wrap_u64, BitVec.ofNat_toNat, BitVec.setWidth_eq]

theorem shl_u64 (x : W64) (j : Nat) : IntKind.u64.wrap (u64 x * 2 ^ j) = u64 (x <<< j) := by
  unfold u64
  have : ((x.toNat : Int) * 2 ^ j) = ((x.toNat * 2 ^ j : Nat) : Int) := by push_cast; rfl
  rw [this, wrap_u64]
  unfold u64
  congr 1
  rw [BitVec.toNat_ofNat, BitVec.toNat_shiftLeft, Nat.shiftLeft_eq]

theorem shr_u64 (x : W64) (j : Nat) : (u64 x).fdiv (2 ^ j) = u64 (x >>> j) := by
  unfold u64
  have : ((2 : Int) ^ j) = ((2 ^ j : Nat) : Int) := by push_cast; rfl
  rw [this, ← Int.ofNat_fdiv, BitVec.toNat_ushiftRight, Nat.shiftRight_eq_div_pow]

theorem u64_inj {x y : W64} : u64 x = u64 y ↔ x = y := by
  unfold u64
  constructor
  · intro h; exact BitVec.eq_of_toNat_eq (by exact_mod_cast h)
  · rintro rfl; rfl

/-! ### places -/
def bitAt (ws : List W64) (i : Nat) : Bool := (ws.getD (i / 64) 0).getLsbD (i % 64)

theorem bitAt_set {ws : List W64} {i : Nat} (hi : i / 64 < ws.length) (x : W64) (j : Nat) :
    bitAt (ws.set (i / 64) x) j = if j / 64 = i / 64 then x.getLsbD (j % 64) else bitAt ws j := by
  unfold bitAt
  rw [List.getD_eq_getElem?_getD, List.getElem?_set]
  by_cases h : j / 64 = i / 64
  · rw [if_pos h, if_pos h.symm, if_pos (by omega)]; rfl
  · rw [if_neg h, if_neg (fun e => h e.symm)]; rfl

theorem bitAt_or {ws : List W64} {i : Nat} (hi : i / 64 < ws.length) (j : Nat) :
    bitAt (ws.set (i / 64) ((ws.getD (i / 64) 0) ||| (1 : W64) <<< (i % 64))) j = (decide (j = i) || bitAt ws j) := by
  rw [bitAt_set hi]
  have h64 : j % 64 < 64 := Nat.mod_lt _ (by omega)
  by_cases h : j / 64 = i / 64
  · rw [if_pos h, BitVec.getLsbD_or]
    have e1 : ((1 : W64) <<< (i % 64)).getLsbD (j % 64) = decide (j = i) := by
      rw [show (1 : W64) <<< (i % 64) = BitVec.twoPow 64 (i % 64) from (BitVec.twoPow_eq _ _).symm, BitVec.getLsbD_twoPow]
      by_cases q : j = i
      · subst q; simp [h64]
      · have : ¬ i % 64 = j % 64 := by omega
        simp [q, this]
    rw [e1, ← h, Bool.or_comm]; rfl
  · rw [if_neg h, show decide (j = i) = false from by simp; intro e; subst e; exact h rfl, Bool.false_or]

theorem bitAt_andNot {ws : List W64} {i : Nat} (hi : i / 64 < ws.length) (j : Nat) :
    bitAt (ws.set (i / 64) ((ws.getD (i / 64) 0) &&& ~~~ ((1 : W64) <<< (i % 64)))) j = (!decide (j = i) && bitAt ws j) := by
  rw [bitAt_set hi]
  have h64 : j % 64 < 64 := Nat.mod_lt _ (by omega)
  by_cases h : j / 64 = i / 64
  · rw [if_pos h, BitVec.getLsbD_and, BitVec.getLsbD_not]
    have e1 : ((1 : W64) <<< (i % 64)).getLsbD (j % 64) = decide (j = i) := by
      rw [show (1 : W64) <<< (i % 64) = BitVec.twoPow 64 (i % 64) from (BitVec.twoPow_eq _ _).symm, BitVec.getLsbD_twoPow]
      by_cases q : j = i
      · subst q; simp [h64]
      · have : ¬ i % 64 = j % 64 := by omega
        simp [q, this]
    rw [e1, ← h, Bool.and_comm]; simp [h64, bitAt]
  · rw [if_neg h, show decide (j = i) = false from by simp; intro e; subst e; exact h rfl, Bool.not_false, Bool.true_and]

/-! ### the first digit that is 1 -/
def tz (x : W64) : Nat := ((List.range 64).find? fun j => x.getLsbD j).getD 64

theorem find_range {n : Nat} {p : Nat → Bool} {i : Nat} : (List.range n).find? p = some i ↔ i < n ∧ p i = true ∧ ∀ j, j < i → p j = false := by
  rw [List.find?_eq_some_iff_getElem]
  constructor
  · rintro ⟨h1, k, hk, h2, h3⟩
    simp at h2 hk; subst h2
    exact ⟨hk, h1, fun j hj => by have := h3 j hj; simpa using this⟩
  · rintro ⟨h1, h2, h3⟩
    exact ⟨h2, i, by simpa using h1, by simp, fun j hj => by simpa using h3 j hj⟩

theorem find_range_none {n : Nat} {p : Nat → Bool} : (List.range n).find? p = none ↔ ∀ j, j < n → p j = false := by
  rw [List.find?_eq_none]; simp

theorem tz_spec {x : W64} (h : x ≠ 0) : tz x < 64 ∧ x.getLsbD (tz x) = true ∧ ∀ j, j < tz x → x.getLsbD j = false := by
  unfold tz
  cases e : (List.range 64).find? fun j => x.getLsbD j with
  | none =>
    exfalso; apply h
    rw [find_range_none] at e
    apply BitVec.eq_of_getLsbD_eq
    intro i hi
    rw [e i hi]; simp
  | some t => exact find_range.1 e

theorem and_neg {x : W64} (h : x ≠ 0) : x &&& -x = BitVec.twoPow 64 (tz x) := by
  obtain ⟨h1, h2, h3⟩ := tz_spec h
  apply BitVec.eq_of_getLsbD_eq
  intro i hi
  rw [BitVec.getLsbD_and, BitVec.getLsbD_neg, BitVec.getLsbD_twoPow]
  by_cases a : i = tz x
  · subst a
    have : (decide (∃ j, j < tz x ∧ x.getLsbD j = true)) = false := by
      simp; intro j hj; exact h3 j hj
    simp [h2, hi, this]
  · by_cases b : i < tz x
    · simp [h3 i b]; intro; omega
    · have : (decide (∃ j, j < i ∧ x.getLsbD j = true)) = true := by
        simp; exact ⟨tz x, by omega, h2⟩
      simp [this, hi]
      intro; omega
end Go.Ab
