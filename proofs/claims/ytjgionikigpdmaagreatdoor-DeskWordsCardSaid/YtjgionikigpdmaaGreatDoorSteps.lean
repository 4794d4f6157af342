/-
  Small steps for rounds: counters, bytes, what is cut out of a text.
-/
import Derived.Test.YtjgionikigpdmaaGreatDoorWordsA
namespace Go.Words
open Go Go.Ab
set_option linter.unusedVariables false

theorem ltI_nat (a b : Nat) : ltI (a : Int) (b : Int) = decide (a < b) := by
  show Nat.blt a b = _
  rw [Bool.eq_iff_iff]; simp
theorem leI_nat (a b : Nat) : leI (a : Int) (b : Int) = decide (a ≤ b) := by
  show Nat.ble a b = _
  rw [Bool.eq_iff_iff]; simp
theorem eqI_nat (a b : Nat) : eqI (a : Int) (b : Int) = decide (a = b) := by
  show Nat.beq a b = _
  rw [Bool.eq_iff_iff]; simp
theorem leL33 (b : Nat) : leI 33 (b : Int) = decide (33 ≤ b) := leI_nat 33 b
theorem leL48 (b : Nat) : leI 48 (b : Int) = decide (48 ≤ b) := leI_nat 48 b
theorem leL97 (b : Nat) : leI 97 (b : Int) = decide (97 ≤ b) := leI_nat 97 b
theorem leR126 (b : Nat) : leI (b : Int) 126 = decide (b ≤ 126) := leI_nat b 126
theorem leR57 (b : Nat) : leI (b : Int) 57 = decide (b ≤ 57) := leI_nat b 57
theorem leR102 (b : Nat) : leI (b : Int) 102 = decide (b ≤ 102) := leI_nat b 102
theorem eqR37 (b : Nat) : eqI (b : Int) 37 = decide (b = 37) := eqI_nat b 37
theorem eqR61 (b : Nat) : eqI (b : Int) 61 = decide (b = 61) := eqI_nat b 61
theorem eqR0 (b : Nat) : eqI (b : Int) 0 = decide (b = 0) := eqI_nat b 0
theorem ltR33 (b : Nat) : ltI (b : Int) 33 = decide (b < 33) := ltI_nat b 33
theorem ltR300 (b : Nat) : ltI (b : Int) 300 = decide (b < 300) := ltI_nat b 300
theorem ltL126 (b : Nat) : ltI 126 (b : Int) = decide (126 < b) := ltI_nat 126 b
theorem ltL200 (b : Nat) : ltI 200 (b : Int) = decide (200 < b) := ltI_nat 200 b
theorem ltL4000 (b : Nat) : ltI 4000 (b : Int) = decide (4000 < b) := ltI_nat 4000 b
theorem ltL2000 (b : Nat) : ltI 2000 (b : Int) = decide (2000 < b) := ltI_nat 2000 b
theorem ltL0 (b : Nat) : ltI 0 (b : Int) = decide (0 < b) := ltI_nat 0 b
theorem ltR0 (b : Nat) : ltI (b : Int) 0 = false := by rw [show (0 : Int) = ((0 : Nat) : Int) from rfl, ltI_nat]; simp
theorem leL0 (b : Nat) : leI 0 (b : Int) = true := by rw [show (0 : Int) = ((0 : Nat) : Int) from rfl, leI_nat]; simp

/-- the counter goes on -/
theorem wrap_up {a b : Nat} (h : a + b < 9223372036854775808) : IntKind.i64.wrap ((a : Int) + (b : Int)) = ((a + b : Nat) : Int) := by
  rw [wrap_i64 (by omega) (by omega)]; omega
theorem wrap_one {a : Nat} (h : a + 1 < 9223372036854775808) : IntKind.i64.wrap ((a : Int) + 1) = ((a + 1 : Nat) : Int) := wrap_up (b := 1) h
theorem wrap_two {a : Nat} (h : a + 2 < 9223372036854775808) : IntKind.i64.wrap ((a : Int) + 2) = ((a + 2 : Nat) : Int) := wrap_up (b := 2) h

theorem at_pre {pre rest : Bs} {x : UInt8} : (pre ++ x :: rest)[pre.length]? = some x := by
  rw [List.getElem?_append_right (Nat.le_refl _), Nat.sub_self]; rfl
theorem at_pre1 {pre rest : Bs} {x y : UInt8} : (pre ++ x :: y :: rest)[pre.length + 1]? = some y := by
  rw [List.getElem?_append_right (by omega), show pre.length + 1 - pre.length = 1 by omega]; rfl
theorem at_pre2 {pre rest : Bs} {x y z : UInt8} : (pre ++ x :: y :: z :: rest)[pre.length + 2]? = some z := by
  rw [List.getElem?_append_right (by omega), show pre.length + 2 - pre.length = 2 by omega]; rfl
theorem cut_one {pre rest : Bs} {x : UInt8} : List.drop pre.length (List.take (pre.length + 1) (pre ++ x :: rest)) = [x] := by
  rw [List.take_append, List.take_of_length_le (by omega), show pre.length + 1 - pre.length = 1 by omega, List.drop_append, List.drop_of_length_le (Nat.le_refl _), Nat.sub_self]
  simp

/-- a byte's digits -/
theorem nib_all : ∀ n : Fin 256, ((n.val : Int)).fdiv 16 = ((n.val / 16 : Nat) : Int) ∧ IntKind.u8.wrap (((n.val / 16 : Nat) : Int) + 1) = ((n.val / 16 + 1 : Nat) : Int) ∧
    IntKind.u8.wrap ((BitVec.ofInt 8 (n.val : Int) &&& BitVec.ofInt 8 15).toNat : Int) = ((n.val % 16 : Nat) : Int) ∧ IntKind.u8.wrap (((n.val % 16 : Nat) : Int) + 1) = ((n.val % 16 + 1 : Nat) : Int) ∧
    IntKind.u8.wrap (((n.val : Int)).tdiv 16) = ((n.val / 16 : Nat) : Int) ∧ ((n.val : Int)).tmod 16 = ((n.val % 16 : Nat) : Int) := by decide +kernel

theorem nib (x : UInt8) : ((x.toNat : Int)).fdiv 16 = ((x.toNat / 16 : Nat) : Int) ∧ IntKind.u8.wrap (((x.toNat / 16 : Nat) : Int) + 1) = ((x.toNat / 16 + 1 : Nat) : Int) ∧
    IntKind.u8.wrap ((BitVec.ofInt 8 (x.toNat : Int) &&& BitVec.ofInt 8 15).toNat : Int) = ((x.toNat % 16 : Nat) : Int) ∧ IntKind.u8.wrap (((x.toNat % 16 : Nat) : Int) + 1) = ((x.toNat % 16 + 1 : Nat) : Int) ∧
    IntKind.u8.wrap (((x.toNat : Int)).tdiv 16) = ((x.toNat / 16 : Nat) : Int) ∧ ((x.toNat : Int)).tmod 16 = ((x.toNat % 16 : Nat) : Int) := nib_all ⟨x.toNat, x.toNat_lt⟩

/-- two digits put together -/
theorem join_all : ∀ a b : Fin 16, IntKind.u8.wrap (IntKind.i64.wrap ((BitVec.ofInt 64 (IntKind.i64.wrap ((a.val : Int) * 16)) ||| BitVec.ofInt 64 (b.val : Int)).toNat : Int)) = ((UInt8.ofNat (16 * a.val + b.val)).toNat : Int) ∧
    IntKind.i64.wrap (16 * (a.val : Int)) = ((16 * a.val : Nat) : Int) ∧ IntKind.i64.wrap (((16 * a.val : Nat) : Int) + (b.val : Int)) = ((16 * a.val + b.val : Nat) : Int) ∧ IntKind.u8.wrap ((16 * a.val + b.val : Nat) : Int) = ((UInt8.ofNat (16 * a.val + b.val)).toNat : Int) := by decide +kernel

theorem hexLit : ([{ toBitVec := 48#8 : UInt8 }, { toBitVec := 49#8 : UInt8 }, { toBitVec := 50#8 : UInt8 }, { toBitVec := 51#8 : UInt8 }, { toBitVec := 52#8 : UInt8 }, { toBitVec := 53#8 : UInt8 }, { toBitVec := 54#8 : UInt8 }, { toBitVec := 55#8 : UInt8 }, { toBitVec := 56#8 : UInt8 }, { toBitVec := 57#8 : UInt8 }, { toBitVec := 97#8 : UInt8 }, { toBitVec := 98#8 : UInt8 }, { toBitVec := 99#8 : UInt8 }, { toBitVec := 100#8 : UInt8 }, { toBitVec := 101#8 : UInt8 }, { toBitVec := 102#8 : UInt8 }] : List UInt8) = hexL := rfl
theorem l37 : ({ toBitVec := 37#8 } : UInt8) = 37 := rfl
theorem l45 : ({ toBitVec := 45#8 } : UInt8) = 45 := rfl
theorem l61 : ({ toBitVec := 61#8 } : UInt8) = 61 := rfl
theorem l10 : ({ toBitVec := 10#8 } : UInt8) = 10 := rfl
theorem l50 : ({ toBitVec := 50#8 } : UInt8) = 50 := rfl
theorem l100 : ({ toBitVec := 100#8 } : UInt8) = 100 := rfl

theorem beqA_str (s : List UInt8) : beqA 9 (.str s) (.str s) = true := by simp [beqA]
theorem addOk_ok {a b : Bs} (h : a.length + b.length ≤ 9223372036854775807) : addOk a b = true := by
  unfold addOk
  rw [Nat.ble_eq]; exact h

theorem i64max : IntKind.i64.max = 9223372036854775807 := rfl
theorem short_ok {n : Nat} (h : n ≤ 9223372036854775807) : decide (((n : Nat) : Int) ≤ IntKind.i64.max) = true := by
  rw [i64max, decide_eq_true_eq]; omega

theorem encL_append : ∀ a b : Bs, encL (a ++ b) = encL a ++ encL b
  | [], b => rfl
  | x :: a, b => by
    show encB x ++ encL (a ++ b) = encB x ++ encL a ++ encL b
    rw [encL_append a b, List.append_assoc]
theorem encL_one (x : UInt8) : encL [x] = encB x := by show encB x ++ [] = _; rw [List.append_nil]
end Go.Words
