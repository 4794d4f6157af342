/-
  'sluicegatelaw27.KvNobody' answers true, told of the abstract memory.
-/
import Derived.Test.YtagkbhmlombnjabGreatDoorWake
namespace Go.Proofs.YtagkbhmlombnjabGreatDoor
open Go Go.Ab Go.Proofs
set_option linter.unusedVariables false
set_option maxRecDepth 100000

noncomputable abbrev kvR (kind : Int) (key val : List UInt8) (n : Int) : Bool := isT (acall Tryz.prog hkW 400 3 [.agg [.int .i64 kind, .str key, .str val, .int .i64 n]] memG)

theorem run_neg (m : Nat) (key val : List UInt8) (n : Int) : kvR (.negSucc m) key val n = true := by kernel_rfl
theorem run_0 (key val : List UInt8) (n : Int) : kvR 0 key val n = true := by kernel_rfl
theorem run_1 (key val : List UInt8) (n : Int) : kvR 1 key val n = true := by kernel_rfl
theorem run_2 (key val : List UInt8) (n : Int) : kvR 2 key val n = true := by kernel_rfl
theorem run_3 (key val : List UInt8) (n : Int) : kvR 3 key val n = true := by kernel_rfl
theorem run_4 (key val : List UInt8) (n : Int) : kvR 4 key val n = true := by kernel_rfl
theorem run_5 (key val : List UInt8) (n : Int) : kvR 5 key val n = true := by kernel_rfl
theorem run_6 (key val : List UInt8) (n : Int) : kvR 6 key val n = true := by kernel_rfl
theorem run_7 (m : Nat) (key val : List UInt8) (n : Int) : kvR (.ofNat (m + 7)) key val n = true := by kernel_rfl

theorem kv_runs : ∀ (kind : Int) (key val : List UInt8) (n : Int), kvR kind key val n = true
  | .negSucc m, key, val, n => run_neg m key val n
  | .ofNat 0, key, val, n => run_0 key val n
  | .ofNat 1, key, val, n => run_1 key val n
  | .ofNat 2, key, val, n => run_2 key val n
  | .ofNat 3, key, val, n => run_3 key val n
  | .ofNat 4, key, val, n => run_4 key val n
  | .ofNat 5, key, val, n => run_5 key val n
  | .ofNat 6, key, val, n => run_6 key val n
  | .ofNat (m + 7), key, val, n => run_7 m key val n
end Go.Proofs.YtagkbhmlombnjabGreatDoor
