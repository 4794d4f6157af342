/-
  'sluicegatelaw39.BatchNobody' answers true, told of the abstract memory.
-/
import Derived.Test.YtecndioipoodiaaGreatDoorMCutAll
namespace Go.Proofs.YtecndioipoodiaaGreatDoor
open Go Go.Ab Go.Proofs
set_option linter.unusedVariables false
set_option maxRecDepth 100000

theorem bat_runs (key val : List UInt8) : isT (acall Tryz.prog mhk3 400 3 [.str key, .str val] memG) = true := by kernel_rfl
end Go.Proofs.YtecndioipoodiaaGreatDoor
