/-
  'sluicegatelaw41.QueueNobody' answers true, told of the abstract memory.
-/
import Derived.Test.YthhflooehdhkhaaGreatDoorMCutAll
namespace Go.Proofs.YthhflooehdhkhaaGreatDoor
open Go Go.Ab Go.Proofs
set_option linter.unusedVariables false
set_option maxRecDepth 100000

theorem law_runs (key val : List UInt8) : isT (acall Tryz.prog mhk11 1000 3 [.str key, .str val] memG) = true := by kernel_rfl
end Go.Proofs.YthhflooehdhkhaaGreatDoor
