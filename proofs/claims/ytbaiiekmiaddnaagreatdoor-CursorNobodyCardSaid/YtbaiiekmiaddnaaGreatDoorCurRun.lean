/-
  'sluicegatelaw32.CursorNobody' answers true, told of the abstract memory.
-/
import Derived.Test.YtbaiiekmiaddnaaGreatDoorMCut4
namespace Go.Proofs.YtbaiiekmiaddnaaGreatDoor
open Go Go.Ab Go.Proofs
set_option linter.unusedVariables false
set_option maxRecDepth 100000

theorem cur_runs (lo hi : List UInt8) (batch : Int) : isT (acall Tryz.prog mhk4 400 3 [.str lo, .str hi, .int .i64 batch] memG) = true := by kernel_rfl
end Go.Proofs.YtbaiiekmiaddnaaGreatDoor
