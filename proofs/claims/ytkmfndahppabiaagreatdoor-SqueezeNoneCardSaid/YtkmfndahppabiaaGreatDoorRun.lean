/-
  'sluicegatelaw34.SqueezeNone' answers true, told of the abstract memory.
-/
import Derived.Test.YtkmfndahppabiaaGreatDoorMCutAll
namespace Go.Proofs.YtkmfndahppabiaaGreatDoor
open Go Go.Ab Go.Proofs
set_option linter.unusedVariables false
set_option maxRecDepth 100000

theorem law_runs (a b c d e f g i k : Int) : isT (acall Tryz.prog mhk9 1000 3 [.agg [.int .i64 a, .int .i64 b, .int .i64 c, .int .i64 d, .int .i64 e, .int .i64 f, .int .i64 g, .int .i64 i], .int .i64 k] memG) = true := by kernel_rfl
end Go.Proofs.YtkmfndahppabiaaGreatDoor
