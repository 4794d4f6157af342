/-
  Checks of cuts. Printed by wip/tool/mkcuts5.py.
-/
import Derived.Test.YtecndioipoodiaaGreatDoorMCutDefs
namespace Go.Proofs.YtecndioipoodiaaGreatDoor
open Go Go.Ab Go.Proofs
set_option linter.unusedVariables false
set_option maxRecDepth 100000

theorem mcut2_ok : mcut2.holds (acall Tryz.prog mhk1 400) 10 = true := by kernel_rfl

end Go.Proofs.YtecndioipoodiaaGreatDoor
