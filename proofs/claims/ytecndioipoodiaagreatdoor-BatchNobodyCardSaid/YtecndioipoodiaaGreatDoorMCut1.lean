/-
  Checks of cuts. Printed by wip/tool/mkcuts5.py.
-/
import Derived.Test.YtecndioipoodiaaGreatDoorMCutDefs
namespace Go.Proofs.YtecndioipoodiaaGreatDoor
open Go Go.Ab Go.Proofs
set_option linter.unusedVariables false
set_option maxRecDepth 100000

theorem mcut1_ok : mcut1.holds (acall Tryz.prog hkW 400) 22 = true := by kernel_rfl

end Go.Proofs.YtecndioipoodiaaGreatDoor
