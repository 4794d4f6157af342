/-
  Checks of cuts. Printed by wip/tool/mkcuts5.py.
-/
import Derived.Test.YtecndioipoodiaaGreatDoorCutDefs
namespace Go.Proofs.YtecndioipoodiaaGreatDoor
open Go Go.Ab Go.Proofs
set_option linter.unusedVariables false
set_option maxRecDepth 100000

theorem cut5_ok : cut5.holds (acall Tryz.prog hk4 400) 10 = true := by kernel_rfl

theorem cut11_ok : cut11.holds (acall Tryz.prog hk10 400) 129 = true := by kernel_rfl

theorem cut17_ok : cut17.holds (acall Tryz.prog hk16 400) 117 = true := by kernel_rfl

end Go.Proofs.YtecndioipoodiaaGreatDoor
