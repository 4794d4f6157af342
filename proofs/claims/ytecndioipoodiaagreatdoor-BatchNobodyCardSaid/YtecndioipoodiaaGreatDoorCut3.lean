/-
  Checks of cuts. Printed by wip/tool/mkcuts5.py.
-/
import Derived.Test.YtecndioipoodiaaGreatDoorCutDefs
namespace Go.Proofs.YtecndioipoodiaaGreatDoor
open Go Go.Ab Go.Proofs
set_option linter.unusedVariables false
set_option maxRecDepth 100000

theorem cut3_ok : cut3.holds (acall Tryz.prog hk2 400) 129 = true := by kernel_rfl

theorem cut9_ok : cut9.holds (acall Tryz.prog hk8 400) 100 = true := by kernel_rfl

theorem cut15_ok : cut15.holds (acall Tryz.prog hk14 400) 12 = true := by kernel_rfl

end Go.Proofs.YtecndioipoodiaaGreatDoor
