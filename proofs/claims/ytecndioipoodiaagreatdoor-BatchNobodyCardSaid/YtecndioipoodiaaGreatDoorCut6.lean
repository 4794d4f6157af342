/-
  Checks of cuts. Printed by wip/tool/mkcuts5.py.
-/
import Derived.Test.YtecndioipoodiaaGreatDoorCutDefs
namespace Go.Proofs.YtecndioipoodiaaGreatDoor
open Go Go.Ab Go.Proofs
set_option linter.unusedVariables false
set_option maxRecDepth 100000

theorem cut6_ok : cut6.holds (acall Tryz.prog hk5 400) 13 = true := by kernel_rfl

theorem cut12_ok : cut12.holds (acall Tryz.prog hk11 400) 44 = true := by kernel_rfl

theorem cut18_ok : cut18.holds (acall Tryz.prog hk17 400) 55 = true := by kernel_rfl

end Go.Proofs.YtecndioipoodiaaGreatDoor
