/-
  Checks of cuts. Printed by wip/tool/mkcuts5.py.
-/
import Derived.Test.YtecndioipoodiaaGreatDoorCutDefs
namespace Go.Proofs.YtecndioipoodiaaGreatDoor
open Go Go.Ab Go.Proofs
set_option linter.unusedVariables false
set_option maxRecDepth 100000

theorem cut2_ok : cut2.holds (acall Tryz.prog hk1 400) 22 = true := by kernel_rfl

theorem cut8_ok : cut8.holds (acall Tryz.prog hk7 400) 144 = true := by kernel_rfl

theorem cut14_ok : cut14.holds (acall Tryz.prog hk13 400) 43 = true := by kernel_rfl

theorem cut20_ok : cut20.holds (acall Tryz.prog hk19 400) 35 = true := by kernel_rfl

end Go.Proofs.YtecndioipoodiaaGreatDoor
