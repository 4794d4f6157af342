/-
  Checks of cuts. Printed by wip/tool/mkcuts5.py.
-/
import Derived.Test.YtfpgakjikmakkaaGreatDoorCutDefs
namespace Go.Proofs.YtfpgakjikmakkaaGreatDoor
open Go Go.Ab Go.Proofs
set_option linter.unusedVariables false
set_option maxRecDepth 100000

theorem cut6_ok : cut6.holds (acall Tryz.prog hk5 400) 24 = true := by kernel_rfl

theorem cut14_ok : cut14.holds (acall Tryz.prog hk13 400) 12 = true := by kernel_rfl

theorem cut22_ok : cut22.holds (acall Tryz.prog hk21 400) 42 = true := by kernel_rfl

theorem cut30_ok : cut30.holds (acall Tryz.prog hk29 400) 19 = true := by kernel_rfl

theorem cut38_ok : cut38.holds (acall Tryz.prog hk37 400) 80 = true := by kernel_rfl

theorem cut46_ok : cut46.holds (acall Tryz.prog hk45 400) 12 = true := by kernel_rfl

end Go.Proofs.YtfpgakjikmakkaaGreatDoor
