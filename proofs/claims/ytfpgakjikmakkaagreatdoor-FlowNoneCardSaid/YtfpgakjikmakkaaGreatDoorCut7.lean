/-
  Checks of cuts. Printed by wip/tool/mkcuts5.py.
-/
import Derived.Test.YtfpgakjikmakkaaGreatDoorCutDefs
namespace Go.Proofs.YtfpgakjikmakkaaGreatDoor
open Go Go.Ab Go.Proofs
set_option linter.unusedVariables false
set_option maxRecDepth 100000

theorem cut7_ok : cut7.holds (acall Tryz.prog hk6 400) 42 = true := by kernel_rfl

theorem cut15_ok : cut15.holds (acall Tryz.prog hk14 400) 42 = true := by kernel_rfl

theorem cut23_ok : cut23.holds (acall Tryz.prog hk22 400) 32 = true := by kernel_rfl

theorem cut31_ok : cut31.holds (acall Tryz.prog hk30 400) 42 = true := by kernel_rfl

theorem cut39_ok : cut39.holds (acall Tryz.prog hk38 400) 47 = true := by kernel_rfl

theorem cut47_ok : cut47.holds (acall Tryz.prog hk46 400) 42 = true := by kernel_rfl

end Go.Proofs.YtfpgakjikmakkaaGreatDoor
