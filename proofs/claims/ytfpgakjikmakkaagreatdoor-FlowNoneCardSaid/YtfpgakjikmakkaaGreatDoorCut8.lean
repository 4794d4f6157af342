/-
  Checks of cuts. Printed by wip/tool/mkcuts5.py.
-/
import Derived.Test.YtfpgakjikmakkaaGreatDoorCutDefs
namespace Go.Proofs.YtfpgakjikmakkaaGreatDoor
open Go Go.Ab Go.Proofs
set_option linter.unusedVariables false
set_option maxRecDepth 100000

theorem cut8_ok : cut8.holds (acall Tryz.prog hk7 400) 17 = true := by kernel_rfl

theorem cut16_ok : cut16.holds (acall Tryz.prog hk15 400) 32 = true := by kernel_rfl

theorem cut24_ok : cut24.holds (acall Tryz.prog hk23 400) 12 = true := by kernel_rfl

theorem cut32_ok : cut32.holds (acall Tryz.prog hk31 400) 19 = true := by kernel_rfl

theorem cut40_ok : cut40.holds (acall Tryz.prog hk39 400) 42 = true := by kernel_rfl

theorem cut48_ok : cut48.holds (acall Tryz.prog hk47 400) 32 = true := by kernel_rfl

end Go.Proofs.YtfpgakjikmakkaaGreatDoor
