/-
  Checks of cuts. Printed by wip/tool/mkcuts5.py.
-/
import Derived.Test.YtfpgakjikmakkaaGreatDoorCutDefs
namespace Go.Proofs.YtfpgakjikmakkaaGreatDoor
open Go Go.Ab Go.Proofs
set_option linter.unusedVariables false
set_option maxRecDepth 100000

theorem cut2_ok : cut2.holds (acall Tryz.prog hk1 400) 42 = true := by kernel_rfl

theorem cut10_ok : cut10.holds (acall Tryz.prog hk9 400) 32 = true := by kernel_rfl

theorem cut18_ok : cut18.holds (acall Tryz.prog hk17 400) 4 = true := by kernel_rfl

theorem cut26_ok : cut26.holds (acall Tryz.prog hk25 400) 42 = true := by kernel_rfl

theorem cut34_ok : cut34.holds (acall Tryz.prog hk33 400) 42 = true := by kernel_rfl

theorem cut42_ok : cut42.holds (acall Tryz.prog hk41 400) 12 = true := by kernel_rfl

end Go.Proofs.YtfpgakjikmakkaaGreatDoor
