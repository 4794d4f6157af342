/-
  Checks of cuts. Printed by wip/tool/mkcuts5.py.
-/
import Derived.Test.YtfpgakjikmakkaaGreatDoorCutDefs
namespace Go.Proofs.YtfpgakjikmakkaaGreatDoor
open Go Go.Ab Go.Proofs
set_option linter.unusedVariables false
set_option maxRecDepth 100000

theorem cut4_ok : cut4.holds (acall Tryz.prog hk3 400) 42 = true := by kernel_rfl

theorem cut12_ok : cut12.holds (acall Tryz.prog hk11 400) 42 = true := by kernel_rfl

theorem cut20_ok : cut20.holds (acall Tryz.prog hk19 400) 32 = true := by kernel_rfl

theorem cut28_ok : cut28.holds (acall Tryz.prog hk27 400) 12 = true := by kernel_rfl

theorem cut36_ok : cut36.holds (acall Tryz.prog hk35 400) 42 = true := by kernel_rfl

theorem cut44_ok : cut44.holds (acall Tryz.prog hk43 400) 42 = true := by kernel_rfl

end Go.Proofs.YtfpgakjikmakkaaGreatDoor
