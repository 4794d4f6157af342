/-
  Checks of cuts. Printed by wip/tool/mkcuts5.py.
-/
import Derived.Test.YtfpgakjikmakkaaGreatDoorCutDefs
namespace Go.Proofs.YtfpgakjikmakkaaGreatDoor
open Go Go.Ab Go.Proofs
set_option linter.unusedVariables false
set_option maxRecDepth 100000

theorem cut5_ok : cut5.holds (acall Tryz.prog hk4 400) 17 = true := by kernel_rfl

theorem cut13_ok : cut13.holds (acall Tryz.prog hk12 400) 32 = true := by kernel_rfl

theorem cut21_ok : cut21.holds (acall Tryz.prog hk20 400) 12 = true := by kernel_rfl

theorem cut29_ok : cut29.holds (acall Tryz.prog hk28 400) 42 = true := by kernel_rfl

theorem cut37_ok : cut37.holds (acall Tryz.prog hk36 400) 19 = true := by kernel_rfl

theorem cut45_ok : cut45.holds (acall Tryz.prog hk44 400) 32 = true := by kernel_rfl

end Go.Proofs.YtfpgakjikmakkaaGreatDoor
