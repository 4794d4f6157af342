/-
  Checks of cuts. Printed by wip/tool/mkcuts5.py.
-/
import Derived.Test.YtfpgakjikmakkaaGreatDoorCutDefs
namespace Go.Proofs.YtfpgakjikmakkaaGreatDoor
open Go Go.Ab Go.Proofs
set_option linter.unusedVariables false
set_option maxRecDepth 100000

theorem cut3_ok : cut3.holds (acall Tryz.prog hk2 400) 17 = true := by kernel_rfl

theorem cut11_ok : cut11.holds (acall Tryz.prog hk10 400) 12 = true := by kernel_rfl

theorem cut19_ok : cut19.holds (acall Tryz.prog hk18 400) 42 = true := by kernel_rfl

theorem cut27_ok : cut27.holds (acall Tryz.prog hk26 400) 32 = true := by kernel_rfl

theorem cut35_ok : cut35.holds (acall Tryz.prog hk34 400) 19 = true := by kernel_rfl

theorem cut43_ok : cut43.holds (acall Tryz.prog hk42 400) 6 = true := by kernel_rfl

end Go.Proofs.YtfpgakjikmakkaaGreatDoor
