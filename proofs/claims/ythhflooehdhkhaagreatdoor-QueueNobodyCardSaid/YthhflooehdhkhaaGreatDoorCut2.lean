/-
  Checks of cuts. Printed by wip/tool/mkcuts5.py.
-/
import Derived.Test.YthhflooehdhkhaaGreatDoorCutDefs
namespace Go.Proofs.YthhflooehdhkhaaGreatDoor
open Go Go.Ab Go.Proofs
set_option linter.unusedVariables false
set_option maxRecDepth 100000

theorem cut2_ok : cut2.holds (acall Tryz.prog hk1 1000) 29 = true := by kernel_rfl

theorem cut8_ok : cut8.holds (acall Tryz.prog hk7 1000) 131 = true := by kernel_rfl

theorem cut14_ok : cut14.holds (acall Tryz.prog hk13 1000) 6 = true := by kernel_rfl

end Go.Proofs.YthhflooehdhkhaaGreatDoor
