/-
  Checks of cuts. Printed by wip/tool/mkcuts5.py.
-/
import Derived.Test.YtjgionikigpdmaaGreatDoorCutDefs
namespace Go.Proofs.YtjgionikigpdmaaGreatDoor
open Go Go.Ab Go.Proofs
set_option linter.unusedVariables false
set_option maxRecDepth 100000

theorem cut2_ok : cut2.holds (acall Tryz.prog hk1 1000) 41 = true := by kernel_rfl

theorem cut8_ok : cut8.holds (acall Tryz.prog hk7 1000) 18 = true := by kernel_rfl

theorem cut14_ok : cut14.holds (acall Tryz.prog hk13 1000) 222 = true := by kernel_rfl

theorem cut20_ok : cut20.holds (acall Tryz.prog hk19 1000) 18 = true := by kernel_rfl

end Go.Proofs.YtjgionikigpdmaaGreatDoor
