/-
  Checks of cuts. Printed by wip/tool/mkcuts5.py.
-/
import Derived.Test.YtjgionikigpdmaaGreatDoorCutDefs
namespace Go.Proofs.YtjgionikigpdmaaGreatDoor
open Go Go.Ab Go.Proofs
set_option linter.unusedVariables false
set_option maxRecDepth 100000

theorem cut4_ok : cut4.holds (acall Tryz.prog hk3 1000) 23 = true := by kernel_rfl

theorem cut10_ok : cut10.holds (acall Tryz.prog hk9 1000) 222 = true := by kernel_rfl

theorem cut16_ok : cut16.holds (acall Tryz.prog hk15 1000) 18 = true := by kernel_rfl

theorem cut22_ok : cut22.holds (acall Tryz.prog hk21 1000) 18 = true := by kernel_rfl

end Go.Proofs.YtjgionikigpdmaaGreatDoor
