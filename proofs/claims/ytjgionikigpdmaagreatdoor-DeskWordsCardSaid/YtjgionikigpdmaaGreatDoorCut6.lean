/-
  Checks of cuts. Printed by wip/tool/mkcuts5.py.
-/
import Derived.Test.YtjgionikigpdmaaGreatDoorCutDefs
namespace Go.Proofs.YtjgionikigpdmaaGreatDoor
open Go Go.Ab Go.Proofs
set_option linter.unusedVariables false
set_option maxRecDepth 100000

theorem cut6_ok : cut6.holds (acall Tryz.prog hk5 1000) 178 = true := by kernel_rfl

theorem cut12_ok : cut12.holds (acall Tryz.prog hk11 1000) 18 = true := by kernel_rfl

theorem cut18_ok : cut18.holds (acall Tryz.prog hk17 1000) 222 = true := by kernel_rfl

end Go.Proofs.YtjgionikigpdmaaGreatDoor
