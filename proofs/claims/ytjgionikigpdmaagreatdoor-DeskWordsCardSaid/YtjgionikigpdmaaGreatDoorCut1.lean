/-
  Checks of cuts. Printed by wip/tool/mkcuts5.py.
-/
import Derived.Test.YtjgionikigpdmaaGreatDoorCutDefs
namespace Go.Proofs.YtjgionikigpdmaaGreatDoor
open Go Go.Ab Go.Proofs
set_option linter.unusedVariables false
set_option maxRecDepth 100000

theorem cut1_ok : cut1.holds (acall Tryz.prog hkB 1000) 40 = true := by kernel_rfl

theorem cut7_ok : cut7.holds (acall Tryz.prog hk6 1000) 46 = true := by kernel_rfl

theorem cut13_ok : cut13.holds (acall Tryz.prog hk12 1000) 23 = true := by kernel_rfl

theorem cut19_ok : cut19.holds (acall Tryz.prog hk18 1000) 48 = true := by kernel_rfl

end Go.Proofs.YtjgionikigpdmaaGreatDoor
