/-
  Checks of cuts. Printed by wip/tool/mkcuts5.py.
-/
import Derived.Test.YtjgionikigpdmaaGreatDoorCutDefs
namespace Go.Proofs.YtjgionikigpdmaaGreatDoor
open Go Go.Ab Go.Proofs
set_option linter.unusedVariables false
set_option maxRecDepth 100000

theorem cut3_ok : cut3.holds (acall Tryz.prog hk2 1000) 21 = true := by kernel_rfl

theorem cut9_ok : cut9.holds (acall Tryz.prog hk8 1000) 23 = true := by kernel_rfl

theorem cut15_ok : cut15.holds (acall Tryz.prog hk14 1000) 86 = true := by kernel_rfl

theorem cut21_ok : cut21.holds (acall Tryz.prog hk20 1000) 23 = true := by kernel_rfl

end Go.Proofs.YtjgionikigpdmaaGreatDoor
