/-
  Checks of cuts. Printed by wip/tool/mkcuts5.py.
-/
import Derived.Test.YtjgionikigpdmaaGreatDoorCutDefs
namespace Go.Proofs.YtjgionikigpdmaaGreatDoor
open Go Go.Ab Go.Proofs
set_option linter.unusedVariables false
set_option maxRecDepth 100000

theorem cut5_ok : cut5.holds (acall Tryz.prog hk4 1000) 222 = true := by kernel_rfl

theorem cut11_ok : cut11.holds (acall Tryz.prog hk10 1000) 48 = true := by kernel_rfl

theorem cut17_ok : cut17.holds (acall Tryz.prog hk16 1000) 23 = true := by kernel_rfl

end Go.Proofs.YtjgionikigpdmaaGreatDoor
