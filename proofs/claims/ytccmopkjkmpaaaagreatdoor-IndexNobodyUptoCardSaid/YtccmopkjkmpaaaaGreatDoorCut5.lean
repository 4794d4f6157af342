/-
  Checks of cuts. Printed by wip/tool/mkcuts5.py.
-/
import Derived.Test.YtccmopkjkmpaaaaGreatDoorCutDefs
namespace Go.Proofs.YtccmopkjkmpaaaaGreatDoor
open Go Go.Ab Go.Proofs
set_option linter.unusedVariables false
set_option maxRecDepth 100000

theorem cut5_ok : cut5.holds (acall Tryz.prog (offH hk4 148) 1000) 148 = true := by kernel_rfl

theorem cut11_ok : cut11.holds (acall Tryz.prog (offH hk10 28) 1000) 28 = true := by kernel_rfl

theorem cut17_ok : cut17.holds (acall Tryz.prog (offH hk16 76) 1000) 76 = true := by kernel_rfl

theorem cut23_ok : cut23.holds (acall Tryz.prog (offH hk22 9) 1000) 9 = true := by kernel_rfl

theorem cut29_ok : cut29.holds (acall Tryz.prog (offH hk28 28) 1000) 28 = true := by kernel_rfl

theorem cut35_ok : cut35.holds (acall Tryz.prog (offH hk34 148) 1000) 148 = true := by kernel_rfl

theorem cut41_ok : cut41.holds (acall Tryz.prog (offH hk40 4) 1000) 4 = true := by kernel_rfl

theorem cut47_ok : cut47.holds (acall Tryz.prog (offH hk46 146) 1000) 146 = true := by kernel_rfl

end Go.Proofs.YtccmopkjkmpaaaaGreatDoor
