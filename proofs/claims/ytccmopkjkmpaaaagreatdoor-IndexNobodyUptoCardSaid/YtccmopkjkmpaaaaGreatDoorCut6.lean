/-
  Checks of cuts. Printed by wip/tool/mkcuts5.py.
-/
import Derived.Test.YtccmopkjkmpaaaaGreatDoorCutDefs
namespace Go.Proofs.YtccmopkjkmpaaaaGreatDoor
open Go Go.Ab Go.Proofs
set_option linter.unusedVariables false
set_option maxRecDepth 100000

theorem cut6_ok : cut6.holds (acall Tryz.prog (offH hk5 76) 1000) 76 = true := by kernel_rfl

theorem cut12_ok : cut12.holds (acall Tryz.prog (offH hk11 9) 1000) 9 = true := by kernel_rfl

theorem cut18_ok : cut18.holds (acall Tryz.prog (offH hk17 28) 1000) 28 = true := by kernel_rfl

theorem cut24_ok : cut24.holds (acall Tryz.prog (offH hk23 146) 1000) 146 = true := by kernel_rfl

theorem cut30_ok : cut30.holds (acall Tryz.prog (offH hk29 146) 1000) 146 = true := by kernel_rfl

theorem cut36_ok : cut36.holds (acall Tryz.prog (offH hk35 76) 1000) 76 = true := by kernel_rfl

theorem cut42_ok : cut42.holds (acall Tryz.prog (offH hk41 20) 1000) 20 = true := by kernel_rfl

theorem cut48_ok : cut48.holds (acall Tryz.prog (offH hk47 4) 1000) 4 = true := by kernel_rfl

end Go.Proofs.YtccmopkjkmpaaaaGreatDoor
