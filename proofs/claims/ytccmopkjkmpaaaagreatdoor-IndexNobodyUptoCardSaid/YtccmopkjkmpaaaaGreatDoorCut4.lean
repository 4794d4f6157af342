/-
  Checks of cuts. Printed by wip/tool/mkcuts5.py.
-/
import Derived.Test.YtccmopkjkmpaaaaGreatDoorCutDefs
namespace Go.Proofs.YtccmopkjkmpaaaaGreatDoor
open Go Go.Ab Go.Proofs
set_option linter.unusedVariables false
set_option maxRecDepth 100000

theorem cut4_ok : cut4.holds (acall Tryz.prog (offH hk3 146) 1000) 146 = true := by kernel_rfl

theorem cut10_ok : cut10.holds (acall Tryz.prog (offH hk9 76) 1000) 76 = true := by kernel_rfl

theorem cut16_ok : cut16.holds (acall Tryz.prog (offH hk15 148) 1000) 148 = true := by kernel_rfl

theorem cut22_ok : cut22.holds (acall Tryz.prog (offH hk21 28) 1000) 28 = true := by kernel_rfl

theorem cut28_ok : cut28.holds (acall Tryz.prog (offH hk27 76) 1000) 76 = true := by kernel_rfl

theorem cut34_ok : cut34.holds (acall Tryz.prog (offH hk33 146) 1000) 146 = true := by kernel_rfl

theorem cut40_ok : cut40.holds (acall Tryz.prog (offH hk39 146) 1000) 146 = true := by kernel_rfl

theorem cut46_ok : cut46.holds (acall Tryz.prog (offH hk45 4) 1000) 4 = true := by kernel_rfl

end Go.Proofs.YtccmopkjkmpaaaaGreatDoor
