/-
  Checks of cuts. Printed by wip/tool/mkcuts5.py.
-/
import Derived.Test.YtccmopkjkmpaaaaGreatDoorCutDefs
namespace Go.Proofs.YtccmopkjkmpaaaaGreatDoor
open Go Go.Ab Go.Proofs
set_option linter.unusedVariables false
set_option maxRecDepth 100000

theorem cut1_ok : cut1.holds (acall Tryz.prog (offH hkI 13) 1000) 13 = true := by kernel_rfl

theorem cut7_ok : cut7.holds (acall Tryz.prog (offH hk6 28) 1000) 28 = true := by kernel_rfl

theorem cut13_ok : cut13.holds (acall Tryz.prog (offH hk12 146) 1000) 146 = true := by kernel_rfl

theorem cut19_ok : cut19.holds (acall Tryz.prog (offH hk18 146) 1000) 146 = true := by kernel_rfl

theorem cut25_ok : cut25.holds (acall Tryz.prog (offH hk24 4) 1000) 4 = true := by kernel_rfl

theorem cut31_ok : cut31.holds (acall Tryz.prog (offH hk30 148) 1000) 148 = true := by kernel_rfl

theorem cut37_ok : cut37.holds (acall Tryz.prog (offH hk36 25) 1000) 25 = true := by kernel_rfl

theorem cut43_ok : cut43.holds (acall Tryz.prog (offH hk42 5) 1000) 5 = true := by kernel_rfl

theorem cut49_ok : cut49.holds (acall Tryz.prog (offH hk48 146) 1000) 146 = true := by kernel_rfl

end Go.Proofs.YtccmopkjkmpaaaaGreatDoor
