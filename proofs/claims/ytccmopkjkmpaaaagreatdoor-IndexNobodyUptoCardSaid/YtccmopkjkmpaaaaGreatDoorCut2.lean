/-
  Checks of cuts. Printed by wip/tool/mkcuts5.py.
-/
import Derived.Test.YtccmopkjkmpaaaaGreatDoorCutDefs
namespace Go.Proofs.YtccmopkjkmpaaaaGreatDoor
open Go Go.Ab Go.Proofs
set_option linter.unusedVariables false
set_option maxRecDepth 100000

theorem cut2_ok : cut2.holds (acall Tryz.prog (offH hk1 146) 1000) 146 = true := by kernel_rfl

theorem cut8_ok : cut8.holds (acall Tryz.prog (offH hk7 146) 1000) 146 = true := by kernel_rfl

theorem cut14_ok : cut14.holds (acall Tryz.prog (offH hk13 4) 1000) 4 = true := by kernel_rfl

theorem cut20_ok : cut20.holds (acall Tryz.prog (offH hk19 148) 1000) 148 = true := by kernel_rfl

theorem cut26_ok : cut26.holds (acall Tryz.prog (offH hk25 146) 1000) 146 = true := by kernel_rfl

theorem cut32_ok : cut32.holds (acall Tryz.prog (offH hk31 76) 1000) 76 = true := by kernel_rfl

theorem cut38_ok : cut38.holds (acall Tryz.prog (offH hk37 9) 1000) 9 = true := by kernel_rfl

theorem cut44_ok : cut44.holds (acall Tryz.prog (offH hk43 146) 1000) 146 = true := by kernel_rfl

theorem cut50_ok : cut50.holds (acall Tryz.prog (offH hk49 4) 1000) 4 = true := by kernel_rfl

end Go.Proofs.YtccmopkjkmpaaaaGreatDoor
