/-
  Checks of cuts. Printed by wip/tool/mkcuts5.py.
-/
import Derived.Test.YtccmopkjkmpaaaaGreatDoorCutDefs
namespace Go.Proofs.YtccmopkjkmpaaaaGreatDoor
open Go Go.Ab Go.Proofs
set_option linter.unusedVariables false
set_option maxRecDepth 100000

theorem cut3_ok : cut3.holds (acall Tryz.prog (offH hk2 4) 1000) 4 = true := by kernel_rfl

theorem cut9_ok : cut9.holds (acall Tryz.prog (offH hk8 148) 1000) 148 = true := by kernel_rfl

theorem cut15_ok : cut15.holds (acall Tryz.prog (offH hk14 146) 1000) 146 = true := by kernel_rfl

theorem cut21_ok : cut21.holds (acall Tryz.prog (offH hk20 76) 1000) 76 = true := by kernel_rfl

theorem cut27_ok : cut27.holds (acall Tryz.prog (offH hk26 148) 1000) 148 = true := by kernel_rfl

theorem cut33_ok : cut33.holds (acall Tryz.prog (offH hk32 28) 1000) 28 = true := by kernel_rfl

theorem cut39_ok : cut39.holds (acall Tryz.prog (offH hk38 146) 1000) 146 = true := by kernel_rfl

theorem cut45_ok : cut45.holds (acall Tryz.prog (offH hk44 146) 1000) 146 = true := by kernel_rfl

theorem cut51_ok : cut51.holds (acall Tryz.prog (offH hk50 20) 1000) 20 = true := by kernel_rfl

end Go.Proofs.YtccmopkjkmpaaaaGreatDoor
