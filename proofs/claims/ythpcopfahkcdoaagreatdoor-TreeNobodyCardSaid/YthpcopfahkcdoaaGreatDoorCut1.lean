/-
  Checks of cuts. Printed by wip/tool/mkcuts5.py.
-/
import Derived.Test.YthpcopfahkcdoaaGreatDoorCutDefs
namespace Go.Proofs.YthpcopfahkcdoaaGreatDoor
open Go Go.Ab Go.Proofs
set_option linter.unusedVariables false
set_option maxRecDepth 100000

theorem cut1_ok : cut1.holds (acall Tryz.prog hkB 400) 10 = true := by kernel_rfl

theorem cut5_ok : cut5.holds (acall Tryz.prog hk4 400) 4 = true := by kernel_rfl

end Go.Proofs.YthpcopfahkcdoaaGreatDoor
