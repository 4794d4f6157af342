/-
  Checks of cuts. Printed by wip/tool/mkcuts5.py.
-/
import Derived.Test.YthpcopfahkcdoaaGreatDoorCutDefs
namespace Go.Proofs.YthpcopfahkcdoaaGreatDoor
open Go Go.Ab Go.Proofs
set_option linter.unusedVariables false
set_option maxRecDepth 100000

theorem cut2_ok : cut2.holds (acall Tryz.prog hk1 400) 29 = true := by kernel_rfl

end Go.Proofs.YthpcopfahkcdoaaGreatDoor
