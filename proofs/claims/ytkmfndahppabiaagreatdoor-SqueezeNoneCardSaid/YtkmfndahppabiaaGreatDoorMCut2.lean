/-
  Checks of cuts. Printed by wip/tool/mkcuts5.py.
-/
import Derived.Test.YtkmfndahppabiaaGreatDoorMCutDefs
namespace Go.Proofs.YtkmfndahppabiaaGreatDoor
open Go Go.Ab Go.Proofs
set_option linter.unusedVariables false
set_option maxRecDepth 100000

theorem mcut2_ok : mcut2.holds (acall Tryz.prog mhk1 1000) 26 = true := by kernel_rfl

theorem mcut6_ok : mcut6.holds (acall Tryz.prog mhk5 1000) 97 = true := by kernel_rfl

end Go.Proofs.YtkmfndahppabiaaGreatDoor
