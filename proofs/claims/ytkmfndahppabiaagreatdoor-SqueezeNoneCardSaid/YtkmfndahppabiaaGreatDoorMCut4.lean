/-
  Checks of cuts. Printed by wip/tool/mkcuts5.py.
-/
import Derived.Test.YtkmfndahppabiaaGreatDoorMCutDefs
namespace Go.Proofs.YtkmfndahppabiaaGreatDoor
open Go Go.Ab Go.Proofs
set_option linter.unusedVariables false
set_option maxRecDepth 100000

theorem mcut4_ok : mcut4.holds (acall Tryz.prog mhk3 1000) 7 = true := by kernel_rfl

theorem mcut8_ok : mcut8.holds (acall Tryz.prog mhk7 1000) 26 = true := by kernel_rfl

end Go.Proofs.YtkmfndahppabiaaGreatDoor
