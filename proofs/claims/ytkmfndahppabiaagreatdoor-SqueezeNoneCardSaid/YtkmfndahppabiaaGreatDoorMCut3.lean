/-
  Checks of cuts. Printed by wip/tool/mkcuts5.py.
-/
import Derived.Test.YtkmfndahppabiaaGreatDoorMCutDefs
namespace Go.Proofs.YtkmfndahppabiaaGreatDoor
open Go Go.Ab Go.Proofs
set_option linter.unusedVariables false
set_option maxRecDepth 100000

theorem mcut3_ok : mcut3.holds (acall Tryz.prog mhk2 1000) 19 = true := by kernel_rfl

theorem mcut7_ok : mcut7.holds (acall Tryz.prog mhk6 1000) 8 = true := by kernel_rfl

end Go.Proofs.YtkmfndahppabiaaGreatDoor
