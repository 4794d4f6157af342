/-
  Checks of cuts. Printed by wip/tool/mkcuts5.py.
-/
import Derived.Test.YtkmfndahppabiaaGreatDoorMCutDefs
namespace Go.Proofs.YtkmfndahppabiaaGreatDoor
open Go Go.Ab Go.Proofs
set_option linter.unusedVariables false
set_option maxRecDepth 100000

theorem mcut1_ok : mcut1.holds (acall Tryz.prog hkW 1000) 91 = true := by kernel_rfl

theorem mcut5_ok : mcut5.holds (acall Tryz.prog mhk4 1000) 215 = true := by kernel_rfl

theorem mcut9_ok : mcut9.holds (acall Tryz.prog mhk8 1000) 9 = true := by kernel_rfl

end Go.Proofs.YtkmfndahppabiaaGreatDoor
