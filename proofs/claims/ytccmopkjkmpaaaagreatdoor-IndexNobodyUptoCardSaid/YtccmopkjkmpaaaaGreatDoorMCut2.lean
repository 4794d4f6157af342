/-
  Checks of cuts. Printed by wip/tool/mkcuts5.py.
-/
import Derived.Test.YtccmopkjkmpaaaaGreatDoorMCutDefs
namespace Go.Proofs.YtccmopkjkmpaaaaGreatDoor
open Go Go.Ab Go.Proofs
set_option linter.unusedVariables false
set_option maxRecDepth 100000

theorem mcut2_ok : mcut2.holds (acall Tryz.prog (offH mhk1 50) 1000) 50 = true := by kernel_rfl

theorem mcut4_ok : mcut4.holds (acall Tryz.prog (offH mhk3 13) 1000) 13 = true := by kernel_rfl

end Go.Proofs.YtccmopkjkmpaaaaGreatDoor
