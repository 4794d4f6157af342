/-
  Checks of cuts. Printed by wip/tool/mkcuts5.py.
-/
import Derived.Test.YtccmopkjkmpaaaaGreatDoorMCutDefs
namespace Go.Proofs.YtccmopkjkmpaaaaGreatDoor
open Go Go.Ab Go.Proofs
set_option linter.unusedVariables false
set_option maxRecDepth 100000

theorem mcut1_ok : mcut1.holds (acall Tryz.prog (offH hkW 84) 1000) 84 = true := by kernel_rfl

theorem mcut3_ok : mcut3.holds (acall Tryz.prog (offH mhk2 30) 1000) 30 = true := by kernel_rfl

theorem mcut5_ok : mcut5.holds (acall Tryz.prog (offH mhk4 15) 1000) 15 = true := by kernel_rfl

end Go.Proofs.YtccmopkjkmpaaaaGreatDoor
