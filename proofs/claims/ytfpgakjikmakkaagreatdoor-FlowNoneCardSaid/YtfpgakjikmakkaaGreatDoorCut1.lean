/-
  Checks of cuts. Printed by wip/tool/mkcuts5.py.
-/
import Derived.Test.YtfpgakjikmakkaaGreatDoorCutDefs
namespace Go.Proofs.YtfpgakjikmakkaaGreatDoor
open Go Go.Ab Go.Proofs
set_option linter.unusedVariables false
set_option maxRecDepth 100000

theorem cut1_ok : cut1.holds (acall Tryz.prog hkI 400) 10 = true := by kernel_rfl

theorem cut9_ok : cut9.holds (acall Tryz.prog hk8 400) 42 = true := by kernel_rfl

theorem cut17_ok : cut17.holds (acall Tryz.prog hk16 400) 12 = true := by kernel_rfl

theorem cut25_ok : cut25.holds (acall Tryz.prog hk24 400) 97 = true := by kernel_rfl

theorem cut33_ok : cut33.holds (acall Tryz.prog hk32 400) 80 = true := by kernel_rfl

theorem cut41_ok : cut41.holds (acall Tryz.prog hk40 400) 32 = true := by kernel_rfl

theorem cut49_ok : cut49.holds (acall Tryz.prog hk48 400) 12 = true := by kernel_rfl

end Go.Proofs.YtfpgakjikmakkaaGreatDoor
