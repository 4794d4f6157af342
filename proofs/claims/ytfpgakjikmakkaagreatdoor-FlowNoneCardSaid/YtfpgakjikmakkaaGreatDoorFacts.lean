/-
  The closed facts of the row FlowNone, each reckoned apart.
-/
import Derived.Test.YtfpgakjikmakkaaGreatDoorCards
import Derived.Test.YtfpgakjikmakkaaGreatDoorTie
import Derived.ChangeMaps5
import Derived.Lib.SmallJoins
namespace Go.Proofs.YtfpgakjikmakkaaGreatDoor
open Go Go.Proofs Go.Joins
theorem j1 : (Rows.flowNoneRow.inPlace == Tryz.prog.inPlace 3) = true := by kernel_rfl
theorem j2 : (Rows.flowNoneRow.unfollowed == Tryz.prog.unfollowed 3) = true := by kernel_rfl
theorem j3 : (Rows.flowNoneRow.recurses == Tryz.prog.recurses 3) = true := by kernel_rfl
theorem j4 : (Rows.flowNoneRow.named == Tryz.prog.varsNamed 3) = true := by kernel_rfl
theorem j5 : laidOutB Tryz.prog = true := by kernel_rfl
theorem j0 : joinedFacts Tryz.prog 3 Tryz.f3 Rows.flowNoneSpec Rows.flowNoneRow = true := by
  unfold joinedFacts
  rw [j1, j2, j3, j4, j5]
  kernel_rfl
end Go.Proofs.YtfpgakjikmakkaaGreatDoor
