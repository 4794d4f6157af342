/-
  The closed facts of the row BatchNobody, each reckoned apart.
-/
import Derived.Test.YtecndioipoodiaaGreatDoorCards
import Derived.Test.YtecndioipoodiaaGreatDoorTie
import Derived.ChangeMaps5
import Derived.Lib.SmallJoins
namespace Go.Proofs.YtecndioipoodiaaGreatDoor
open Go Go.Proofs Go.Joins
theorem j1 : (Rows.batchNobodyRow.inPlace == Tryz.prog.inPlace 3) = true := by kernel_rfl
theorem j2 : (Rows.batchNobodyRow.unfollowed == Tryz.prog.unfollowed 3) = true := by kernel_rfl
theorem j3 : (Rows.batchNobodyRow.recurses == Tryz.prog.recurses 3) = true := by kernel_rfl
theorem j4 : (Rows.batchNobodyRow.named == Tryz.prog.varsNamed 3) = true := by kernel_rfl
theorem j5 : laidOutB Tryz.prog = true := by kernel_rfl
theorem j0 : joinedFacts Tryz.prog 3 Tryz.f3 Rows.batchNobodySpec Rows.batchNobodyRow = true := by
  unfold joinedFacts
  rw [j1, j2, j3, j4, j5]
  kernel_rfl
end Go.Proofs.YtecndioipoodiaaGreatDoor
