/-
  The closed facts of the row QueueNobody, each reckoned apart.
-/
import Derived.Test.YthhflooehdhkhaaGreatDoorCards
import Derived.Test.YthhflooehdhkhaaGreatDoorTie
import Derived.ChangeMaps5
import Derived.Lib.SmallJoins
namespace Go.Proofs.YthhflooehdhkhaaGreatDoor
open Go Go.Proofs Go.Joins
theorem j1 : (Rows.queueNobodyRow.inPlace == Tryz.prog.inPlace 3) = true := by kernel_rfl
theorem j2 : (Rows.queueNobodyRow.unfollowed == Tryz.prog.unfollowed 3) = true := by kernel_rfl
theorem j3 : (Rows.queueNobodyRow.recurses == Tryz.prog.recurses 3) = true := by kernel_rfl
theorem j4 : (Rows.queueNobodyRow.named == Tryz.prog.varsNamed 3) = true := by kernel_rfl
theorem j5 : laidOutB Tryz.prog = true := by kernel_rfl
theorem j0 : joinedFacts Tryz.prog 3 Tryz.f3 Rows.queueNobodySpec Rows.queueNobodyRow = true := by
  unfold joinedFacts
  rw [j1, j2, j3, j4, j5]
  kernel_rfl
end Go.Proofs.YthhflooehdhkhaaGreatDoor
