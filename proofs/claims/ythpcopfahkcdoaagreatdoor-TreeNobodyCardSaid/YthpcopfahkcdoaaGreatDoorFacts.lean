/-
  The closed facts of the row TreeNobody, each reckoned apart.
-/
import Derived.Test.YthpcopfahkcdoaaGreatDoorCards
import Derived.Test.YthpcopfahkcdoaaGreatDoorTie
import Derived.ChangeMaps5
import Derived.Lib.SmallJoins
namespace Go.Proofs.YthpcopfahkcdoaaGreatDoor
open Go Go.Proofs Go.Joins
theorem j1 : (Rows.treeNobodyRow.inPlace == Tryz.prog.inPlace 3) = true := by kernel_rfl
theorem j2 : (Rows.treeNobodyRow.unfollowed == Tryz.prog.unfollowed 3) = true := by kernel_rfl
theorem j3 : (Rows.treeNobodyRow.recurses == Tryz.prog.recurses 3) = true := by kernel_rfl
theorem j4 : (Rows.treeNobodyRow.named == Tryz.prog.varsNamed 3) = true := by kernel_rfl
theorem j5 : laidOutB Tryz.prog = true := by kernel_rfl
theorem j0 : joinedFacts Tryz.prog 3 Tryz.f3 Rows.treeNobodySpec Rows.treeNobodyRow = true := by
  unfold joinedFacts
  rw [j1, j2, j3, j4, j5]
  kernel_rfl
end Go.Proofs.YthpcopfahkcdoaaGreatDoor
