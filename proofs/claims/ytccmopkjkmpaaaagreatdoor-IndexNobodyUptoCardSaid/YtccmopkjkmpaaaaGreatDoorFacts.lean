/-
  The closed facts of the row IndexNobodyUpto, each reckoned apart.
-/
import Derived.Test.YtccmopkjkmpaaaaGreatDoorCards
import Derived.Test.YtccmopkjkmpaaaaGreatDoorTie
import Derived.ChangeMaps5
import Derived.Lib.SmallJoins
namespace Go.Proofs.YtccmopkjkmpaaaaGreatDoor
open Go Go.Proofs Go.Joins
theorem j1 : (Rows.indexNobodyUptoRow.inPlace == Tryz.prog.inPlace 3) = true := by kernel_rfl
theorem j2 : (Rows.indexNobodyUptoRow.unfollowed == Tryz.prog.unfollowed 3) = true := by kernel_rfl
theorem j3 : (Rows.indexNobodyUptoRow.recurses == Tryz.prog.recurses 3) = true := by kernel_rfl
theorem j4 : (Rows.indexNobodyUptoRow.named == Tryz.prog.varsNamed 3) = true := by kernel_rfl
theorem j5 : laidOutB Tryz.prog = true := by kernel_rfl
theorem j0 : joinedFacts Tryz.prog 3 Tryz.f3 (Rows.OpenSpec.upto Rows.indexNobodySpec).bare Rows.indexNobodyUptoRow = true := by
  unfold joinedFacts
  rw [j1, j2, j3, j4, j5]
  kernel_rfl
end Go.Proofs.YtccmopkjkmpaaaaGreatDoor
