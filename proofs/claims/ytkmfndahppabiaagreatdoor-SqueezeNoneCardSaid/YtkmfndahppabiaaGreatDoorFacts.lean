/-
  The closed facts of the row SqueezeNone, each reckoned apart.
-/
import Derived.Test.YtkmfndahppabiaaGreatDoorCards
import Derived.Test.YtkmfndahppabiaaGreatDoorTie
import Derived.ChangeMaps5
import Derived.Lib.SmallJoins
namespace Go.Proofs.YtkmfndahppabiaaGreatDoor
open Go Go.Proofs Go.Joins
theorem j1 : (Rows.squeezeNoneRow.inPlace == Tryz.prog.inPlace 3) = true := by kernel_rfl
theorem j2 : (Rows.squeezeNoneRow.unfollowed == Tryz.prog.unfollowed 3) = true := by kernel_rfl
theorem j3 : (Rows.squeezeNoneRow.recurses == Tryz.prog.recurses 3) = true := by kernel_rfl
theorem j4 : (Rows.squeezeNoneRow.named == Tryz.prog.varsNamed 3) = true := by kernel_rfl
theorem j5 : laidOutB Tryz.prog = true := by kernel_rfl
theorem j0 : joinedFacts Tryz.prog 3 Tryz.f3 Rows.squeezeNoneSpec Rows.squeezeNoneRow = true := by
  unfold joinedFacts
  rw [j1, j2, j3, j4, j5]
  kernel_rfl
end Go.Proofs.YtkmfndahppabiaaGreatDoor
