/-
  The closed facts of the row DeskWords, each reckoned apart.
-/
import Derived.Test.YtjgionikigpdmaaGreatDoorCards
import Derived.Test.YtjgionikigpdmaaGreatDoorTie
import Derived.ChangeMaps5
import Derived.Lib.SmallJoins
namespace Go.Proofs.YtjgionikigpdmaaGreatDoor
open Go Go.Proofs Go.Joins
theorem j1 : (Rows.deskWordsRow.inPlace == Tryz.prog.inPlace 3) = true := by kernel_rfl
theorem j2 : (Rows.deskWordsRow.unfollowed == Tryz.prog.unfollowed 3) = true := by kernel_rfl
theorem j3 : (Rows.deskWordsRow.recurses == Tryz.prog.recurses 3) = true := by kernel_rfl
theorem j4 : (Rows.deskWordsRow.named == Tryz.prog.varsNamed 3) = true := by kernel_rfl
theorem j5 : laidOutB Tryz.prog = true := by kernel_rfl
theorem j0 : joinedFacts Tryz.prog 3 Tryz.f3 Rows.deskWordsSpec Rows.deskWordsRow = true := by
  unfold joinedFacts
  rw [j1, j2, j3, j4, j5]
  kernel_rfl
end Go.Proofs.YtjgionikigpdmaaGreatDoor
