/- Closed facts of the row of IndexFinds. -/
import Derived.Test.YtfgefjpgmfjmjaaGreatDoorRows
import Derived.JoinedOf
import Derived.KernelRfl
import Derived.Test.YtfgefjpgmfjmjaaGreatDoorIxFacts
namespace Go.Proofs.YtfgefjpgmfjmjaaGreatDoor
open Go

theorem liftsFinds : (Rows.indexFindsRow.lifted == Tryz.pinned.checked.prog.liftsFinal) = true := by kernel_rfl
theorem makeFinds : (Tryz.pinned.checked.prog.make == some Rows.indexFindsRow.make) = true := by kernel_rfl
theorem inPlaceFinds : (Rows.indexFindsRow.inPlace == Tryz.pinned.checked.prog.inPlace 5) = true := by kernel_rfl
theorem unfollowedFinds : (Rows.indexFindsRow.unfollowed == Tryz.pinned.checked.prog.unfollowed 5) = true := by kernel_rfl
theorem recursesFinds : (Rows.indexFindsRow.recurses == Tryz.pinned.checked.prog.recurses 5) = true := by kernel_rfl
theorem namedFinds : (Rows.indexFindsRow.named == Tryz.pinned.checked.prog.varsNamed 5) = true := by kernel_rfl
theorem factsFinds : joinedFacts Tryz.pinned.checked.prog 5 Tryz.f5 Rows.indexFindsSpec Rows.indexFindsRow = true := by
  unfold joinedFacts
  refine both (both (both (both (both (both (both (both (both (both (both (both (both (both (both (both (both (both (both (both (both (both (both (both (both (both (both (both (both (both (both ?_ laidOut) mapsRowed_ok) ?_) ?_) ?_) ?_) ?_) ?_) inPlaceFinds) unfollowedFinds) recursesFinds) namedFinds) ?_) ?_) ?_) ?_) ?_) ?_) ?_) ?_) ?_) ?_) ?_) stopsHeard_ok) mayEnter_ok) liftsFinds) makeFinds) ?_) ?_) ?_) ?_
  all_goals kernel_rfl
end Go.Proofs.YtfgefjpgmfjmjaaGreatDoor
