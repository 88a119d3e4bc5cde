/- Closed facts of the row of IndexTouches. -/
import Derived.Test.YtfgefjpgmfjmjaaGreatDoorRows
import Derived.JoinedOf
import Derived.KernelRfl
import Derived.Test.YtfgefjpgmfjmjaaGreatDoorIxFacts
namespace Go.Proofs.YtfgefjpgmfjmjaaGreatDoor
open Go

theorem liftsTouches : (Rows.indexTouchesRow.lifted == Tryz.pinned.checked.prog.liftsFinal) = true := by kernel_rfl
theorem makeTouches : (Tryz.pinned.checked.prog.make == some Rows.indexTouchesRow.make) = true := by kernel_rfl
theorem inPlaceTouches : (Rows.indexTouchesRow.inPlace == Tryz.pinned.checked.prog.inPlace 6) = true := by kernel_rfl
theorem unfollowedTouches : (Rows.indexTouchesRow.unfollowed == Tryz.pinned.checked.prog.unfollowed 6) = true := by kernel_rfl
theorem recursesTouches : (Rows.indexTouchesRow.recurses == Tryz.pinned.checked.prog.recurses 6) = true := by kernel_rfl
theorem namedTouches : (Rows.indexTouchesRow.named == Tryz.pinned.checked.prog.varsNamed 6) = true := by kernel_rfl
theorem factsTouches : joinedFacts Tryz.pinned.checked.prog 6 Tryz.f6 Rows.indexTouchesSpec Rows.indexTouchesRow = true := by
  unfold joinedFacts
  refine both (both (both (both (both (both (both (both (both (both (both (both (both (both (both (both (both (both (both (both (both (both (both (both (both (both (both (both (both (both (both ?_ laidOut) mapsRowed_ok) ?_) ?_) ?_) ?_) ?_) ?_) inPlaceTouches) unfollowedTouches) recursesTouches) namedTouches) ?_) ?_) ?_) ?_) ?_) ?_) ?_) ?_) ?_) ?_) ?_) stopsHeard_ok) mayEnter_ok) liftsTouches) makeTouches) ?_) ?_) ?_) ?_
  all_goals kernel_rfl
end Go.Proofs.YtfgefjpgmfjmjaaGreatDoor
