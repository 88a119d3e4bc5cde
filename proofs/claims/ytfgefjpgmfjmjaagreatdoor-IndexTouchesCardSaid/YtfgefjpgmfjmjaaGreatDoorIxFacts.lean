/- Closed facts of the program that every row asks. -/
import Derived.Test.YtfgefjpgmfjmjaaGreatDoorRows
import Derived.JoinedOf
import Derived.KernelRfl
namespace Go.Proofs.YtfgefjpgmfjmjaaGreatDoor
open Go

theorem laidOut : laidOutB Tryz.prog = true := by kernel_rfl
theorem mapsRowed_ok : mapsRowed Tryz.pinned.checked.prog = true := by kernel_rfl
theorem stopsHeard_ok : Tryz.pinned.checked.prog.stopsHeard = true := by kernel_rfl
theorem mayEnter_ok : Tryz.pinned.checked.prog.mayEnter = true := by kernel_rfl
theorem both {a b : Bool} (ha : a = true) (hb : b = true) : (a && b) = true := by rw [ha, hb]; rfl
end Go.Proofs.YtfgefjpgmfjmjaaGreatDoor
