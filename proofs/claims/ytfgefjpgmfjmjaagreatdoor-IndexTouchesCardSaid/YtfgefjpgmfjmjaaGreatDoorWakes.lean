/- The law's 'wakes' gives true: decided by the machine. -/
import Derived.Test.YtfgefjpgmfjmjaaGreatDoorTabs
namespace Go.Proofs.YtfgefjpgmfjmjaaGreatDoor
open Go Go.Abs Go.RowKit

theorem wakes_told : toldTrue (runCall tabs 100000 8 []) = true := by kernel_rfl
theorem wakes_calls (w : World) : Calls Tryz.prog 8 #[] w fun e w' => e = .returned (.bool true) ∧ Below w.heap.size w w' :=
  runCall_true tabs_ok (by rw [tabs_glob]; exact Nat.zero_le _) wakes_told
#print axioms wakes_calls
end Go.Proofs.YtfgefjpgmfjmjaaGreatDoor
