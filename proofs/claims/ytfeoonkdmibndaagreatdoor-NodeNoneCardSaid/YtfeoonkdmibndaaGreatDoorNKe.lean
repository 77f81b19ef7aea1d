/-
  One closed fact of the row, by itself: its layout.
-/
import Derived.Test.YtfeoonkdmibndaaGreatDoorRows
import Derived.KernelRfl
import Derived.JoinedOf
namespace Go.Proofs.YtfeoonkdmibndaaGreatDoor.nodeNone
theorem k_laid : laidOutB Tryz.prog = true := by kernel_rfl
end Go.Proofs.YtfeoonkdmibndaaGreatDoor.nodeNone
