/-
  One closed fact of the row, by itself: its calls that no list follows.
-/
import Derived.Test.YtfeoonkdmibndaaGreatDoorRows
import Derived.KernelRfl
import Derived.JoinedOf
namespace Go.Proofs.YtfeoonkdmibndaaGreatDoor.nodeNone
theorem k_unfollowed : (Rows.nodeNoneRow.unfollowed == Tryz.prog.unfollowed 3) = true := by kernel_rfl
end Go.Proofs.YtfeoonkdmibndaaGreatDoor.nodeNone
