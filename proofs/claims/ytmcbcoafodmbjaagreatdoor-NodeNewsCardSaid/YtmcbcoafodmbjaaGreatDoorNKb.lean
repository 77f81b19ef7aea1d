/-
  One closed fact of the row, by itself: its calls that no list follows.
-/
import Derived.Test.YtmcbcoafodmbjaaGreatDoorRows
import Derived.KernelRfl
import Derived.JoinedOf
namespace Go.Proofs.YtmcbcoafodmbjaaGreatDoor.nodeNews
theorem k_unfollowed : (Rows.nodeNewsRow.unfollowed == Tryz.prog.unfollowed 3) = true := by kernel_rfl
end Go.Proofs.YtmcbcoafodmbjaaGreatDoor.nodeNews
