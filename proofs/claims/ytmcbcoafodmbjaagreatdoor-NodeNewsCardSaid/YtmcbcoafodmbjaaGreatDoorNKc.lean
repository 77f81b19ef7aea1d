/-
  One closed fact of the row, by itself: its calls that come round.
-/
import Derived.Test.YtmcbcoafodmbjaaGreatDoorRows
import Derived.KernelRfl
import Derived.JoinedOf
namespace Go.Proofs.YtmcbcoafodmbjaaGreatDoor.nodeNews
theorem k_recurses : (Rows.nodeNewsRow.recurses == Tryz.prog.recurses 3) = true := by kernel_rfl
end Go.Proofs.YtmcbcoafodmbjaaGreatDoor.nodeNews
