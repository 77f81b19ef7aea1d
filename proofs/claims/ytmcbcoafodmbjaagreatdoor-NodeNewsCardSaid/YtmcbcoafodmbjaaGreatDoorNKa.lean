/-
  One closed fact of the row, by itself: its calls in place.
-/
import Derived.Test.YtmcbcoafodmbjaaGreatDoorRows
import Derived.KernelRfl
import Derived.JoinedOf
namespace Go.Proofs.YtmcbcoafodmbjaaGreatDoor.nodeNews
theorem k_inPlace : (Rows.nodeNewsRow.inPlace == Tryz.prog.inPlace 3) = true := by kernel_rfl
end Go.Proofs.YtmcbcoafodmbjaaGreatDoor.nodeNews
