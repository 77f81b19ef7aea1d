/-
  One closed fact of the row, by itself: its calls in place.
-/
import Derived.Test.YtfeoonkdmibndaaGreatDoorRows
import Derived.KernelRfl
import Derived.JoinedOf
namespace Go.Proofs.YtfeoonkdmibndaaGreatDoor.nodeNone
theorem k_inPlace : (Rows.nodeNoneRow.inPlace == Tryz.prog.inPlace 3) = true := by kernel_rfl
end Go.Proofs.YtfeoonkdmibndaaGreatDoor.nodeNone
