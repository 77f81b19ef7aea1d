/-
  One closed fact of the row, by itself: its calls that come round.
-/
import Derived.Test.YtfeoonkdmibndaaGreatDoorRows
import Derived.KernelRfl
import Derived.JoinedOf
namespace Go.Proofs.YtfeoonkdmibndaaGreatDoor.nodeNone
theorem k_recurses : (Rows.nodeNoneRow.recurses == Tryz.prog.recurses 3) = true := by kernel_rfl
end Go.Proofs.YtfeoonkdmibndaaGreatDoor.nodeNone
