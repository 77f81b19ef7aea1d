/-
  One closed fact of the row, by itself: its calls that come round.
-/
import Derived.Test.YtlgoilobdiimeaaGreatDoorRows
import Derived.KernelRfl
import Derived.JoinedOf
namespace Go.Proofs.YtlgoilobdiimeaaGreatDoor.worldNone
theorem k_recurses : (Rows.worldNoneRow.recurses == Tryz.prog.recurses 3) = true := by kernel_rfl
end Go.Proofs.YtlgoilobdiimeaaGreatDoor.worldNone
