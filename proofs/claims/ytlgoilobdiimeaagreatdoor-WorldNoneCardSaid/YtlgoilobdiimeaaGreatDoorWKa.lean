/-
  One closed fact of the row, by itself: its calls in place.
-/
import Derived.Test.YtlgoilobdiimeaaGreatDoorRows
import Derived.KernelRfl
import Derived.JoinedOf
namespace Go.Proofs.YtlgoilobdiimeaaGreatDoor.worldNone
theorem k_inPlace : (Rows.worldNoneRow.inPlace == Tryz.prog.inPlace 3) = true := by kernel_rfl
end Go.Proofs.YtlgoilobdiimeaaGreatDoor.worldNone
