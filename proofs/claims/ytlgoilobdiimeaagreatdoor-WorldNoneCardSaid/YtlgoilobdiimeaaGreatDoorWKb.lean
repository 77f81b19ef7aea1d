/-
  One closed fact of the row, by itself: its calls that no list follows.
-/
import Derived.Test.YtlgoilobdiimeaaGreatDoorRows
import Derived.KernelRfl
import Derived.JoinedOf
namespace Go.Proofs.YtlgoilobdiimeaaGreatDoor.worldNone
theorem k_unfollowed : (Rows.worldNoneRow.unfollowed == Tryz.prog.unfollowed 3) = true := by kernel_rfl
end Go.Proofs.YtlgoilobdiimeaaGreatDoor.worldNone
