/-
  One closed fact of the row, by itself: its layout.
-/
import Derived.Test.YtlgoilobdiimeaaGreatDoorRows
import Derived.KernelRfl
import Derived.JoinedOf
namespace Go.Proofs.YtlgoilobdiimeaaGreatDoor.worldNone
theorem k_laid : laidOutB Tryz.prog = true := by kernel_rfl
end Go.Proofs.YtlgoilobdiimeaaGreatDoor.worldNone
