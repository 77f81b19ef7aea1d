/-
  One closed fact of the row, by itself: its maps.
-/
import Derived.Test.YtlgoilobdiimeaaGreatDoorRows
import Derived.KernelRfl
import Derived.JoinedOf
namespace Go.Proofs.YtlgoilobdiimeaaGreatDoor.worldNone
theorem k_maps : mapsRowed Tryz.prog = true := by kernel_rfl
end Go.Proofs.YtlgoilobdiimeaaGreatDoor.worldNone
