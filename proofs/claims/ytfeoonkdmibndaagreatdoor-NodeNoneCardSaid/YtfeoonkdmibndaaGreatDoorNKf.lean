/-
  One closed fact of the row, by itself: its maps.
-/
import Derived.Test.YtfeoonkdmibndaaGreatDoorRows
import Derived.KernelRfl
import Derived.JoinedOf
namespace Go.Proofs.YtfeoonkdmibndaaGreatDoor.nodeNone
theorem k_maps : mapsRowed Tryz.prog = true := by kernel_rfl
end Go.Proofs.YtfeoonkdmibndaaGreatDoor.nodeNone
