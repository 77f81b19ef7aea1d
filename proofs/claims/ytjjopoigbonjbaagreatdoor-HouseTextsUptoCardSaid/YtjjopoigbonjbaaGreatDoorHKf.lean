/-
  One closed fact of the row, by itself: its maps.
-/
import Derived.Test.YtjjopoigbonjbaaGreatDoorRows
import Derived.KernelRfl
import Derived.JoinedOf
namespace Go.Proofs.YtjjopoigbonjbaaGreatDoor.houseTexts
theorem k_maps : mapsRowed Tryz.prog = true := by kernel_rfl
end Go.Proofs.YtjjopoigbonjbaaGreatDoor.houseTexts
