/-
  One closed fact of the row, by itself: its layout.
-/
import Derived.Test.YtjjopoigbonjbaaGreatDoorRows
import Derived.KernelRfl
import Derived.JoinedOf
namespace Go.Proofs.YtjjopoigbonjbaaGreatDoor.houseTexts
theorem k_laid : laidOutB Tryz.prog = true := by kernel_rfl
end Go.Proofs.YtjjopoigbonjbaaGreatDoor.houseTexts
