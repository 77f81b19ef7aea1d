/-
  One closed fact of the row, by itself: its calls in place.
-/
import Derived.Test.YtjjopoigbonjbaaGreatDoorRows
import Derived.KernelRfl
import Derived.JoinedOf
namespace Go.Proofs.YtjjopoigbonjbaaGreatDoor.houseTexts
theorem k_inPlace : (Rows.houseTextsUptoRow.inPlace == Tryz.prog.inPlace 3) = true := by kernel_rfl
end Go.Proofs.YtjjopoigbonjbaaGreatDoor.houseTexts
