/-
  One closed fact of the row, by itself: its calls that come round.
-/
import Derived.Test.YtjjopoigbonjbaaGreatDoorRows
import Derived.KernelRfl
import Derived.JoinedOf
namespace Go.Proofs.YtjjopoigbonjbaaGreatDoor.houseTexts
theorem k_recurses : (Rows.houseTextsUptoRow.recurses == Tryz.prog.recurses 3) = true := by kernel_rfl
end Go.Proofs.YtjjopoigbonjbaaGreatDoor.houseTexts
