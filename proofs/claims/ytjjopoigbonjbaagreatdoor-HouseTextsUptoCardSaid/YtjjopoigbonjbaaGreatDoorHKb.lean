/-
  One closed fact of the row, by itself: its calls that no list follows.
-/
import Derived.Test.YtjjopoigbonjbaaGreatDoorRows
import Derived.KernelRfl
import Derived.JoinedOf
namespace Go.Proofs.YtjjopoigbonjbaaGreatDoor.houseTexts
theorem k_unfollowed : (Rows.houseTextsUptoRow.unfollowed == Tryz.prog.unfollowed 3) = true := by kernel_rfl
end Go.Proofs.YtjjopoigbonjbaaGreatDoor.houseTexts
