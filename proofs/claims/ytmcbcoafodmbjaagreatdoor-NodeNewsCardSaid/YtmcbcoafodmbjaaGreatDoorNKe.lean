/-
  One closed fact of the row, by itself: its layout.
-/
import Derived.Test.YtmcbcoafodmbjaaGreatDoorRows
import Derived.KernelRfl
import Derived.JoinedOf
namespace Go.Proofs.YtmcbcoafodmbjaaGreatDoor.nodeNews
theorem k_laid : laidOutB Tryz.prog = true := by kernel_rfl
end Go.Proofs.YtmcbcoafodmbjaaGreatDoor.nodeNews
