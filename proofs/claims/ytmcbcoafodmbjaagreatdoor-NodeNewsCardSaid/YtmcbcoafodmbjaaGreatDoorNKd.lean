/-
  One closed fact of the row, by itself: its variables that are named.
-/
import Derived.Test.YtmcbcoafodmbjaaGreatDoorRows
import Derived.KernelRfl
import Derived.JoinedOf
namespace Go.Proofs.YtmcbcoafodmbjaaGreatDoor.nodeNews
theorem k_named : (Rows.nodeNewsRow.named == Tryz.prog.varsNamed 3) = true := by kernel_rfl
end Go.Proofs.YtmcbcoafodmbjaaGreatDoor.nodeNews
