/-
  NodeNone: the rest of its code, reckoned by the kernel: whatever the event, the name and the place are.
-/
import Derived.Test.YtfeoonkdmibndaaGreatDoorNLive
namespace Go.Proofs.YtfeoonkdmibndaaGreatDoor.Ex
open Go Go.Proofs Go.RowKit
set_option linter.unusedVariables false
set_option linter.unusedSimpArgs false
noncomputable def restC : Code := match Tryz.f3.body with
  | some (.seq _ (.seq _ b)) => b
  | _ => .skip
/-- An event, a name of which nothing is known. -/
def evL : List Value := [anyV, anyV, anyV, anyV, anyV]
def idA : List Value := List.replicate 32 anyV
noncomputable def st0R : St := ⟨Tr.set (Tr.set .leaf 0 (.cells evL 25 .exact)) 1 (.cells idA 27 .exact), 2⟩
noncomputable def ptR (b o : Nat) : Value := .pointer (some ⟨b, o, none⟩)
noncomputable def slR : Sl :=
  (((((((((((((((((argsA [.agg ⟨evL⟩, .agg ⟨idA⟩, anyV] 0 .leaf).set 3 (ptR 0 0)).set 4 (ptR 1 0)).set 6 (.bool false)).set 19 (.bool true)).set 20 (.bool false)).set 21 (.bool false)).set 22 (ptR 0 3)).set 23 anyV).set 24 anyV).set 25 (.bool false)).set 26 (.bool false)).set 27 (.bool false)).set 28 (ptR 0 4)).set 29 anyV).set 30 anyV).set 31 (.bool false)).set 32 (.bool false)
theorem rest_reckoned : goodR (execC CK (go CK (extT tabN) 100000 60) 100000 3 167 false restC ⟨slR, st0R, []⟩) 6 = true := by kernel_rfl
end Go.Proofs.YtfeoonkdmibndaaGreatDoor.Ex
