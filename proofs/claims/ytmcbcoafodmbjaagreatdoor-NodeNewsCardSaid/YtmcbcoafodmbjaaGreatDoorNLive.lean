/-
  The example that a great law begins with is so: reckoned by the kernel; the names that come up stand in a table.
-/
import Derived.Test.YtmcbcoafodmbjaaGreatDoorJoin22
namespace Go.Proofs.YtmcbcoafodmbjaaGreatDoor.Ex
open Go Go.Proofs Go.RowKit
set_option linter.unusedVariables false
def inpN0 : List UInt8 := [0, 0, 0, 0, 0, 0, 0, 0, 0, 0, 0, 0, 0, 0, 0, 0, 0, 0, 0, 0, 0, 0, 0, 0, 0, 0, 0, 0, 0, 0, 0, 0, 0, 0, 0, 0, 0, 0, 0, 0, 0, 0, 0, 0, 0, 1, 103]
def outN0 : List UInt8 := [203, 109, 143, 15, 131, 183, 166, 253, 241, 41, 10, 209, 213, 197, 38, 87, 104, 174, 22, 216, 156, 248, 126, 120, 122, 97, 242, 60, 73, 145, 77, 166]
theorem shaN0 : sha inpN0 = outN0 := by decide +kernel
def inpN1 : List UInt8 := [0, 0, 203, 109, 143, 15, 131, 183, 166, 253, 241, 41, 10, 209, 213, 197, 38, 87, 104, 174, 22, 216, 156, 248, 126, 120, 122, 97, 242, 60, 73, 145, 77, 166, 0, 0, 0, 0, 0, 0, 0, 1, 0, 0, 0, 1, 97]
def outN1 : List UInt8 := [219, 38, 96, 178, 95, 148, 250, 163, 222, 173, 30, 65, 137, 33, 145, 18, 227, 49, 42, 84, 169, 77, 83, 232, 43, 157, 219, 162, 41, 168, 249, 113]
theorem shaN1 : sha inpN1 = outN1 := by decide +kernel
def inpN2 : List UInt8 := [0, 0, 0, 47, 0, 0, 0, 0, 0, 0, 0, 1, 0, 0, 203, 109, 143, 15, 131, 183, 166, 253, 241, 41, 10, 209, 213, 197, 38, 87, 104, 174, 22, 216, 156, 248, 126, 120, 122, 97, 242, 60, 73, 145, 77, 166, 0, 0, 0, 0, 0, 0, 0, 1, 0, 0, 0, 1, 97]
def outN2 : List UInt8 := [236, 57, 200, 92, 205, 141, 0, 147, 128, 123, 42, 144, 153, 229, 241, 32, 137, 50, 182, 2, 239, 58, 163, 244, 81, 150, 197, 151, 167, 42, 109, 164]
theorem shaN2 : sha inpN2 = outN2 := by decide +kernel
def tabN : Tab := [(inpN0, outN0), (inpN1, outN1), (inpN2, outN2)]
theorem tabN_ok : TabOK tabN := by
  intro p hp
  simp only [tabN, List.mem_cons, List.not_mem_nil, or_false] at hp
  rcases hp with rfl | rfl | rfl
  · exact ⟨shaN0, by decide⟩
  · exact ⟨shaN1, by decide⟩
  · exact ⟨shaN2, by decide⟩
theorem liveN_reckoned : isTrue (go CK (extT tabN) 100000 60 (.fn 4) [] ⟨.leaf, 0⟩) = true := by kernel_rfl
theorem liveN_any (w : World) (hc : Cubes w) : callE Tryz.prog 4 #[] w fun v w' => v = .bool true ∧ Below w.heap.size w w' := by
  obtain ⟨st, h⟩ := isTrue_inv liveN_reckoned
  exact call_none ctx_ok (fun _ => rfl) (ext_ok tabN_ok hc) h rfl LR.nil
end Go.Proofs.YtmcbcoafodmbjaaGreatDoor.Ex
