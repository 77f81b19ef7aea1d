/-
  'begun' answers yes: the program's sum of abc in digits is the known one.
-/
import Derived.Test.YtlhlfodmcffeoaaDoorHexed
import Derived.Lib.SlBytesConst
namespace Go.Proofs.YtlhlfodmcffeoaaDoor
open Go.RowKit
set_option linter.unusedVariables false
set_option linter.unusedSimpArgs false
set_option maxRecDepth 10000
theorem hex_abc : hexOf (sha [97, 98, 99]) = [98, 97, 55, 56, 49, 54, 98, 102, 56, 102, 48, 49, 99, 102, 101, 97, 52, 49, 52, 49, 52, 48, 100, 101, 53, 100, 97, 101, 50, 50, 50, 51, 98, 48, 48, 51, 54, 49, 97, 51, 57, 54, 49, 55, 55, 97, 57, 99, 98, 52, 49, 48, 102, 102, 54, 49, 102, 50, 48, 48, 49, 53, 97, 100] := by decide +kernel
theorem begun_any (w : World) (hC : Cubes w) : callE Tryd.prog 11 #[] w fun v w' => v = .bool true ∧ Below w.heap.size w w' := by
  refine calls_E Tryd.func11 rfl rfl rfl (Nat.le_of_ble_eq_true rfl) ?_
  simp [go_sem, IntWalk.iteOmega, IntWalk.toNatUp, Lib.run_convert_bytes_const (P := Tryd.prog) w 29 5 #[.int .u8 97, .int .u8 98, .int .u8 99] 3 3 Tryd.underlying29 Tryd.underlying5]
  refine callE_at fun W hW => ?_
  have hB : Below w.heap.size w W := by rw [hW]; exact ext_alloc _ _
  have hlt : w.heap.size < W.heap.size := by rw [hW]; simp
  have hc : ∀ j, W.cell? ⟨w.heap.size, j, none⟩ = (#[Value.int .u8 97, Value.int .u8 98, Value.int .u8 99] : Array Value)[j]? := fun j => by
    have h : W.heap[w.heap.size]? = some (.cells #[Value.int .u8 97, Value.int .u8 98, Value.int .u8 99] 5 (3, 4)) := by rw [hW, hp_alloc, if_pos rfl]
    simp [World.cell?, h]
  clear hW
  refine callE_of (shaSum_any _ [97, 98, 99] W ⟨_, 3, rfl, ⟨rfl, fun _ => ⟨_, 0, rfl, hlt, fun j u hu => by rw [hc]; simpa [bl] using hu⟩⟩, (fun h => nomatch h), by simp, by omega⟩ (hC.keep hB) (by simp)) ?_
  rintro v w1 ⟨rfl, hB1⟩
  simp [go_sem, IntWalk.iteOmega, IntWalk.toNatUp]
  refine callE_of (hex_any (sha [97, 98, 99]) w1 (sha_length _)) ?_
  rintro v w2 ⟨rfl, hB2⟩
  rw [hex_abc]
  simp [go_sem, IntWalk.iteOmega, IntWalk.toNatUp]

  exact ext_trans (ext_trans hB hB1) hB2
end Go.Proofs.YtlhlfodmcffeoaaDoor
