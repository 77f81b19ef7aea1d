/-
  'ShaCompares' answers yes at any two names.
-/
import Derived.Test.YtlhlfodmcffeoaaDoorCompare
namespace Go.Proofs.YtlhlfodmcffeoaaDoor
open Go.RowKit
set_option linter.unusedVariables false
set_option linter.unusedSimpArgs false
set_option maxRecDepth 10000
theorem shaCompare_any (x y : List UInt8) (w : World) (hx : x.length = 32) (hy : y.length = 32) :
    callE Tryd.prog 12 #[.agg (bl x).toArray, .agg (bl y).toArray] w fun v w' => v = .int .i64 (Lib.compareBytes x y) ∧ Below w.heap.size w w' := by
  have x5 : (bl x).length = 32 := by rw [bl_length, hx]
  have y5 : (bl y).length = 32 := by rw [bl_length, hy]
  refine calls_E Tryd.func12 rfl rfl rfl (Nat.le_of_ble_eq_true rfl) ?_
  simp [go_sem, IntWalk.iteOmega, IntWalk.toNatUp, x5, y5]
  refine W_at fun W hW => ?_
  obtain ⟨b0, b1, hB, hS⟩ := news2 hW
  clear hW
  refine W_plan [(0, true), (1, true), (2, false), (3, true)] follows (by kernel_rfl) ?_
  simp [go_sem, IntWalk.iteOmega, IntWalk.toNatUp, x5, y5]
  have h := bytesCompare_any x y (some ⟨w.heap.size, 0, none⟩) (some ⟨w.heap.size + 1, 0, none⟩) 32 32 W.drew
    ⟨by rw [bl_length]; omega, fun _ => ⟨_, 0, rfl, b0.lt, fun j u hu => by rw [b0.drew.cell]; simpa using hu⟩⟩ ⟨by rw [bl_length]; omega, fun _ => ⟨_, 0, rfl, b1.lt, fun j u hu => by rw [b1.drew.cell]; simpa using hu⟩⟩
  rw [hx, hy] at h
  refine callE_of h ?_
  rintro v w1 ⟨rfl, rfl⟩
  simp [go_sem, IntWalk.iteOmega, IntWalk.toNatUp]
  exact hB.drew
theorem shaLess_any (x y : List UInt8) (w : World) (hx : x.length = 32) (hy : y.length = 32) :
    callE Tryd.prog 13 #[.agg (bl x).toArray, .agg (bl y).toArray] w fun v w' => v = .bool (decide (Lib.compareBytes x y < 0)) ∧ Below w.heap.size w w' := by
  have x5 : (bl x).length = 32 := by rw [bl_length, hx]
  have y5 : (bl y).length = 32 := by rw [bl_length, hy]
  refine calls_E Tryd.func13 rfl rfl rfl (Nat.le_of_ble_eq_true rfl) ?_
  simp [go_sem, IntWalk.iteOmega, IntWalk.toNatUp, x5, y5]
  generalize hW : (w.alloc (.cells (bl x).toArray 23)).alloc (.cells (bl y).toArray 23) = W
  obtain ⟨b0, b1, hB, hS⟩ := news2 hW.symm
  clear hW
  have z0 : readCells W ⟨w.heap.size, 0, none⟩ 0 32 = some (bl x) := readCells_all b0 32 (by simpa using x5)
  have z1 : readCells W ⟨w.heap.size + 1, 0, none⟩ 0 32 = some (bl y) := readCells_all b1 32 (by simpa using y5)
  simp [go_sem, IntWalk.iteOmega, IntWalk.toNatUp, x5, y5, z0, z1]
  refine callE_of (shaCompare_any x y W hx hy) ?_
  rintro v w1 ⟨rfl, hB1⟩
  simp [go_sem, IntWalk.iteOmega, IntWalk.toNatUp]
  exact ext_trans hB hB1
theorem shaCompares_any (x y : List UInt8) (w : World) (hx : x.length = 32) (hy : y.length = 32) (hC : Cubes w) :
    callE Tryd.prog 3 #[.agg (bl x).toArray, .agg (bl y).toArray] w fun v w' => v = .bool true ∧ Below w.heap.size w w' := by
  have x5 : (bl x).length = 32 := by rw [bl_length, hx]
  have y5 : (bl y).length = 32 := by rw [bl_length, hy]
  refine calls_E Tryd.func3 rfl rfl rfl (Nat.le_of_ble_eq_true rfl) ?_
  simp [go_sem, IntWalk.iteOmega, IntWalk.toNatUp, x5, y5]
  generalize hW : (w.alloc (.cells (bl x).toArray 23)).alloc (.cells (bl y).toArray 23) = W
  obtain ⟨b0, b1, hB, hS⟩ := news2 hW.symm
  clear hW
  replace hC := hC.keep hB
  have z0 : ∀ w', Below W.heap.size W w' → readCells w' ⟨w.heap.size, 0, none⟩ 0 32 = some (bl x) := fun w' h => readCells_all (b0.keep h) 32 (by simpa using x5)
  have z1 : ∀ w', Below W.heap.size W w' → readCells w' ⟨w.heap.size + 1, 0, none⟩ 0 32 = some (bl y) := fun w' h => readCells_all (b1.keep h) 32 (by simpa using y5)
  simp [go_sem, IntWalk.iteOmega, IntWalk.toNatUp, x5, y5, z0 W (Below.refl _ _), z1 W (Below.refl _ _)]
  refine callE_of (refCompare_any x y W hx hy) ?_
  rintro v w1 ⟨rfl, hB1⟩
  simp [go_sem, IntWalk.iteOmega, IntWalk.toNatUp]
  refine callE_of (begun_any w1 (hC.keep hB1)) ?_
  rintro v w2 ⟨rfl, hB2⟩
  have hB12 := ext_trans hB1 hB2
  simp [go_sem, IntWalk.iteOmega, IntWalk.toNatUp, x5, y5, z0 w2 hB12, z1 w2 hB12]
  refine callE_of (shaCompare_any x y w2 hx hy) ?_
  rintro v w3 ⟨rfl, hB3⟩
  have hB13 := ext_trans hB12 hB3
  simp [go_sem, IntWalk.iteOmega, IntWalk.toNatUp, x5, y5, z0 w3 hB13, z1 w3 hB13]
  refine callE_of (shaLess_any x y w3 hx hy) ?_
  rintro v w4 ⟨rfl, hB4⟩
  have hB14 := ext_trans hB13 hB4
  simp [go_sem, IntWalk.iteOmega, IntWalk.toNatUp, x5, y5, z0 w4 hB14, z1 w4 hB14]
  refine callE_of (shaCompare_any x x w4 hx hx) ?_
  rintro v w5 ⟨rfl, hB5⟩
  rw [compare_self]
  simp [go_sem, IntWalk.iteOmega, IntWalk.toNatUp]
  exact ext_trans hB (ext_trans hB14 hB5)
end Go.Proofs.YtlhlfodmcffeoaaDoor
