/-
  'ShaOrder' answers yes at any three names.
-/
import Derived.Test.YtlhlfodmcffeoaaDoorCompares
import Derived.Test.YtlhlfodmcffeoaaDoorOrderLaw
import Derived.Test.YtlhlfodmcffeoaaDoorAny
import Derived.Stop.BytesEq
namespace Go.Proofs.YtlhlfodmcffeoaaDoor
open Go.RowKit
set_option linter.unusedVariables false
set_option linter.unusedSimpArgs false
set_option maxRecDepth 10000
theorem id_eq (x y : List UInt8) (hx : x.length = 32) (hy : y.length = 32) (w : World) : (Op.equalIn 10000 23 (.agg (bl x).toArray) (.agg (bl y).toArray)).run Tryd.prog w = .ok (x == y) w :=
  run_equalIn_bytes w 9998 23 5 32 Tryd.underlying23 Tryd.underlying5 (fun w => by rw [run_sizeOf_shape (t := none) shape5]; rfl) x y hx hy
theorem bytesLess_cmp : ∀ x y : List UInt8, Op.bytesLess x y = decide (Lib.compareBytes x y < 0)
  | [], [] => by simp [Op.bytesLess, Lib.compareBytes]
  | [], _ :: _ => by simp [Op.bytesLess, Lib.compareBytes]
  | _ :: _, [] => by simp [Op.bytesLess, Lib.compareBytes]
  | a :: x, b :: y => by
    rw [cmp_cons, Op.bytesLess, bytesLess_cmp x y]
    by_cases h1 : a.toNat < b.toNat
    · simp [UInt8.lt_iff_toNat_lt, h1]
    · by_cases h2 : b.toNat < a.toNat
      · have h3 : ¬ a = b := fun e => by subst e; omega
        simp [UInt8.lt_iff_toNat_lt, h1, h2, h3]
      · obtain rfl : a = b := UInt8.toNat_inj.1 (by omega)
        simp [UInt8.lt_iff_toNat_lt]
theorem hexLt (x y : List UInt8) : Op.bytesLess (hexOf x) (hexOf y) = decide (Lib.compareBytes x y < 0) := by
  rw [bytesLess_cmp, cmp_hex]
set_option maxHeartbeats 4000000 in
theorem shaOrder_any (x y z : List UInt8) (w : World) (hx : x.length = 32) (hy : y.length = 32) (hz : z.length = 32) (hC : Cubes w) :
    callE Tryd.prog 4 #[.agg (bl x).toArray, .agg (bl y).toArray, .agg (bl z).toArray] w fun v w' => v = .bool true ∧ Below w.heap.size w w' := by
  have x5 : (bl x).length = 32 := by rw [bl_length, hx]
  have y5 : (bl y).length = 32 := by rw [bl_length, hy]
  have z5 : (bl z).length = 32 := by rw [bl_length, hz]
  refine calls_E Tryd.func4 rfl rfl rfl (Nat.le_of_ble_eq_true rfl) ?_
  simp [go_sem, IntWalk.iteOmega, IntWalk.toNatUp, x5, y5, z5]
  refine W_at fun W hW => ?_
  obtain ⟨b0, b1, b2, hB, hS⟩ := news3 hW
  clear hW
  replace hC := hC.keep hB
  have r0 : ∀ w', Below W.heap.size W w' → readCells w' ⟨w.heap.size, 0, none⟩ 0 32 = some (bl x) := fun w' h => readCells_all (b0.keep h) 32 (by simpa using x5)
  have r1 : ∀ w', Below W.heap.size W w' → readCells w' ⟨w.heap.size + 1, 0, none⟩ 0 32 = some (bl y) := fun w' h => readCells_all (b1.keep h) 32 (by simpa using y5)
  have r2 : ∀ w', Below W.heap.size W w' → readCells w' ⟨w.heap.size + 1 + 1, 0, none⟩ 0 32 = some (bl z) := fun w' h => readCells_all (b2.keep h) 32 (by simpa using z5)
  have C : ∀ (p q : List UInt8) (hp : p.length = 32) (hq : q.length = 32) W k, anyCall Tryd.prog 12 #[.agg (bl p).toArray, .agg (bl q).toArray] W k = k (.int .i64 (Lib.compareBytes p q)) := fun p q hp hq W k => anyCall_eq (by kernel_rfl) (fun w _ => shaCompare_any p q w hp hq) k
  have R := Below.refl W.heap.size W
  refine W_below follows (by kernel_rfl) ?_
  simp [go_sem, IntWalk.iteOmega, IntWalk.toNatUp, r0 W R, r1 W R, r2 W R, hS, C x y hx hy, C y z hy hz, C x z hx hz]
  rw [← hS]
  intro w1 hB1
  refine callE_of (begun_any w1 (hC.keep hB1)) ?_
  rintro v w2 ⟨rfl, hB2⟩
  replace hB2 := ext_trans hB1 hB2
  clear hB1
  simp [go_sem, IntWalk.iteOmega, IntWalk.toNatUp, r0 w2 hB2, r1 w2 hB2, r2 w2 hB2]
  refine callE_of (shaCompare_any y x w2 hy hx) ?_
  rintro v w3 ⟨rfl, hB3⟩
  replace hB3 := ext_trans hB2 hB3
  clear hB2
  rw [cmp_anti x y]
  have L := hexLt x y
  have e1 : (x == y) = decide (Lib.compareBytes x y = 0) := by rw [Bool.eq_iff_iff]; simp [cmp_zero]
  have rX := cmp_range x y
  have rY := cmp_range y z
  have rZ := cmp_range x z
  have t1 := cmp_trans x y z
  have t2 := cmp_trans z y x
  rw [cmp_anti x z, cmp_anti y z, cmp_anti x y] at t2
  have H : ∀ (p : List UInt8) (hp : p.length = 32) W k, anyCall Tryd.prog 14 #[.agg (bl p).toArray] W k = k (.string ⟨(hexOf p).toArray⟩) := fun p hp W k => anyCall_eq (by kernel_rfl) (fun w _ => hex_any p w hp) k
  have Le : ∀ (p q : List UInt8) (hp : p.length = 32) (hq : q.length = 32) W k, anyCall Tryd.prog 13 #[.agg (bl p).toArray, .agg (bl q).toArray] W k = k (.bool (decide (Lib.compareBytes p q < 0))) := fun p q hp hq W k => anyCall_eq (by kernel_rfl) (fun w _ => shaLess_any p q w hp hq) k
  replace H := fun (p : List UInt8) hp W k => H p hp W k
  have Lx := Le x y hx hy
  clear C Le
  generalize Lib.compareBytes x y = X at *
  generalize Lib.compareBytes y z = Y at *
  generalize Lib.compareBytes x z = Z at *
  have I := id_eq x y hx hy
  have R3 := Below.refl w3.heap.size w3
  have q0 := r0 w3 hB3
  have q1 := r1 w3 hB3
  have hS3 : w.heap.size + 1 + 1 + 1 ≤ w3.heap.size := by rw [← hS]; exact hB3.size
  have hB0 := ext_trans hB hB3
  clear r0 r1 r2 hC b0 b1 b2 hB hB3
  rcases rX with rfl | rfl | rfl <;> rcases rY with rfl | rfl | rfl <;> rcases rZ with rfl | rfl | rfl <;> first | (exfalso; omega) | (
    simp [go_sem, IntWalk.iteOmega, IntWalk.toNatUp, q0, q1, I, e1]
    refine W_below follows (by kernel_rfl) ?_
    simp [go_sem, IntWalk.iteOmega, IntWalk.toNatUp, q0, q1, H x hx, H y hy, Lx, L]
    intro w4 hB4
    exact ext_trans hB0 hB4)
end Go.Proofs.YtlhlfodmcffeoaaDoor
