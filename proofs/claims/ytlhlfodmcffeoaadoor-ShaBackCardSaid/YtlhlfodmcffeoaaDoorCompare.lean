/-
  Two names compared: the reference's loop and the program's 'Compare' and 'Less' give the order of the bytes.
-/
import Derived.Test.YtlhlfodmcffeoaaDoorBegun
import Derived.Lib.Bytealg
import Derived.Lib.BytesEntry
namespace Go.Proofs.YtlhlfodmcffeoaaDoor
open Go.RowKit
set_option linter.unusedVariables false
set_option linter.unusedSimpArgs false
set_option maxRecDepth 10000
theorem compare_take : ∀ (i : Nat) (x y : List UInt8), i ≤ x.length → i ≤ y.length → x.take i = y.take i → Lib.compareBytes x y = Lib.compareBytes (x.drop i) (y.drop i)
  | 0, x, y, _, _, _ => rfl
  | i + 1, [], y, h, _, _ => by simp at h
  | i + 1, _ :: _, [], _, h, _ => by simp at h
  | i + 1, a :: x, b :: y, h1, h2, h => by
    simp only [List.take_succ_cons, List.cons.injEq] at h
    obtain ⟨rfl, h⟩ := h
    have hh : ¬ a < a := by simp [UInt8.lt_iff_toNat_lt]
    simp only [Lib.compareBytes, hh, if_false, List.drop_succ_cons]
    exact compare_take i x y (by simpa using h1) (by simpa using h2) h
theorem compare_at (x y : List UInt8) (i : Nat) (hx : i < x.length) (hy : i < y.length) (ht : x.take i = y.take i) :
    Lib.compareBytes x y = if byteAt x i < byteAt y i then -1 else if byteAt y i < byteAt x i then 1 else Lib.compareBytes (x.drop (i + 1)) (y.drop (i + 1)) := by
  rw [compare_take i x y (by omega) (by omega) ht, List.drop_eq_getElem_cons hx, List.drop_eq_getElem_cons hy]
  simp only [Lib.compareBytes, byteAt, List.getD, List.getElem?_eq_getElem hx, List.getElem?_eq_getElem hy, Option.getD_some, UInt8.lt_iff_toNat_lt]
theorem compare_self (x : List UInt8) : Lib.compareBytes x x = 0 := by
  induction x with
  | nil => rfl
  | cons a x ih =>
    have hh : ¬ a < a := by simp [UInt8.lt_iff_toNat_lt]
    simp [Lib.compareBytes, hh, ih]
theorem take_same (x y : List UInt8) (i : Nat) (hx : i < x.length) (hy : i < y.length) (ht : x.take i = y.take i) (h : byteAt x i = byteAt y i) : x.take (i + 1) = y.take (i + 1) := by
  rw [List.take_add_one, List.take_add_one, ht, List.getElem?_eq_getElem hx, List.getElem?_eq_getElem hy]
  simp only [byteAt, List.getD, List.getElem?_eq_getElem hx, List.getElem?_eq_getElem hy, Option.getD_some] at h
  rw [UInt8.toNat_inj.1 h]
theorem bytesOf_any (l : List UInt8) (A : Option Addr) (c : Nat) (w : World) (h : Rd w 1 A l.length (bl l)) : (Extern.Bytes.bytesOf (.slice A l.length c)).run Tryd.prog w = .ok ⟨l.toArray⟩ w := by
  have hb : Lib.bytesOf (l.map fun x => (x.toNat : Int)) = l := by simp [Lib.bytesOf, Function.comp_def]
  rcases Nat.eq_zero_or_pos l.length with h0 | hpos
  · obtain rfl := List.length_eq_zero_iff.1 h0
    rcases A with _ | a
    · rfl
    · simp [Extern.Bytes.bytesOf, Extern.Bytes.loadBytes]; rfl
  · obtain ⟨b, o, rfl, hlt, hc⟩ := h.cells hpos
    have hr := Lib.run_loadBytesX (P := Tryd.prog) (w := w) (l.map fun x => (x.toNat : Int)) ⟨b, o, none⟩ .empty (fun j x hj => by
      have h1 : (bl l)[j]? = some (.int .u8 x) := by
        simp only [bl, List.getElem?_map] at hj ⊢
        rcases hl : l[j]? with _ | u
        · rw [hl] at hj; simp at hj
        · rw [hl] at hj; simp at hj; simp [← hj]
      have := hc j _ h1
      rw [show (⟨b, o, none⟩ : Addr).add j = ⟨b, o + j, none⟩ by unfold Addr.add; split <;> simp_all]
      exact this)
    rw [hb, List.length_map] at hr
    simp only [Extern.Bytes.bytesOf]
    rw [hr]
    simp
theorem bytealg_any (x y : List UInt8) (A B : Option Addr) (c d : Nat) (w : World) (hx : Rd w 1 A x.length (bl x)) (hy : Rd w 1 B y.length (bl y)) :
    (callFunc 35 #[.slice A x.length c, .slice B y.length d]).run Tryd.prog w = .ok (.value (.int .i64 (Lib.compareBytes x y))) w := by
  rw [run_callFunc_extern Tryd.func35 (by kernel_rfl) (by kernel_rfl) (by kernel_rfl) (e := Extern.BytealgCompare.compare) (by kernel_rfl)]
  have h : (Extern.BytealgCompare.compare #[.slice A x.length c, .slice B y.length d]).run Tryd.prog w = .ok (.int .i64 (Lib.compareBytes x y)) w := by
    change Sem.run Tryd.prog (do pure (goInt (Extern.BytealgCompare.cmp (← Extern.Bytes.bytesOf (.slice A x.length c)) (← Extern.Bytes.bytesOf (.slice B y.length d))))) w = _
    simp only [Sem.run_bind, Sem.run_pure, Result.andThen, bytesOf_any x A c w hx, bytesOf_any y B d w hy]
    rw [Lib.cmp_eq]
    rfl
  rw [h]; rfl
theorem bytesCompare_any (x y : List UInt8) (A B : Option Addr) (c d : Nat) (w : World) (hx : Rd w 1 A x.length (bl x)) (hy : Rd w 1 B y.length (bl y)) :
    callE Tryd.prog 26 #[.slice A x.length c, .slice B y.length d] w fun v w' => v = .int .i64 (Lib.compareBytes x y) ∧ w' = w := by
  refine calls_E Tryd.func26 rfl rfl rfl (Nat.le_of_ble_eq_true rfl) ?_
  simp [go_sem, IntWalk.iteOmega, IntWalk.toNatUp, bytealg_any x y A B c d w hx hy]
theorem refCompare_any (x y : List UInt8) (w : World) (hx : x.length = 32) (hy : y.length = 32) :
    callE Tryd.prog 10 #[.agg (bl x).toArray, .agg (bl y).toArray] w fun v w' => v = .int .i64 (Lib.compareBytes x y) ∧ Below w.heap.size w w' := by
  have x5 : (bl x).length = 32 := by rw [bl_length, hx]
  have y5 : (bl y).length = 32 := by rw [bl_length, hy]
  refine calls_E Tryd.func10 rfl rfl rfl (Nat.le_of_ble_eq_true rfl) ?_
  simp [go_sem, IntWalk.iteOmega, IntWalk.toNatUp, x5, y5]
  refine W_at fun W hW => ?_
  obtain ⟨b0, b1, hB, hS⟩ := news2 hW
  clear hW
  refine W_loop (fun s wr => ∃ i : Nat, i ≤ 32 ∧ x.take i = y.take i ∧ s 2 = .pointer (some ⟨w.heap.size, 0, none⟩) ∧ s 3 = .pointer (some ⟨w.heap.size + 1, 0, none⟩) ∧ s 5 = .int .i64 i ∧ Below W.heap.size W wr) (fun s _ => 32 - (intOf (s 5)).toNat) ?_ ?_
  · exact ⟨0, by omega, rfl, by simp [go_sem], by simp [go_sem], by simp [go_sem], Below.refl _ _⟩
  · rintro s wr ⟨i, hi, ht, e2, e3, e5, hwr⟩
    have b0' := b0.keep hwr
    have b1' := b1.keep hwr
    have hBw := ext_trans hB hwr
    by_cases hlt : i < 32
    · have hlt' : (i : Int) < 32 := by omega
      have z0 : wr.cell? ⟨w.heap.size, i, none⟩ = some (.int .u8 (byteAt x i)) := by rw [b0'.cell, List.getElem?_toArray, bl_at x i (by omega)]
      have z1 : wr.cell? ⟨w.heap.size + 1, i, none⟩ = some (.int .u8 (byteAt y i)) := by rw [b1'.cell, List.getElem?_toArray, bl_at y i (by omega)]
      have hcmp := compare_at x y i (by omega) (by omega) ht
      simp [go_sem, IntWalk.iteOmega, IntWalk.toNatUp, e5, e2, e3, hlt']
      refine W_still follows (by kernel_rfl) ?_
      by_cases h1 : byteAt x i < byteAt y i
      · rw [if_pos h1] at hcmp
        simp [go_sem, IntWalk.iteOmega, IntWalk.toNatUp, e5, e2, e3, hlt', z0, z1, h1]
        exact ⟨hcmp.symm, hBw.drew⟩
      · simp [go_sem, IntWalk.iteOmega, IntWalk.toNatUp, e5, e2, e3, hlt', z0, z1, h1]
        refine W_still follows (by kernel_rfl) ?_
        rw [if_neg h1] at hcmp
        by_cases h2 : byteAt y i < byteAt x i
        · rw [if_pos h2] at hcmp
          simp [go_sem, IntWalk.iteOmega, IntWalk.toNatUp, e5, e2, e3, hlt', z0, z1, h1, h2]
          exact ⟨hcmp.symm, hBw.drew.drew⟩
        · simp [go_sem, IntWalk.iteOmega, IntWalk.toNatUp, e5, e2, e3, hlt', z0, z1, h1, h2]
          refine roundEnd.mk ⟨i + 1, by omega, take_same x y i (by omega) (by omega) ht (by omega), by simp [go_sem, e2], by simp [go_sem, e3], by simp [go_sem], hwr.drew.drew⟩ ?_
          simp [go_sem, intOf]; omega
    · obtain rfl : i = 32 := by omega
      simp [go_sem, IntWalk.iteOmega, IntWalk.toNatUp, e5, e2, e3]
      rw [List.take_of_length_le (by omega), List.take_of_length_le (by omega)] at ht
      subst ht
      exact ⟨(compare_self x).symm, hBw⟩
end Go.Proofs.YtlhlfodmcffeoaaDoor
