/-
  All shares together: plain Lean, no program in sight.
-/
import Derived.Test.YtilpmnbnjeahnaaGBits
namespace Go.Proofs.Ytilpmnbnjeahnaa
def allTo (own : Int) (l : List Int) : Nat → Int
  | 0 => 0
  | k + 1 => allTo own l k + shareOf own l (k : Nat)
theorem share_bounds {own m x : Int} (ho : 0 ≤ own) (hm : 0 < m) (hx : 0 ≤ x) : 0 ≤ own * x / m ∧ m * (own * x / m) ≤ own * x ∧ own * x ≤ m * (own * x / m) + (m - 1) := by
  have h1 := Int.mul_ediv_add_emod (own * x) m
  have h2 := Int.emod_nonneg (own * x) (show m ≠ 0 by omega)
  have h3 := Int.emod_lt_of_pos (own * x) hm
  have h4 : 0 ≤ own * x := Int.mul_nonneg ho hx
  have h5 : 0 ≤ own * x / m := Int.ediv_nonneg h4 (by omega)
  refine ⟨h5, ?_, ?_⟩ <;> omega
theorem shareOf_at {own : Int} {l : List Int} {k : Nat} (ho : 0 ≤ own) (h1 : own ≤ 1073741824) (hk : okW l = true) (hlt : k < l.length) : shareOf own l (k : Nat) = own * l.getD k 0 / sumW l ∧ shareE own l (k : Nat) = 0 := by
  have e : shareOk own l (k : Nat) = true := by simp [shareOk, hk]; omega
  exact ⟨by rw [shareOf, if_pos e, Int.toNat_natCast], by rw [shareE, if_pos e]⟩
theorem all_bounds {own : Int} {l : List Int} (ho : 0 ≤ own) (h1 : own ≤ 1073741824) (hk : okW l = true) : ∀ k, k ≤ l.length → 0 ≤ allTo own l k ∧ sumW l * allTo own l k ≤ own * sumTo l k ∧ own * sumTo l k ≤ sumW l * allTo own l k + k * (sumW l - 1)
  | 0, _ => by simp [allTo, sumTo]
  | k + 1, h => by
    obtain ⟨i0, i1, i2⟩ := all_bounds ho h1 hk k (by omega)
    have hp := okW_pos hk
    have hw := okTo_at (okW_of hk).2.2 (show k < l.length by omega)
    obtain ⟨b0, b1, b2⟩ := share_bounds (m := sumW l) (x := l.getD k 0) ho (by omega) (by omega)
    have e := (shareOf_at ho h1 hk (show k < l.length by omega)).1
    simp only [allTo, sumTo, e]
    rw [Int.mul_add, Int.mul_add]
    have e2 : ((k + 1 : Nat) : Int) * (sumW l - 1) = (k : Int) * (sumW l - 1) + (sumW l - 1) := by
      rw [Int.natCast_add, Int.add_mul]; simp
    rw [e2]
    refine ⟨by omega, by omega, by omega⟩
theorem all_le {own : Int} {l : List Int} (ho : 0 ≤ own) (h1 : own ≤ 1073741824) (hk : okW l = true) {k : Nat} (h : k ≤ l.length) : 0 ≤ allTo own l k ∧ allTo own l k ≤ own := by
  obtain ⟨i0, i1, i2⟩ := all_bounds ho h1 hk k h
  have hp := okW_pos hk
  refine ⟨i0, ?_⟩
  have h2 : sumTo l k ≤ sumW l := sumTo_mono (okW_of hk).2.2 h
  have h3 : own * sumTo l k ≤ own * sumW l := Int.mul_le_mul_of_nonneg_left h2 ho
  have h4 : sumW l * allTo own l k ≤ sumW l * own := by rw [Int.mul_comm (sumW l) own]; omega
  exact Int.le_of_mul_le_mul_left h4 (by omega)
theorem all_near {own : Int} {l : List Int} (ho : 0 ≤ own) (h1 : own ≤ 1073741824) (hk : okW l = true) : own - l.length < allTo own l l.length := by
  obtain ⟨i0, i1, i2⟩ := all_bounds ho h1 hk l.length (Nat.le_refl _)
  have hp := okW_pos hk
  have hn := (okW_of hk).1
  have e : sumTo l l.length = sumW l := rfl
  rw [e] at i2
  have h3 : (l.length : Int) * (sumW l - 1) = (l.length : Int) * sumW l - l.length := by rw [Int.mul_sub]; simp
  have h4 : sumW l * own < sumW l * (allTo own l l.length + l.length) := by
    rw [Int.mul_add, Int.mul_comm (sumW l) own, Int.mul_comm (sumW l) (l.length : Int)]; omega
  have := Int.lt_of_mul_lt_mul_left h4 (by omega)
  omega
theorem share_mono {own : Int} {l : List Int} {x y : Nat} (ho : 0 ≤ own) (h1 : own ≤ 1073741824) (hk : okW l = true) (hx : x < l.length) (hy : y < l.length) (h : l.getD x 0 ≤ l.getD y 0) : shareOf own l (x : Nat) ≤ shareOf own l (y : Nat) := by
  rw [(shareOf_at ho h1 hk hx).1, (shareOf_at ho h1 hk hy).1]
  have hp := okW_pos hk
  exact Int.ediv_le_ediv (by omega) (Int.mul_le_mul_of_nonneg_left h ho)
end Go.Proofs.Ytilpmnbnjeahnaa
