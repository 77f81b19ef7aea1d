/-
  Knuth's division of two words by one, in plain Lean, over any base: no program in sight.
-/
namespace Go.Proofs.YtoabdejoabfbeaaDoor
theorem mulB (q y1 y0 B : Nat) : q * (y1 * B + y0) = q * y1 * B + q * y0 := by rw [Nat.mul_add, Nat.mul_assoc]
/-- A guess that is too great, seen by the second digit. -/
theorem guess_high {B q r y1 y0 u a : Nat} (hq : q * y1 + r = u) (h : r * B + a < q * y0) : (u * B + a) / (y1 * B + y0) < q := by
  have hy : 0 < y1 * B + y0 := by
    rcases Nat.eq_zero_or_pos (y1 * B + y0) with h0 | h0
    · have : y0 = 0 := by omega
      subst this; simp at h
    · exact h0
  rw [Nat.div_lt_iff_lt_mul hy, mulB, ← hq, Nat.add_mul]
  omega
/-- A guess that is not too great. -/
theorem guess_low {B q r y1 y0 u a : Nat} (hy : 0 < y1 * B + y0) (hq : q * y1 + r = u) (h : q * y0 ≤ r * B + a) : q ≤ (u * B + a) / (y1 * B + y0) := by
  rw [Nat.le_div_iff_mul_le hy, mulB, ← hq, Nat.add_mul]
  omega
theorem quot_small {B y u a : Nat} (hu : u < y) (ha : a < B) : (u * B + a) / y < B := by
  rw [Nat.div_lt_iff_lt_mul (by omega)]
  have h1 : (u + 1) * B ≤ y * B := Nat.mul_le_mul_right _ hu
  have h2 : (u + 1) * B = u * B + B := Nat.succ_mul u B
  rw [Nat.mul_comm B y]
  omega
/-- The first guess. -/
theorem guess_first {B y1 y0 u a : Nat} (hB : 0 < B) (hy1 : B ≤ 2 * y1) (hy0 : y0 < B) (hu : u < y1 * B + y0) (ha : a < B) :
    u / y1 * y1 + u % y1 = u ∧ (u * B + a) / (y1 * B + y0) ≤ u / y1 ∧ u / y1 ≤ B + 1 := by
  have hp : 0 < y1 := by omega
  have hy : 0 < y1 * B + y0 := by omega
  refine ⟨Nat.div_add_mod' u y1, ?_, ?_⟩
  · rw [← Nat.lt_succ_iff, Nat.div_lt_iff_lt_mul hy]
    have h1 : u + 1 ≤ (u / y1 + 1) * y1 := by
      have := Nat.div_add_mod' u y1
      have h2 := Nat.mod_lt u hp
      rw [Nat.succ_mul]; omega
    have h3 : (u + 1) * B ≤ (u / y1 + 1) * y1 * B := Nat.mul_le_mul_right _ h1
    have h4 : (u + 1) * B = u * B + B := Nat.succ_mul u B
    show _ < (u / y1 + 1) * _
    rw [mulB]
    omega
  · rw [← Nat.lt_succ_iff, Nat.div_lt_iff_lt_mul hp]
    have h1 : (B + 2) * y1 = y1 * B + 2 * y1 := by rw [Nat.add_mul, Nat.mul_comm B y1]
    show u < (B + 2) * y1
    omega
/-- One division of two words by one, normalized: the quotient's two digits and the rest. -/
theorem two_digits {B D U u1 u0 q1 r1 q0 r0 : Nat} (hD : 0 < D) (h1 : q1 = (U * B + u1) / D) (hr1 : r1 = (U * B + u1) % D) (h0 : q0 = (r1 * B + u0) / D) (hr0 : r0 = (r1 * B + u0) % D) :
    q1 * B + q0 = (U * (B * B) + (u1 * B + u0)) / D ∧ r0 = (U * (B * B) + (u1 * B + u0)) % D := by
  have e1 := Nat.div_add_mod (U * B + u1) D
  have e0 := Nat.div_add_mod (r1 * B + u0) D
  rw [← h1, ← hr1] at e1
  rw [← h0, ← hr0] at e0
  have hlt : r0 < D := by rw [hr0]; exact Nat.mod_lt _ hD
  have e : U * (B * B) + (u1 * B + u0) = r0 + D * (q1 * B + q0) := by
    have a1 : U * (B * B) + (u1 * B + u0) = (U * B + u1) * B + u0 := by rw [Nat.add_mul, Nat.mul_assoc]; omega
    have a2 : D * (q1 * B + q0) = D * q1 * B + D * q0 := mulB D q1 q0 B
    rw [a1, a2, ← e1, Nat.add_mul]
    omega
  rw [e, Nat.add_mul_div_left _ _ hD, Nat.add_mul_mod_self_left, Nat.div_eq_of_lt hlt, Nat.mod_eq_of_lt hlt]
  exact ⟨by omega, rfl⟩
theorem shift_div (N y s : Nat) : N * 2 ^ s / (y * 2 ^ s) = N / y := Nat.mul_div_mul_right _ _ (Nat.two_pow_pos s)
theorem shift_mod (N y s : Nat) : N * 2 ^ s % (y * 2 ^ s) / 2 ^ s = N % y := by
  rw [Nat.mul_mod_mul_right, Nat.mul_div_cancel _ (Nat.two_pow_pos s)]
/-- A word, moved up by s bits, over two words. -/
theorem shift_two (M hi lo s k : Nat) (h2 : 2 ^ k * 2 ^ s = M) : (hi * M + lo) * 2 ^ s = (hi * 2 ^ s + lo / 2 ^ k) * M + lo * 2 ^ s % M := by
  have h3 : lo * 2 ^ s = lo / 2 ^ k * M + lo * 2 ^ s % M := by
    have e := Nat.div_add_mod' (lo * 2 ^ s) M
    have : lo * 2 ^ s / M = lo / 2 ^ k := by rw [← h2, Nat.mul_div_mul_right _ _ (Nat.two_pow_pos s)]
    rw [this] at e
    exact e.symm
  have e1 : (hi * M + lo) * 2 ^ s = hi * 2 ^ s * M + lo * 2 ^ s := by rw [Nat.add_mul, Nat.mul_right_comm]
  have e2 : (hi * 2 ^ s + lo / 2 ^ k) * M = hi * 2 ^ s * M + lo / 2 ^ k * M := Nat.add_mul _ _ _
  omega
end Go.Proofs.YtoabdejoabfbeaaDoor
