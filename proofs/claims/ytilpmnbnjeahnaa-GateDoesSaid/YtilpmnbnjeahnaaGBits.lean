/-
  A share bit by bit is a share by division: plain Lean, no program in sight.
-/
import Derived.Test.YtilpmnbnjeahnaaGPlain
namespace Go.Proofs.Ytilpmnbnjeahnaa
theorem half_bit (o j : Nat) : o / 2 ^ j = 2 * (o / 2 ^ (j + 1)) + o / 2 ^ j % 2 := by
  rw [Nat.pow_succ, ← Nat.div_div_eq_div_mul]; omega
theorem quo_le {q m r p x : Nat} (h : q * m + r = p * x) (hx : x ≤ m) (hm : 0 < m) : q ≤ p := by
  have h1 : p * x ≤ p * m := Nat.mul_le_mul_left _ hx
  exact Nat.le_of_mul_le_mul_right (show q * m ≤ p * m by omega) hm
theorem dbl0 {q m r F : Nat} (h : q * m + r = F) : q * 2 * m + r * 2 = 2 * F := by
  rw [Nat.mul_right_comm]; omega
theorem dbl1 {q m r F : Nat} (h : q * m + r = F) (hr : m ≤ r) : (q + 1) * m + (r - m) = F := by
  rw [Nat.add_mul]; omega
theorem add0 {q m r F x : Nat} (h : q * m + r = F) : q * m + (r + x) = F + x := by omega
theorem bit_on {p x F : Nat} (h : F = p * x) : 2 * F + x = (2 * p + 1) * x := by rw [h, Nat.add_mul, Nat.mul_assoc]; omega
theorem bit_off {p x F : Nat} (h : F = p * x) : 2 * F = (2 * p + 0) * x := by rw [h, Nat.add_zero, Nat.mul_assoc]
theorem quo_of {q m r N : Nat} (h : q * m + r = N) (hr : r < m) : q = N / m := by
  have : 0 < m := by omega
  rw [← h, Nat.add_comm, Nat.add_mul_div_right _ _ this, Nat.div_eq_of_lt hr]; omega
/-- One round: from p = o / 2 ^ (j + 1) to o / 2 ^ j. -/
theorem bit_round {o j q r m x : Nat} (h : q * m + r = o / 2 ^ (j + 1) * x) (hr : r < m) (hx : x ≤ m) :
    ∃ q1 r1 : Nat, q1 = (if m ≤ r * 2 then q * 2 + 1 else q * 2) ∧ r1 = (if m ≤ r * 2 then r * 2 - m else r * 2) ∧ r1 < m ∧
      (o / 2 ^ j % 2 = 1 → ∃ q2 r2 : Nat, q2 = (if m ≤ r1 + x then q1 + 1 else q1) ∧ r2 = (if m ≤ r1 + x then r1 + x - m else r1 + x) ∧ r2 < m ∧ q2 * m + r2 = o / 2 ^ j * x) ∧
      (o / 2 ^ j % 2 ≠ 1 → q1 * m + r1 = o / 2 ^ j * x) := by
  have hb := half_bit o j
  obtain ⟨p, hp⟩ : ∃ p, p = o / 2 ^ (j + 1) := ⟨_, rfl⟩
  rw [← hp] at h hb
  generalize hB : o / 2 ^ j % 2 = b at *
  rw [hb]
  have h0 := dbl0 h
  obtain ⟨F, hF⟩ : ∃ F, F = p * x := ⟨_, rfl⟩
  rw [← hF] at h0
  have key : ∀ q1 r1 : Nat, q1 * m + r1 = 2 * F → r1 < m →
      (b = 1 → ∃ q2 r2 : Nat, q2 = (if m ≤ r1 + x then q1 + 1 else q1) ∧ r2 = (if m ≤ r1 + x then r1 + x - m else r1 + x) ∧ r2 < m ∧ q2 * m + r2 = (2 * p + b) * x) ∧ (b ≠ 1 → q1 * m + r1 = (2 * p + b) * x) := by
    intro q1 r1 e hl
    constructor
    · rintro rfl
      have e1 := add0 (x := x) e
      rw [bit_on hF] at e1
      by_cases hc : m ≤ r1 + x
      · exact ⟨q1 + 1, r1 + x - m, by rw [if_pos hc], by rw [if_pos hc], by omega, dbl1 e1 hc⟩
      · exact ⟨q1, r1 + x, by rw [if_neg hc], by rw [if_neg hc], by omega, e1⟩
    · intro hb1
      obtain rfl : b = 0 := by omega
      rw [e, bit_off hF]
  by_cases hc : m ≤ r * 2
  · obtain ⟨k1, k2⟩ := key _ _ (dbl1 h0 hc) (by omega)
    exact ⟨_, _, by rw [if_pos hc], by rw [if_pos hc], by omega, k1, k2⟩
  · obtain ⟨k1, k2⟩ := key _ _ h0 (by omega)
    exact ⟨_, _, by rw [if_neg hc], by rw [if_neg hc], by omega, k1, k2⟩
/-- may there be a share? -/
def shareOk (own : Int) (l : List Int) (v : Int) : Bool := decide (0 ≤ own ∧ own ≤ 1073741824 ∧ okW l = true ∧ 0 ≤ v ∧ v < l.length)
def shareOf (own : Int) (l : List Int) (v : Int) : Int := if shareOk own l v then own * l.getD v.toNat 0 / sumW l else 0
def shareE (own : Int) (l : List Int) (v : Int) : Int := if shareOk own l v then 0 else 1
end Go.Proofs.Ytilpmnbnjeahnaa
