/-
  Shares, in plain Lean: sums of weights, a share by division, and the same bit by bit. No program in sight.
-/
namespace Go.Proofs.Ytilpmnbnjeahnaa
/-- may these weights be? each from 1 on, all together at most 2^62 - 1, from 1 to 32 of them -/
def sumTo (l : List Int) : Nat → Int
  | 0 => 0
  | i + 1 => sumTo l i + l.getD i 0
/-- the first i weights may be -/
def okTo (l : List Int) : Nat → Prop
  | 0 => True
  | i + 1 => okTo l i ∧ 1 ≤ l.getD i 0 ∧ l.getD i 0 ≤ 4611686018427387903 - sumTo l i
instance (l : List Int) : ∀ i, Decidable (okTo l i)
  | 0 => inferInstanceAs (Decidable True)
  | i + 1 => @instDecidableAnd _ _ (instDecidableOkTo l i) _
def okW (l : List Int) : Bool := decide (1 ≤ l.length ∧ l.length ≤ 32 ∧ okTo l l.length)
def sumW (l : List Int) : Int := sumTo l l.length
theorem sumTo_le {l : List Int} : ∀ {i : Nat}, okTo l i → 0 ≤ sumTo l i ∧ sumTo l i ≤ 4611686018427387903
  | 0, _ => by simp [sumTo]
  | i + 1, h => by
    have := sumTo_le h.1
    simp only [sumTo]
    have h1 := h.2
    omega
theorem okTo_le {l : List Int} {i j : Nat} (h : okTo l j) (hij : i ≤ j) : okTo l i := by
  induction j with
  | zero => obtain rfl : i = 0 := by omega
            exact h
  | succ j ih =>
    rcases Nat.lt_or_ge i (j + 1) with h1 | h1
    · exact ih h.1 (by omega)
    · obtain rfl : i = j + 1 := by omega
      exact h
theorem sumTo_mono {l : List Int} {i j : Nat} (h : okTo l j) (hij : i ≤ j) : sumTo l i ≤ sumTo l j := by
  induction j with
  | zero => obtain rfl : i = 0 := by omega
            exact Int.le_refl _
  | succ j ih =>
    rcases Nat.lt_or_ge i (j + 1) with h1 | h1
    · have := ih h.1 (by omega)
      simp only [sumTo]
      have := h.2.1
      omega
    · obtain rfl : i = j + 1 := by omega
      exact Int.le_refl _
theorem okTo_at {l : List Int} {i j : Nat} (h : okTo l j) (hij : i < j) : 1 ≤ l.getD i 0 ∧ l.getD i 0 ≤ sumTo l j := by
  have h1 := okTo_le h (show i + 1 ≤ j from hij)
  have h2 := sumTo_mono h (show i + 1 ≤ j from hij)
  have h3 := (sumTo_le (okTo_le h (show i ≤ j by omega))).1
  simp only [sumTo] at h2
  have := h1.2.1
  omega
theorem okW_of {l : List Int} (h : okW l = true) : 1 ≤ l.length ∧ l.length ≤ 32 ∧ okTo l l.length := of_decide_eq_true h
theorem okW_pos {l : List Int} (h : okW l = true) : 1 ≤ sumW l ∧ sumW l ≤ 4611686018427387903 := by
  obtain ⟨h1, h2, h3⟩ := okW_of h
  have := okTo_at h3 (show 0 < l.length by omega)
  have := sumTo_le h3
  unfold sumW
  omega
end Go.Proofs.Ytilpmnbnjeahnaa
