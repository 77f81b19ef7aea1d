/-
  Decimal digits: their number, and the numeral again. Plain Lean, no program in sight.
-/
import Derived.Lib.ItoaNum
import Derived.Lib.ItoaLen
namespace Go.Proofs.YtmdkkhogldklnaaDoorRRRR
open Go.Lib
/-- digits alone -/
def digs (l : List UInt8) : Bool := l.all fun c => decide (48 ≤ c.toNat ∧ c.toNat ≤ 57)
/-- their number -/
def dval (l : List UInt8) : Nat := l.foldl (fun n c => 10 * n + (c.toNat - 48)) 0
theorem dval_snoc (l : List UInt8) (c : UInt8) : dval (l ++ [c]) = 10 * dval l + (c.toNat - 48) := by unfold dval; rw [List.foldl_append]; rfl
theorem digs_snoc (l : List UInt8) (c : UInt8) : digs (l ++ [c]) = (digs l && decide (48 ≤ c.toNat ∧ c.toNat ≤ 57)) := by unfold digs; rw [List.all_append]; simp
theorem ofNat_toNat {n : Nat} (h : n < 256) : (UInt8.ofNat n).toNat = n := by simp; omega
theorem dec_props : ∀ u : Nat, digs (decDigits u) = true ∧ dval (decDigits u) = u ∧ decDigits u ≠ [] ∧ (1 ≤ u → ∃ c r, decDigits u = c :: r ∧ c.toNat ≠ 48) := by
  intro u
  induction u using Nat.strongRecOn with
  | _ u ih =>
    by_cases h : u < 10
    · rw [decDigits_one h]
      have e := ofNat_toNat (n := 48 + u) (by omega)
      refine ⟨?_, ?_, by simp, fun h1 => ⟨_, _, rfl, by rw [e]; omega⟩⟩
      · simp only [digs, List.all_cons, List.all_nil, Bool.and_true, decide_eq_true_eq, e]; omega
      · simp only [dval, List.foldl_cons, List.foldl_nil, e]; omega
    · obtain ⟨h1, h2, h3, h4⟩ := ih (u / 10) (by omega)
      rw [decDigits, dif_neg h]
      have e := ofNat_toNat (n := 48 + u % 10) (by omega)
      refine ⟨?_, ?_, by simp, fun _ => ?_⟩
      · rw [digs_snoc, h1, e]; simp; omega
      · rw [dval_snoc, h2, e]; omega
      · obtain ⟨c, r, q1, q2⟩ := h4 (by omega)
        exact ⟨c, r ++ [_], by rw [q1]; rfl, q2⟩
theorem snoc_cases {α : Type} : ∀ l : List α, l = [] ∨ ∃ a b, l = a ++ [b]
  | [] => .inl rfl
  | x :: l => by
    rcases snoc_cases l with rfl | ⟨a, b, rfl⟩
    · exact .inr ⟨[], x, rfl⟩
    · exact .inr ⟨x :: a, b, rfl⟩
/-- a numeral that does not begin with 0 is its number's -/
theorem dec_back : ∀ (k : Nat) (l : List UInt8), l.length = k → digs l = true → (∃ c r, l = c :: r ∧ c.toNat ≠ 48) → decDigits (dval l) = l ∧ 1 ≤ dval l := by
  intro k
  induction k with
  | zero => rintro l hl _ ⟨c, r, rfl, _⟩; cases hl
  | succ k ih =>
    rintro l hl hd ⟨c, r, rfl, hc⟩
    rcases snoc_cases r with rfl | ⟨a, b, rfl⟩
    · simp only [digs, List.all_cons, List.all_nil, Bool.and_true, decide_eq_true_eq] at hd
      have e : dval [c] = c.toNat - 48 := by simp [dval]
      rw [e, decDigits_one (by omega)]
      refine ⟨?_, by omega⟩
      congr 1
      apply UInt8.toNat_inj.1
      rw [ofNat_toNat (by omega)]; omega
    · have e1 : c :: (a ++ [b]) = (c :: a) ++ [b] := rfl
      rw [e1] at hd ⊢
      rw [digs_snoc, Bool.and_eq_true, decide_eq_true_eq] at hd
      obtain ⟨i1, i2⟩ := ih (c :: a) (by simpa using hl) hd.1 ⟨c, a, rfl, hc⟩
      rw [dval_snoc]
      refine ⟨?_, by omega⟩
      have q1 : (10 * dval (c :: a) + (b.toNat - 48)) / 10 = dval (c :: a) := by omega
      have q2 : (10 * dval (c :: a) + (b.toNat - 48)) % 10 = b.toNat - 48 := by omega
      rw [decDigits, dif_neg (by omega), q1, q2, i1]
      congr 2
      apply UInt8.toNat_inj.1
      rw [ofNat_toNat (by omega)]; omega
theorem dval_mono (l : List UInt8) : ∀ r : List UInt8, dval l ≤ dval (l ++ r) := by
  intro r
  induction r generalizing l with
  | nil => simp
  | cons c r ih =>
    have := ih (l ++ [c])
    rw [dval_snoc] at this
    rw [show l ++ c :: r = (l ++ [c]) ++ r by simp]
    omega
/-- the number of a weight's text; 0: it is none -/
def weightV (l : List UInt8) : Int := if 1 ≤ l.length ∧ l.length ≤ 19 ∧ l.head? ≠ some 48 ∧ digs l = true ∧ dval l ≤ 4611686018427387903 then dval l else 0
/-- the number that digits are; -1: none -/
def numberV (l : List UInt8) : Int := if digs l = true ∧ dval l ≤ 4611686018427387903 then dval l else -1
theorem nDigits_le19 {u : Nat} (h : u ≤ 4611686018427387903) : nDigits u ≤ 19 := by
  rcases Nat.lt_or_ge 19 (nDigits u) with q | q
  · have hp := nDigits_unique (nDigits u - 1) u
    exfalso
    have key : ∀ k u : Nat, nDigits u = k + 1 → 1 ≤ u → 10 ^ k ≤ u := by
      intro k
      induction k with
      | zero => intro u _ h; simpa using h
      | succ k ih =>
        intro u hu _
        by_cases h10 : u < 10
        · rw [nDigits_small h10] at hu; omega
        · rw [nDigits_big h10] at hu
          have := ih (u / 10) (by omega) (by omega)
          rw [Nat.pow_succ]; omega
    have h1 := key (nDigits u - 1) u (by omega) (by
      rcases Nat.eq_zero_or_pos u with z | z
      · subst z; rw [nDigits_small (by omega)] at q; omega
      · exact z)
    have h2 : 10 ^ 19 ≤ 10 ^ (nDigits u - 1) := Nat.pow_le_pow_right (by omega) (by omega)
    have h3 : (10 : Nat) ^ 19 = 10000000000000000000 := by decide
    omega
  · exact q
/-- both ways of reading a weight say the same -/
theorem weight_number (l : List UInt8) (n : Int) (hn : 1 ≤ n) : weightV l = n ↔ numberV l = n ∧ decDigits n.toNat = l := by
  obtain ⟨m, rfl⟩ : ∃ m : Nat, n = m := ⟨n.toNat, by omega⟩
  rw [Int.toNat_natCast]
  constructor
  · intro h
    unfold weightV at h
    split at h
    · rename_i hc
      obtain ⟨c1, c2, c3, c4, c5⟩ := hc
      have hb := dec_back l.length l rfl c4 (by
        cases l with
        | nil => simp at c1
        | cons c r => exact ⟨c, r, rfl, fun e => c3 (by simp only [List.head?_cons, Option.some.injEq]; exact UInt8.toNat_inj.1 e)⟩)
      refine ⟨by unfold numberV; rw [if_pos ⟨c4, c5⟩]; exact h, ?_⟩
      rw [show m = dval l by omega]; exact hb.1
    · omega
  · rintro ⟨h1, h2⟩
    unfold numberV at h1
    split at h1
    · rename_i hc
      obtain ⟨p1, p2, p3, p4⟩ := dec_props m
      obtain ⟨c, r, q1, q2⟩ := p4 (by omega)
      have hlen : l.length = nDigits m := by rw [← h2, decDigits_length]
      have h19 := nDigits_le19 (u := m) (by omega)
      have h1' := nDigits_pos m
      unfold weightV
      rw [if_pos ⟨by omega, by omega, by rw [← h2, q1]; simp only [List.head?_cons, ne_eq, Option.some.injEq]; intro e; exact q2 (by rw [e]; rfl), hc.1, hc.2⟩]
      exact h1
    · omega
end Go.Proofs.YtmdkkhogldklnaaDoorRRRR
