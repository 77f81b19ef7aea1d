/-
  The order of byte strings, in plain Lean: turned, zero, by a third one, in digits. No program in sight.
-/
import Derived.Test.YtlhlfodmcffeoaaDoorPlain
import Derived.Lib.Bytealg
namespace Go.Proofs.YtlhlfodmcffeoaaDoor
set_option linter.unusedVariables false
theorem cmp_cons (a b : UInt8) (x y : List UInt8) : Lib.compareBytes (a :: x) (b :: y) = if a.toNat < b.toNat then -1 else if b.toNat < a.toNat then 1 else Lib.compareBytes x y := by
  simp only [Lib.compareBytes, UInt8.lt_iff_toNat_lt]
theorem cmp_anti : ∀ x y : List UInt8, Lib.compareBytes y x = - Lib.compareBytes x y
  | [], [] => rfl
  | [], _ :: _ => rfl
  | _ :: _, [] => rfl
  | a :: x, b :: y => by
    rw [cmp_cons, cmp_cons, cmp_anti x y]
    by_cases h1 : a.toNat < b.toNat
    · simp [h1, Nat.lt_asymm h1]
    · by_cases h2 : b.toNat < a.toNat <;> simp [h1, h2]
theorem cmp_range : ∀ x y : List UInt8, Lib.compareBytes x y = -1 ∨ Lib.compareBytes x y = 0 ∨ Lib.compareBytes x y = 1
  | [], [] => .inr (.inl rfl)
  | [], _ :: _ => .inl rfl
  | _ :: _, [] => .inr (.inr rfl)
  | a :: x, b :: y => by
    rw [cmp_cons]
    split
    · exact .inl rfl
    · split
      · exact .inr (.inr rfl)
      · exact cmp_range x y
theorem cmp_zero : ∀ x y : List UInt8, Lib.compareBytes x y = 0 ↔ x = y
  | [], [] => by simp [Lib.compareBytes]
  | [], _ :: _ => by simp [Lib.compareBytes]
  | _ :: _, [] => by simp [Lib.compareBytes]
  | a :: x, b :: y => by
    rw [cmp_cons]
    split
    · rename_i h; simp; intro e; subst e; omega
    · split
      · rename_i h; simp; intro e; subst e; omega
      · rename_i h1 h2
        rw [cmp_zero x y, List.cons.injEq]
        exact ⟨fun e => ⟨UInt8.toNat_inj.1 (by omega), e⟩, fun e => e.2⟩
theorem cmp_trans : ∀ x y z : List UInt8, Lib.compareBytes x y ≤ 0 → Lib.compareBytes y z ≤ 0 → Lib.compareBytes x z ≤ 0
  | [], y, [], _, _ => by simp [Lib.compareBytes]
  | [], y, _ :: _, _, _ => by simp [Lib.compareBytes]
  | _ :: _, [], z, h, _ => by simp [Lib.compareBytes] at h
  | _ :: _, _ :: _, [], _, h => by simp [Lib.compareBytes] at h
  | a :: x, b :: y, c :: z, h1, h2 => by
    rw [cmp_cons] at h1 h2 ⊢
    have ih := cmp_trans x y z
    by_cases e1 : a.toNat < b.toNat
    · by_cases e2 : b.toNat < c.toNat
      · rw [if_pos (by omega)]; omega
      · rw [if_neg e2] at h2
        by_cases e3 : c.toNat < b.toNat
        · rw [if_pos e3] at h2; omega
        · rw [if_pos (by omega)]; omega
    · rw [if_neg e1] at h1
      by_cases e2 : b.toNat < a.toNat
      · rw [if_pos e2] at h1; omega
      · rw [if_neg e2] at h1
        by_cases e3 : b.toNat < c.toNat
        · rw [if_pos (by omega)]; omega
        · rw [if_neg e3] at h2
          by_cases e4 : c.toNat < b.toNat
          · rw [if_pos e4] at h2; omega
          · rw [if_neg e4] at h2
            rw [if_neg (by omega), if_neg (by omega)]
            exact ih h1 h2
theorem hexDigit_lt : ∀ n m : Fin 16, (hexDigit n.val).toNat < (hexDigit m.val).toNat ↔ n.val < m.val := by decide +kernel
theorem cmp_hex : ∀ x y : List UInt8, Lib.compareBytes (hexOf x) (hexOf y) = Lib.compareBytes x y
  | [], [] => rfl
  | [], b :: y => rfl
  | a :: x, [] => rfl
  | a :: x, b :: y => by
    have ih := cmp_hex x y
    have ha := a.toNat_lt
    have hb := b.toNat_lt
    have d1 := hexDigit_lt ⟨a.toNat / 16, by omega⟩ ⟨b.toNat / 16, by omega⟩
    have d2 := hexDigit_lt ⟨b.toNat / 16, by omega⟩ ⟨a.toNat / 16, by omega⟩
    have d3 := hexDigit_lt ⟨a.toNat % 16, by omega⟩ ⟨b.toNat % 16, by omega⟩
    have d4 := hexDigit_lt ⟨b.toNat % 16, by omega⟩ ⟨a.toNat % 16, by omega⟩
    simp only at d1 d2 d3 d4
    show Lib.compareBytes (hexDigit (a.toNat / 16) :: hexDigit (a.toNat % 16) :: hexOf x) (hexDigit (b.toNat / 16) :: hexDigit (b.toNat % 16) :: hexOf y) = _
    rw [cmp_cons, cmp_cons, cmp_cons, ih]
    simp only [d1, d2, d3, d4]
    by_cases h1 : a.toNat / 16 < b.toNat / 16
    · rw [if_pos h1, if_pos (by omega)]
    · rw [if_neg h1]
      by_cases h2 : b.toNat / 16 < a.toNat / 16
      · rw [if_pos h2, if_neg (by omega), if_pos (by omega)]
      · rw [if_neg h2]
        by_cases h3 : a.toNat % 16 < b.toNat % 16
        · rw [if_pos h3, if_pos (by omega)]
        · rw [if_neg h3]
          by_cases h4 : b.toNat % 16 < a.toNat % 16
          · rw [if_pos h4, if_neg (by omega), if_pos (by omega)]
          · rw [if_neg h4, if_neg (by omega), if_neg (by omega)]
end Go.Proofs.YtlhlfodmcffeoaaDoor
