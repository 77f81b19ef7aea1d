/-
  The product of two numbers in words of 31 bits, and how two of them compare: plain.
-/
namespace Go.Proofs.Ytoabdejoabfbeaa
/-- six words' value -/
def v6 (a b c d e f : Nat) : Nat := a + b * 2147483648 + c * 4611686018427387904 + d * 9903520314283042199192993792 + e * 21267647932558653966460912964485513216 + f * 45671926166590716193865151022383844364247891968
theorem prod3 (x0 x1 x2 y0 y1 y2 : Nat) : (x0 + x1 * 2147483648 + x2 * 4611686018427387904) * (y0 + y1 * 2147483648 + y2 * 4611686018427387904) =
    x0 * y0 + x0 * y1 * 2147483648 + x0 * y2 * 4611686018427387904 + x1 * y0 * 2147483648 + x1 * y1 * 4611686018427387904 + x1 * y2 * 9903520314283042199192993792 + x2 * y0 * 4611686018427387904 + x2 * y1 * 9903520314283042199192993792 + x2 * y2 * 21267647932558653966460912964485513216 := by
  simp only [Nat.add_mul, Nat.mul_add]
  have h1 : ∀ a b k : Nat, a * (b * k) = a * b * k := fun a b k => by rw [Nat.mul_assoc]
  have h2 : ∀ a k b : Nat, a * k * b = a * b * k := fun a k b => by rw [Nat.mul_assoc, Nat.mul_comm k b, Nat.mul_assoc]
  simp only [h1]
  rw [h2 x1 2147483648 y0, h2 x1 2147483648 y1, h2 x1 2147483648 y2, h2 x2 4611686018427387904 y0, h2 x2 4611686018427387904 y1, h2 x2 4611686018427387904 y2]
  omega
/-- which of two products' words is the greater, from the highest down -/
def geW (a b : List Nat) : Bool :=
  match a, b with
  | x :: a, y :: b => if x = y then geW a b else decide (y < x)
  | _, _ => true
theorem ge6 {a b c d e f a' b' c' d' e' f' : Nat} (h : a < 2147483648 ∧ b < 2147483648 ∧ c < 2147483648 ∧ d < 2147483648 ∧ e < 2147483648 ∧ f < 2147483648)
    (h' : a' < 2147483648 ∧ b' < 2147483648 ∧ c' < 2147483648 ∧ d' < 2147483648 ∧ e' < 2147483648 ∧ f' < 2147483648) :
    geW [f, e, d, c, b, a] [f', e', d', c', b', a'] = decide (v6 a' b' c' d' e' f' ≤ v6 a b c d e f) := by
  unfold v6
  simp only [geW]
  repeat' split
  all_goals first
    | (symm; rw [decide_eq_true_eq]; omega)
    | (apply decide_eq_decide.2; omega)
/-- 128-bit words compared -/
theorem geHi {N M : Nat} : (decide (M / 18446744073709551616 < N / 18446744073709551616) || (decide (N / 18446744073709551616 = M / 18446744073709551616) && decide (M % 18446744073709551616 ≤ N % 18446744073709551616))) = decide (M ≤ N) := by
  have h1 := Nat.div_add_mod N 18446744073709551616
  have h2 := Nat.div_add_mod M 18446744073709551616
  have h3 := Nat.mod_lt N (show 0 < 18446744073709551616 by omega)
  have h4 := Nat.mod_lt M (show 0 < 18446744073709551616 by omega)
  rw [Bool.eq_iff_iff]
  simp only [Bool.or_eq_true, Bool.and_eq_true, decide_eq_true_eq]
  omega
def w31 (j : Nat) : Nat := match j with
  | 0 => 1
  | 1 => 2147483648
  | 2 => 4611686018427387904
  | 3 => 9903520314283042199192993792
  | 4 => 21267647932558653966460912964485513216
  | _ => 45671926166590716193865151022383844364247891968
theorem times_fin {S0 S1 T p o c w w' : Nat} (h1 : S0 + c * w = T) (h2 : S1 + o * w = S0 + (o + c + p) % 2147483648 * w) (h3 : w' = 2147483648 * w) : S1 + (o + c + p) / 2147483648 * w' = T + p * w := by
  have e : (o + c + p) / 2147483648 * (2147483648 * w) + (o + c + p) % 2147483648 * w = (o + c + p) * w := by
    rw [← Nat.mul_assoc, ← Nat.add_mul, Nat.div_add_mod']
  have e2 : (o + c + p) * w = o * w + c * w + p * w := by simp only [Nat.add_mul]
  subst h3
  omega
theorem v6_0 (x o b c d e f : Nat) : v6 x b c d e f + o * 1 = v6 o b c d e f + x * 1 := by unfold v6; omega
theorem v6_1 (a x o c d e f : Nat) : v6 a x c d e f + o * 2147483648 = v6 a o c d e f + x * 2147483648 := by unfold v6; omega
theorem v6_2 (a b x o d e f : Nat) : v6 a b x d e f + o * 4611686018427387904 = v6 a b o d e f + x * 4611686018427387904 := by unfold v6; omega
theorem v6_3 (a b c x o e f : Nat) : v6 a b c x e f + o * 9903520314283042199192993792 = v6 a b c o e f + x * 9903520314283042199192993792 := by unfold v6; omega
theorem v6_4 (a b c d x o f : Nat) : v6 a b c d x f + o * 21267647932558653966460912964485513216 = v6 a b c d o f + x * 21267647932558653966460912964485513216 := by unfold v6; omega
theorem v6_z3 (a b c d e f : Nat) (h : d = 0) (y : Nat) : v6 a b c y e f = v6 a b c d e f + y * 9903520314283042199192993792 := by subst h; unfold v6; omega
theorem v6_z4 (a b c d e f : Nat) (h : e = 0) (y : Nat) : v6 a b c d y f = v6 a b c d e f + y * 21267647932558653966460912964485513216 := by subst h; unfold v6; omega
theorem v6_z5 (a b c d e f : Nat) (h : f = 0) (y : Nat) : v6 a b c d e y = v6 a b c d e f + y * 45671926166590716193865151022383844364247891968 := by subst h; unfold v6; omega
theorem w31_succ {j : Nat} (h : j < 5) : w31 (j + 1) = 2147483648 * w31 j := by
  rcases (by omega : j = 0 ∨ j = 1 ∨ j = 2 ∨ j = 3 ∨ j = 4) with rfl | rfl | rfl | rfl | rfl <;> rfl
/-- the products in their order, and each one's place -/
def pr (x0 x1 x2 y0 y1 y2 : Nat) (m : Nat) : Nat := match m with
  | 0 => x0 * y0 | 1 => x0 * y1 | 2 => x0 * y2 | 3 => x1 * y0 | 4 => x1 * y1 | 5 => x1 * y2 | 6 => x2 * y0 | 7 => x2 * y1 | _ => x2 * y2
def ix (m : Nat) : Nat := match m with
  | 0 => 0 | 1 => 1 | 2 => 2 | 3 => 1 | 4 => 2 | 5 => 3 | 6 => 2 | 7 => 3 | _ => 4
def sumT (x0 x1 x2 y0 y1 y2 : Nat) : Nat → Nat
  | 0 => 0
  | m + 1 => sumT x0 x1 x2 y0 y1 y2 m + pr x0 x1 x2 y0 y1 y2 m * w31 (ix m)
theorem sumT_end (x0 x1 x2 y0 y1 y2 : Nat) : (x0 + x1 * 2147483648 + x2 * 4611686018427387904) * (y0 + y1 * 2147483648 + y2 * 4611686018427387904) = sumT x0 x1 x2 y0 y1 y2 9 := by
  rw [prod3]
  simp only [sumT, pr, ix, w31, Nat.zero_add, Nat.mul_one]
theorem ix_at {i k : Nat} (hi : i < 3) (hk : k < 3) : ix (3 * i + k) = i + k := by
  rcases (by omega : i = 0 ∨ i = 1 ∨ i = 2) with rfl | rfl | rfl <;> rcases (by omega : k = 0 ∨ k = 1 ∨ k = 2) with rfl | rfl | rfl <;> rfl
end Go.Proofs.Ytoabdejoabfbeaa
