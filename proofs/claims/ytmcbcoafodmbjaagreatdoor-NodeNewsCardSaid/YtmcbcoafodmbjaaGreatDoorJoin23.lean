/-
  Texts joined: GKnuth, GDiv, Open, GPlain.
-/
import Derived.Test.YtmcbcoafodmbjaaGreatDoorJoin22
import Derived.Test.YtmcbcoafodmbjaaGreatDoorProg
import Derived.Test.YtmcbcoafodmbjaaGreatDoorShelf
import Derived.Lib.ItoaNum
import Derived.WalkKit
import Derived.Carry
import Derived.OpenShut
import Derived.ChangeMaps5
import Derived.Deep.Slices

/-
  Knuth's division of two words by one, in plain Lean, over any base: no program in sight.
-/
namespace Go.Proofs.YtmcbcoafodmbjaaGreatDoor
theorem mulB (q y1 y0 B : Nat) : q * (y1 * B + y0) = q * y1 * B + q * y0 := by rw [Nat.mul_add, Nat.mul_assoc]
theorem guess_high {B q r y1 y0 u a : Nat} (hq : q * y1 + r = u) (h : r * B + a < q * y0) : (u * B + a) / (y1 * B + y0) < q := by
  have hy : 0 < y1 * B + y0 := by
    rcases Nat.eq_zero_or_pos (y1 * B + y0) with h0 | h0
    · have : y0 = 0 := by omega
      subst this; simp at h
    · exact h0
  rw [Nat.div_lt_iff_lt_mul hy, mulB, ← hq, Nat.add_mul]
  omega
theorem guess_low {B q r y1 y0 u a : Nat} (hy : 0 < y1 * B + y0) (hq : q * y1 + r = u) (h : q * y0 ≤ r * B + a) : q ≤ (u * B + a) / (y1 * B + y0) := by
  rw [Nat.le_div_iff_mul_le hy, mulB, ← hq, Nat.add_mul]
  omega
theorem quot_small {B y u a : Nat} (hu : u < y) (ha : a < B) : (u * B + a) / y < B := by
  rw [Nat.div_lt_iff_lt_mul (by omega)]
  have h1 : (u + 1) * B ≤ y * B := Nat.mul_le_mul_right _ hu
  have h2 : (u + 1) * B = u * B + B := Nat.succ_mul u B
  rw [Nat.mul_comm B y]
  omega
theorem guess_first {B y1 y0 u a : Nat} (hB : 0 < B) (hy1 : B ≤ 2 * y1) (hy0 : y0 < B) (hu : u < y1 * B + y0) (ha : a < B) :
    u / y1 * y1 + u % y1 = u ∧ (u * B + a) / (y1 * B + y0) ≤ u / y1 ∧ u / y1 ≤ B + 1 := by
  have hp : 0 < y1 := by omega
  have hy : 0 < y1 * B + y0 := by omega
  refine ⟨Nat.div_add_mod' u y1, ?_, ?_⟩
  · rw [← Nat.lt_succ_iff, Nat.div_lt_iff_lt_mul hy]
    have h1 : u + 1 ≤ (u / y1 + 1) * y1 := by
      have := Nat.div_add_mod' u y1
      have h2 := Nat.mod_lt u hp
      rw [Nat.succ_mul]; omega
    have h3 : (u + 1) * B ≤ (u / y1 + 1) * y1 * B := Nat.mul_le_mul_right _ h1
    have h4 : (u + 1) * B = u * B + B := Nat.succ_mul u B
    show _ < (u / y1 + 1) * _
    rw [mulB]
    omega
  · rw [← Nat.lt_succ_iff, Nat.div_lt_iff_lt_mul hp]
    have h1 : (B + 2) * y1 = y1 * B + 2 * y1 := by rw [Nat.add_mul, Nat.mul_comm B y1]
    show u < (B + 2) * y1
    omega
theorem two_digits {B D U u1 u0 q1 r1 q0 r0 : Nat} (hD : 0 < D) (h1 : q1 = (U * B + u1) / D) (hr1 : r1 = (U * B + u1) % D) (h0 : q0 = (r1 * B + u0) / D) (hr0 : r0 = (r1 * B + u0) % D) :
    q1 * B + q0 = (U * (B * B) + (u1 * B + u0)) / D ∧ r0 = (U * (B * B) + (u1 * B + u0)) % D := by
  have e1 := Nat.div_add_mod (U * B + u1) D
  have e0 := Nat.div_add_mod (r1 * B + u0) D
  rw [← h1, ← hr1] at e1
  rw [← h0, ← hr0] at e0
  have hlt : r0 < D := by rw [hr0]; exact Nat.mod_lt _ hD
  have e : U * (B * B) + (u1 * B + u0) = r0 + D * (q1 * B + q0) := by
    have a1 : U * (B * B) + (u1 * B + u0) = (U * B + u1) * B + u0 := by rw [Nat.add_mul, Nat.mul_assoc]; omega
    have a2 : D * (q1 * B + q0) = D * q1 * B + D * q0 := mulB D q1 q0 B
    rw [a1, a2, ← e1, Nat.add_mul]
    omega
  rw [e, Nat.add_mul_div_left _ _ hD, Nat.add_mul_mod_self_left, Nat.div_eq_of_lt hlt, Nat.mod_eq_of_lt hlt]
  exact ⟨by omega, rfl⟩
theorem shift_div (N y s : Nat) : N * 2 ^ s / (y * 2 ^ s) = N / y := Nat.mul_div_mul_right _ _ (Nat.two_pow_pos s)
theorem shift_mod (N y s : Nat) : N * 2 ^ s % (y * 2 ^ s) / 2 ^ s = N % y := by
  rw [Nat.mul_mod_mul_right, Nat.mul_div_cancel _ (Nat.two_pow_pos s)]
theorem shift_two (M hi lo s k : Nat) (h2 : 2 ^ k * 2 ^ s = M) : (hi * M + lo) * 2 ^ s = (hi * 2 ^ s + lo / 2 ^ k) * M + lo * 2 ^ s % M := by
  have h3 : lo * 2 ^ s = lo / 2 ^ k * M + lo * 2 ^ s % M := by
    have e := Nat.div_add_mod' (lo * 2 ^ s) M
    have : lo * 2 ^ s / M = lo / 2 ^ k := by rw [← h2, Nat.mul_div_mul_right _ _ (Nat.two_pow_pos s)]
    rw [this] at e
    exact e.symm
  have e1 : (hi * M + lo) * 2 ^ s = hi * 2 ^ s * M + lo * 2 ^ s := by rw [Nat.add_mul, Nat.mul_right_comm]
  have e2 : (hi * 2 ^ s + lo / 2 ^ k) * M = hi * 2 ^ s * M + lo / 2 ^ k * M := Nat.add_mul _ _ _
  omega
end Go.Proofs.YtmcbcoafodmbjaaGreatDoor

/-
  bits.Mul64 and bits.Div64: the whole product of two words; two words divided by one.
-/
namespace Go.Proofs.YtmcbcoafodmbjaaGreatDoor
open Go.RowKit
set_option linter.unusedVariables false
set_option linter.unusedSimpArgs false
set_option maxRecDepth 10000
theorem mul64_runs (x y : Nat) (hx : x < 18446744073709551616) (hy : y < 18446744073709551616) (w : World) : Runs Tryz.prog 135 #[.int .u64 x, .int .u64 y] w (.tuple #[.int .u64 ((x * y / 18446744073709551616 : Nat) : Int), .int .u64 ((x * y % 18446744073709551616 : Nat) : Int)]) w :=
  Tryz.bits_Mul64 x y hx hy w
theorem noinit_mul64 : Tryz.prog.inits.idxOf? 135 = none := by kernel_rfl
theorem lz_runs (x : Nat) (hx : x < 18446744073709551616) (w : World) : Runs Tryz.prog 201 #[.int .u64 x] w (.int .i64 (64 - (Lib.bitLen x : Int))) w := by
  have := Tryz.bits_LeadingZeros64 x w (by omega) (by omega)
  rw [Int.toNat_natCast] at this
  exact this
theorem noinit_lz : Tryz.prog.inits.idxOf? 201 = none := by kernel_rfl
theorem norm_shift (y : Nat) (h0 : 0 < y) (hy : y < 18446744073709551616) : ∃ s : Nat, (64 : Int) - (Lib.bitLen y : Int) = s ∧ s ≤ 63 ∧ 9223372036854775808 ≤ y * 2 ^ s ∧ y * 2 ^ s < 18446744073709551616 := by
  obtain ⟨h1, h2, h3⟩ := Lib.bitLenAux_bounds 64 y hy (by omega)
  have hle : Lib.bitLenAux 64 y ≤ 64 := by
    rcases Nat.lt_or_ge 64 (Lib.bitLenAux 64 y) with h | h
    · have : 2 ^ 64 ≤ 2 ^ (Lib.bitLenAux 64 y - 1) := Nat.pow_le_pow_right (by omega) (by omega)
      have e : (2 : Nat) ^ 64 = 18446744073709551616 := by decide
      omega
    · exact h
  unfold Lib.bitLen
  generalize Lib.bitLenAux 64 y = n at *
  refine ⟨64 - n, by omega, by omega, ?_, ?_⟩
  · have : 2 ^ (n - 1) * 2 ^ (64 - n) = 9223372036854775808 := by rw [← Nat.pow_add, show n - 1 + (64 - n) = 63 by omega]
    rw [← this]; exact Nat.mul_le_mul_right _ h2
  · have : 2 ^ n * 2 ^ (64 - n) = 18446744073709551616 := by rw [← Nat.pow_add, show n + (64 - n) = 64 by omega]
    rw [← this]; exact (Nat.mul_lt_mul_right (Nat.two_pow_pos _)).2 h3
theorem wrapN (a : Nat) (ha : a < 18446744073709551616) : IntKind.u64.wrap (a : Int) = (a : Int) := by rw [IntKind.wrap_u64]; omega
theorem wrapM (a : Nat) : IntKind.u64.wrap (a : Int) = ((a % 18446744073709551616 : Nat) : Int) := by rw [IntKind.wrap_u64]; omega
theorem maskN (a : Nat) (ha : a < 18446744073709551616) : bits .and .u64 (a : Int) 4294967295 = ((a % 4294967296 : Nat) : Int) := by
  have h := bits_and_u64_nat a 4294967295 ha (by omega)
  rw [show a &&& 4294967295 = a % 4294967296 from Nat.and_two_pow_sub_one_eq_mod a 32] at h
  exact h
theorem rest_word (U u P r : Nat) (h : U * 4294967296 + u = P + r) (hr : r < 18446744073709551616) :
    IntKind.u64.wrap (IntKind.u64.wrap (IntKind.u64.wrap ((U : Int) * 4294967296) + (u : Int)) - IntKind.u64.wrap (P : Int)) = (r : Int) := by
  simp only [IntKind.wrap_u64]; omega
theorem guess_start {y1 y0 U a D : Nat} (eD : D = y1 * 4294967296 + y0) (by1 : 2147483648 ≤ y1 ∧ y1 < 4294967296) (by0 : y0 < 4294967296) (ha : a < 4294967296) (hUD : U < D) (hD2 : D < 18446744073709551616) :
    ∃ q r P : Nat, IntKind.u64.wrap ((U : Int).tdiv y1) = (q : Int) ∧ IntKind.u64.wrap ((U : Int) / y1) = (q : Int) ∧ IntKind.u64.wrap ((q : Int) * y1) = (P : Int) ∧ IntKind.u64.wrap ((U : Int) - P) = (r : Int) ∧
      q * y1 + r = U ∧ (U * 4294967296 + a) / (y1 * 4294967296 + y0) ≤ q ∧ q ≤ 4294967297 ∧ r < 4294967296 := by
  obtain ⟨g1, g2, g3⟩ := guess_first (B := 4294967296) (y1 := y1) (y0 := y0) (u := U) (a := a) (by omega) (by omega) by0 (by omega) ha
  have hr : U % y1 < y1 := Nat.mod_lt _ (by omega)
  have fq : IntKind.u64.wrap ((U : Int).tdiv y1) = ((U / y1 : Nat) : Int) := by
    rw [show (U : Int).tdiv y1 = ((U / y1 : Nat) : Int) from rfl, wrapN _ (by omega)]
  refine ⟨U / y1, U % y1, U / y1 * y1, fq, ?_, ?_, ?_, g1, g2, g3, by omega⟩
  · rw [← fq, show (U : Int).tdiv y1 = ((U / y1 : Nat) : Int) from rfl]; simp
  · rw [show ((U / y1 : Nat) : Int) * y1 = ((U / y1 * y1 : Nat) : Int) by simp, wrapN _ (by omega)]
  · rw [show (U : Int) - ((U / y1 * y1 : Nat) : Int) = ((U % y1 : Nat) : Int) by omega, wrapN _ (by omega)]
theorem guess_step {y1 y0 U a q r T : Nat} (hT : (U * 4294967296 + a) / (y1 * 4294967296 + y0) = T) (by1 : 2147483648 ≤ y1 ∧ y1 < 4294967296) (by0 : y0 < 4294967296) (ha : a < 4294967296)
    (hTB : T < 4294967296) (hqr : q * y1 + r = U) (hTq : T ≤ q) (hqB : q ≤ 4294967297) (hrB : r < 4294967296) :
    ∃ Z1 Z Z2 q1 r1 : Nat, (q ≤ 4294967295 → IntKind.u64.wrap ((q : Int) * y0) = (Z2 : Int)) ∧ IntKind.u64.wrap (4294967296 * (r : Int)) = (Z1 : Int) ∧ IntKind.u64.wrap ((Z1 : Int) + a) = (Z : Int) ∧
      ((4294967296 ≤ q ∨ Z < Z2) → IntKind.u64.wrap ((q : Int) - 1) = (q1 : Int) ∧ IntKind.u64.wrap ((r : Int) + y1) = (r1 : Int) ∧ q1 * y1 + r1 = U ∧ T ≤ q1 ∧ q1 ≤ 4294967297 ∧ q1 < q ∧ (4294967296 ≤ r1 → q1 = T)) ∧
      (¬ 4294967296 ≤ q → ¬ Z < Z2 → q = T) := by
  have hpos : 0 < y1 * 4294967296 + y0 := by omega
  have hqP : q ≤ 4294967295 → q * y0 ≤ 18446744065119617025 := fun h => Nat.mul_le_mul h (show y0 ≤ 4294967295 by omega)
  have hqP2 : (q - 1) * y0 ≤ 18446744069414584320 := Nat.mul_le_mul (show q - 1 ≤ 4294967296 by omega) (show y0 ≤ 4294967295 by omega)
  have hlow : q * y0 ≤ r * 4294967296 + a → q ≤ T := fun h => by have := guess_low (B := 4294967296) hpos hqr h; rw [hT] at this; exact this
  have hhigh : r * 4294967296 + a < q * y0 → T < q := fun h => by have := guess_high (B := 4294967296) hqr h; rw [hT] at this; exact this
  have hstep : 1 ≤ q → (q - 1) * y1 + (r + y1) = U := fun h => by
    have e : q * y1 = (q - 1) * y1 + y1 := by
      conv => lhs; rw [show q = q - 1 + 1 by omega, Nat.succ_mul]
    omega
  have hlast : 1 ≤ q → 4294967296 ≤ r + y1 → q - 1 ≤ T := fun h h' => by
    have := guess_low (B := 4294967296) (a := a) hpos (hstep h) (by omega)
    rw [hT] at this; exact this
  refine ⟨r * 4294967296, r * 4294967296 + a, q * y0, q - 1, r + y1, ?_, ?_, ?_, ?_, ?_⟩
  · intro h
    rw [show (q : Int) * y0 = ((q * y0 : Nat) : Int) by simp, wrapN _ (by have := hqP h; omega)]
  · rw [show 4294967296 * (r : Int) = ((r * 4294967296 : Nat) : Int) by omega, wrapN _ (by omega)]
  · rw [show ((r * 4294967296 : Nat) : Int) + a = ((r * 4294967296 + a : Nat) : Int) by omega, wrapN _ (by omega)]
  · intro h
    have hq : 1 ≤ q ∧ T < q := by
      rcases h with h | h
      · exact ⟨by omega, by omega⟩
      · have := hhigh h; exact ⟨by omega, this⟩
    refine ⟨?_, ?_, hstep hq.1, by omega, by omega, by omega, fun h' => by have := hlast hq.1 h'; omega⟩
    · rw [show (q : Int) - 1 = ((q - 1 : Nat) : Int) by omega, wrapN _ (by omega)]
    · rw [show (r : Int) + y1 = ((r + y1 : Nat) : Int) by omega, wrapN _ (by omega)]
  · intro h1 h2
    have := hlow (by omega); omega
set_option maxHeartbeats 1600000 in
theorem div64_any (hi lo y : Nat) (hlo : lo < 18446744073709551616) (hy : y < 18446744073709551616) (hlt : hi < y) (w : World) :
    callE Tryz.prog 136 #[.int .u64 hi, .int .u64 lo, .int .u64 y] w fun v w' =>
      v = .tuple #[.int .u64 (((hi * 18446744073709551616 + lo) / y : Nat) : Int), .int .u64 (((hi * 18446744073709551616 + lo) % y : Nat) : Int)] ∧ Below w.heap.size w w' := by
  have hy0 : ((y : Int) == 0) = false := by simp; omega
  have hle : ¬ (y : Int) ≤ hi := by omega
  refine calls_E Tryz.func136 rfl rfl rfl (Nat.le_of_ble_eq_true rfl) ?_
  by_cases h0 : hi = 0
  · have h0' : ((hi : Int) == 0) = true := by simp; omega
    have e1 : IntKind.u64.wrap ((lo : Int).tdiv y) = ((lo / y : Nat) : Int) := by
      rw [show (lo : Int).tdiv y = ((lo / y : Nat) : Int) from rfl, wrapN]
      exact Nat.lt_of_le_of_lt (Nat.div_le_self _ _) hlo
    have e1' : IntKind.u64.wrap ((lo : Int) / y) = ((lo / y : Nat) : Int) := by rw [← e1, show (lo : Int).tdiv y = ((lo / y : Nat) : Int) from rfl]; simp
    have e2 : ((lo : Int)).tmod y = ((lo % y : Nat) : Int) := rfl
    have hN : hi * 18446744073709551616 + lo = lo := by omega
    have hyn : ¬ (y : Int) = 0 := by omega
    rw [hN]
    generalize lo / y = q at *
    generalize lo % y = r at *
    clear h0 hN hlt
    simp [go_sem, IntWalk.iteOmega, IntWalk.toNatUp, hy0, hle, h0']
    refine W_still follows (by kernel_rfl) ?_
    simp [go_sem, IntWalk.iteOmega, IntWalk.toNatUp, hy0, hle, h0', e1, e2, hyn]
    exact ⟨e1', ext_drew w⟩
  · have h0' : ((hi : Int) == 0) = false := by simp; omega
    obtain ⟨s, hs, hs63, hD1, hD2⟩ := norm_shift y (by omega) hy
    have hz := fun w k => callE_eq noinit_lz (lz_runs y hy w) k
    rw [hs] at hz
    have fs : IntKind.u64.wrap (s : Int) = s := wrapN s (by omega)
    have fk : IntKind.u64.wrap (64 - (s : Int)) = ((64 - s : Nat) : Int) := by rw [IntKind.wrap_u64]; omega
    have fm : min s 64 = s := Nat.min_eq_left (by omega)
    have fm2 : min (64 - s) 64 = 64 - s := Nat.min_eq_left (by omega)
    have hk2 : 2 ^ (64 - s) * 2 ^ s = 18446744073709551616 := by rw [← Nat.pow_add, Nat.sub_add_cancel (by omega)]
    have hN := shift_two 18446744073709551616 hi lo s (64 - s) hk2
    have hdv := shift_div (hi * 18446744073709551616 + lo) y s
    have hmd := shift_mod (hi * 18446744073709551616 + lo) y s
    rw [← hdv, ← hmd, hN]
    have hHD : hi * 2 ^ s + 2 ^ s ≤ y * 2 ^ s := by rw [← Nat.succ_mul]; exact Nat.mul_le_mul_right _ hlt
    have hL : lo / 2 ^ (64 - s) < 2 ^ s := by rw [Nat.div_lt_iff_lt_mul (Nat.two_pow_pos _), Nat.mul_comm, hk2]; exact hlo
    have hUD : hi * 2 ^ s + lo / 2 ^ (64 - s) < y * 2 ^ s := Nat.lt_of_lt_of_le (Nat.add_lt_add_left hL _) hHD
    have hHM : hi * 2 ^ s < 18446744073709551616 := Nat.lt_of_le_of_lt (Nat.le_trans (Nat.le_add_right _ _) hHD) hD2
    have hLM : lo / 2 ^ (64 - s) < 18446744073709551616 := Nat.lt_of_le_of_lt (Nat.div_le_self _ _) hlo
    have fD : IntKind.u64.wrap ((y : Int) * 2 ^ s) = ((y * 2 ^ s : Nat) : Int) := by
      rw [show (y : Int) * 2 ^ s = ((y * 2 ^ s : Nat) : Int) by simp, wrapN _ hD2]
    have fH : IntKind.u64.wrap ((hi : Int) * 2 ^ s) = ((hi * 2 ^ s : Nat) : Int) := by
      rw [show (hi : Int) * 2 ^ s = ((hi * 2 ^ s : Nat) : Int) by simp, wrapN _ hHM]
    have fL : (lo : Int) / 2 ^ (64 - s) = ((lo / 2 ^ (64 - s) : Nat) : Int) := by simp
    have fU : bits .or .u64 ((hi * 2 ^ s : Nat) : Int) ((lo / 2 ^ (64 - s) : Nat) : Int) = ((hi * 2 ^ s + lo / 2 ^ (64 - s) : Nat) : Int) := by
      rw [bits_or_u64_nat _ _ hHM hLM, Nat.mul_comm hi, ← Nat.two_pow_add_eq_or_of_lt hL]
    have fV : IntKind.u64.wrap ((lo : Int) * 2 ^ s) = ((lo * 2 ^ s % 18446744073709551616 : Nat) : Int) := by
      rw [show (lo : Int) * 2 ^ s = ((lo * 2 ^ s : Nat) : Int) by simp, wrapM]
    have hV : lo * 2 ^ s % 18446744073709551616 < 18446744073709551616 := Nat.mod_lt _ (by omega)
    have fsh : ∀ a : Nat, (a : Int) / 2 ^ s = ((a / 2 ^ s : Nat) : Int) := fun a => by simp
    clear hHD hL hN hdv hmd hk2 hlt hs hHM hLM
    generalize 64 - s = k at *
    generalize hi * 2 ^ s + lo / 2 ^ k = U at *
    generalize hi * 2 ^ s = H at *
    generalize lo / 2 ^ k = L at *
    generalize lo * 2 ^ s % 18446744073709551616 = V at *
    generalize y * 2 ^ s = D at *
    obtain ⟨y1, hy1⟩ : ∃ y1, y1 = D / 4294967296 := ⟨_, rfl⟩
    obtain ⟨y0, hy0'⟩ : ∃ y0, y0 = D % 4294967296 := ⟨_, rfl⟩
    obtain ⟨u1, hu1⟩ : ∃ u1, u1 = V / 4294967296 := ⟨_, rfl⟩
    obtain ⟨u0, hu0⟩ : ∃ u0, u0 = V % 4294967296 := ⟨_, rfl⟩
    have fy1 : (D : Int) / 4294967296 = (y1 : Int) := by omega
    have fy0 : bits .and .u64 (D : Int) 4294967295 = (y0 : Int) := by rw [maskN D hD2, hy0']
    have fu1 : (V : Int) / 4294967296 = (u1 : Int) := by omega
    have fu0 : bits .and .u64 (V : Int) 4294967295 = (u0 : Int) := by rw [maskN V hV, hu0]
    have by1 : 2147483648 ≤ y1 ∧ y1 < 4294967296 := by omega
    have by0 : y0 < 4294967296 := by omega
    have bu1 : u1 < 4294967296 := by omega
    have bu0 : u0 < 4294967296 := by omega
    have eD : D = y1 * 4294967296 + y0 := by omega
    have eV : V = u1 * 4294967296 + u0 := by omega
    clear hy1 hy0' hu1 hu0
    obtain ⟨g1, g2, g3⟩ := guess_first (B := 4294967296) (y1 := y1) (y0 := y0) (u := U) (a := u1) (by omega) (by omega) by0 (by omega) bu1
    have hUM : U < 18446744073709551616 := by omega
    have fq : IntKind.u64.wrap ((U : Int).tdiv y1) = ((U / y1 : Nat) : Int) := by
      rw [show (U : Int).tdiv y1 = ((U / y1 : Nat) : Int) from rfl, wrapN _ (by omega)]
    have fq' : IntKind.u64.wrap ((U : Int) / y1) = ((U / y1 : Nat) : Int) := by rw [← fq, show (U : Int).tdiv y1 = ((U / y1 : Nat) : Int) from rfl]; simp
    have hmodU : U % y1 < y1 := Nat.mod_lt _ (by omega)
    have fP : IntKind.u64.wrap (((U / y1 : Nat) : Int) * y1) = ((U / y1 * y1 : Nat) : Int) := by
      rw [show ((U / y1 : Nat) : Int) * y1 = ((U / y1 * y1 : Nat) : Int) by simp, wrapN _ (by omega)]
    have fr : IntKind.u64.wrap ((U : Int) - ((U / y1 * y1 : Nat) : Int)) = ((U % y1 : Nat) : Int) := by
      rw [show (U : Int) - ((U / y1 * y1 : Nat) : Int) = ((U % y1 : Nat) : Int) by omega, wrapN _ (by omega)]
    have hy1n : ¬ (y1 : Int) = 0 := by omega
    have g1' : U / y1 * y1 + U % y1 = U := by rw [Nat.mul_comm]; exact Nat.div_add_mod U y1
    generalize U / y1 * y1 = P at fP fr
    generalize hq0 : U / y1 = q0 at *
    generalize U % y1 = r0 at *
    have hT1 : (U * 4294967296 + u1) / (y1 * 4294967296 + y0) = (U * 4294967296 + u1) / D := by rw [eD]
    rw [hT1] at g2
    obtain ⟨T1, hT1'⟩ : ∃ T1, T1 = (U * 4294967296 + u1) / D := ⟨_, rfl⟩
    have hT1B : T1 < 4294967296 := by rw [hT1']; exact quot_small hUD bu1
    rw [← hT1'] at g2 hT1
    replace g3 : q0 ≤ 4294967297 := g3
    simp [go_sem, IntWalk.iteOmega, IntWalk.toNatUp, hy0, hle, h0', hz, fs, fk, fm, fm2, fD, fH, fL, fU, fV, fy1, fy0, fu1, fu0, hy1n, fq, fq', fP, fr]
    clear fs fk fm fm2 fD fH fL fU fV fy1 fy0 fu1 fu0 fq fq' fP fr hz hle h0' hy0
    refine W_loopAt 0 (fun s' wr => ∃ q r : Nat, s' 15 = .int .u64 q ∧ s' 16 = .int .u64 r ∧ s' 2 = .int .u64 (D : Nat) ∧ s' 8 = .int .u64 (s : Nat) ∧ s' 9 = .int .u64 (y1 : Nat) ∧ s' 10 = .int .u64 (y0 : Nat) ∧ s' 11 = .int .u64 (U : Nat) ∧ s' 13 = .int .u64 (u1 : Nat) ∧ s' 14 = .int .u64 (u0 : Nat) ∧ q * y1 + r = U ∧ T1 ≤ q ∧ q ≤ 4294967297 ∧ r < 4294967296 ∧ wr = w) (fun s' _ => (intOf (s' 15)).toNat)
      (fun s' wr => s' 15 = .int .u64 T1 ∧ s' 2 = .int .u64 (D : Nat) ∧ s' 8 = .int .u64 (s : Nat) ∧ s' 9 = .int .u64 (y1 : Nat) ∧ s' 10 = .int .u64 (y0 : Nat) ∧ s' 11 = .int .u64 (U : Nat) ∧ s' 13 = .int .u64 (u1 : Nat) ∧ s' 14 = .int .u64 (u0 : Nat) ∧ wr = w) ?_ ?_ ?_
    · exact ⟨q0, r0, by simp [go_sem], by simp [go_sem], by simp [go_sem], by simp [go_sem], by simp [go_sem], by simp [go_sem], by simp [go_sem], by simp [go_sem], by simp [go_sem], g1, g2, g3, by omega, rfl⟩
    · rintro s' wr ⟨q, r, e15, e16, k2, k8, k9, k10, k11, k13, k14, hqr, hTq, hqB, hrB, rfl⟩
      obtain ⟨Z1, Z, Z2, q1, r1, fA, fB, fC, hcc, hdd⟩ := guess_step hT1 by1 by0 bu1 hT1B hqr hTq hqB hrB
      by_cases hc1 : 4294967296 ≤ q
      · obtain ⟨fE, fG, hstep, hTq1, hq1B, hlt1, hend⟩ := hcc (.inl hc1)
        have hc1' : (4294967296 : Int) ≤ q := by omega
        clear fA hcc hdd
        by_cases hb : 4294967296 ≤ r1
        · have hb' : (4294967296 : Int) ≤ r1 := by omega
          have hqT : q1 = T1 := hend hb
          simp [go_sem, IntWalk.iteOmega, IntWalk.toNatUp, e15, e16, k2, k8, k9, k10, k11, k13, k14, hc1', fE, fG, hb']
          rw [hqT]
        · have hb' : ¬ (4294967296 : Int) ≤ r1 := by omega
          simp [go_sem, IntWalk.iteOmega, IntWalk.toNatUp, e15, e16, k2, k8, k9, k10, k11, k13, k14, hc1', fE, fG, hb']
          refine roundEnd.mk ⟨q1, r1, by simp [go_sem], by simp [go_sem], by simp [go_sem, k2], by simp [go_sem, k8], by simp [go_sem, k9], by simp [go_sem, k10], by simp [go_sem, k11], by simp [go_sem, k13], by simp [go_sem, k14], hstep, hTq1, hq1B, by omega, rfl⟩ ?_
          simp [go_sem, intOf, e15]; exact hlt1
      · have hc1' : ¬ (4294967296 : Int) ≤ q := by omega
        have fA := fA (by omega)
        by_cases hc2 : Z < Z2
        · obtain ⟨fE, fG, hstep, hTq1, hq1B, hlt1, hend⟩ := hcc (.inr hc2)
          have hc2' : (Z : Int) < (Z2 : Int) := by omega
          clear hcc hdd
          by_cases hb : 4294967296 ≤ r1
          · have hb' : (4294967296 : Int) ≤ r1 := by omega
            have hqT : q1 = T1 := hend hb
            simp [go_sem, IntWalk.iteOmega, IntWalk.toNatUp, e15, e16, k2, k8, k9, k10, k11, k13, k14, hc1', hc2', fA, fB, fC, fE, fG, hb']
            rw [hqT]
          · have hb' : ¬ (4294967296 : Int) ≤ r1 := by omega
            simp [go_sem, IntWalk.iteOmega, IntWalk.toNatUp, e15, e16, k2, k8, k9, k10, k11, k13, k14, hc1', hc2', fA, fB, fC, fE, fG, hb']
            refine roundEnd.mk ⟨q1, r1, by simp [go_sem], by simp [go_sem], by simp [go_sem, k2], by simp [go_sem, k8], by simp [go_sem, k9], by simp [go_sem, k10], by simp [go_sem, k11], by simp [go_sem, k13], by simp [go_sem, k14], hstep, hTq1, hq1B, by omega, rfl⟩ ?_
            simp [go_sem, intOf, e15]; exact hlt1
        · have hc2' : ¬ (Z : Int) < (Z2 : Int) := by omega
          have hqT : q = T1 := hdd hc1 hc2
          clear hcc hdd
          simp [go_sem, IntWalk.iteOmega, IntWalk.toNatUp, e15, e16, k2, k8, k9, k10, k11, k13, k14, hc1', hc2', fA, fB, fC]
          rw [hqT]
    · rintro s' wr ⟨k15, k2, k8, k9, k10, k11, k13, k14, rfl⟩
      obtain ⟨R1, hR1⟩ : ∃ R1, R1 = (U * 4294967296 + u1) % D := ⟨_, rfl⟩
      have hR1D : R1 < D := by rw [hR1]; exact Nat.mod_lt _ (by omega)
      have eR1 : U * 4294967296 + u1 = T1 * D + R1 := by rw [hT1', hR1]; exact (Nat.div_add_mod' _ _).symm
      have fR1 : IntKind.u64.wrap (IntKind.u64.wrap (IntKind.u64.wrap ((U : Int) * 4294967296) + (u1 : Int)) - IntKind.u64.wrap ((T1 : Int) * (D : Int))) = (R1 : Int) := by
        rw [show (T1 : Int) * (D : Int) = ((T1 * D : Nat) : Int) by simp]
        exact rest_word U u1 (T1 * D) R1 eR1 (by omega)
      obtain ⟨q0, r0, P, fq, fq', fP, fr, g1, g2, g3, g4⟩ := guess_start (a := u0) eD by1 by0 bu0 hR1D hD2
      have hT0 : (R1 * 4294967296 + u0) / (y1 * 4294967296 + y0) = (R1 * 4294967296 + u0) / D := by rw [eD]
      rw [hT0] at g2
      obtain ⟨T0, hT0'⟩ : ∃ T0, T0 = (R1 * 4294967296 + u0) / D := ⟨_, rfl⟩
      have hT0B : T0 < 4294967296 := by rw [hT0']; exact quot_small hR1D bu0
      rw [← hT0'] at g2 hT0
      simp [go_sem, IntWalk.iteOmega, IntWalk.toNatUp, k15, k2, k8, k9, k10, k11, k13, k14, fR1, hy1n, fq, fq', fP, fr]
      refine W_loopAt 2 (fun s' w1 => ∃ q r : Nat, s' 18 = .int .u64 q ∧ s' 16 = .int .u64 r ∧ s' 2 = .int .u64 (D : Nat) ∧ s' 8 = .int .u64 (s : Nat) ∧ s' 9 = .int .u64 (y1 : Nat) ∧ s' 10 = .int .u64 (y0 : Nat) ∧ s' 15 = .int .u64 (T1 : Nat) ∧ s' 17 = .int .u64 (R1 : Nat) ∧ s' 14 = .int .u64 (u0 : Nat) ∧ q * y1 + r = R1 ∧ T0 ≤ q ∧ q ≤ 4294967297 ∧ r < 4294967296 ∧ w1 = wr) (fun s' _ => (intOf (s' 18)).toNat)
        (fun s' w1 => s' 18 = .int .u64 T0 ∧ s' 2 = .int .u64 (D : Nat) ∧ s' 8 = .int .u64 (s : Nat) ∧ s' 15 = .int .u64 (T1 : Nat) ∧ s' 17 = .int .u64 (R1 : Nat) ∧ s' 14 = .int .u64 (u0 : Nat) ∧ w1 = wr) ?_ ?_ ?_
      · exact ⟨q0, r0, by simp [go_sem], by simp [go_sem], by simp [go_sem, k2], by simp [go_sem, k8], by simp [go_sem, k9], by simp [go_sem, k10], by simp [go_sem, k15], by simp [go_sem], by simp [go_sem, k14], g1, g2, g3, g4, rfl⟩
      · rintro s' w1 ⟨q, r, e18, e16, k2, k8, k9, k10, k15, k17, k14, hqr, hTq, hqB, hrB, rfl⟩
        obtain ⟨Z1, Z, Z2, q1, r1, fA, fB, fC, hcc, hdd⟩ := guess_step hT0 by1 by0 bu0 hT0B hqr hTq hqB hrB
        by_cases hc1 : 4294967296 ≤ q
        · obtain ⟨fE, fG, hstep, hTq1, hq1B, hlt1, hend⟩ := hcc (.inl hc1)
          have hc1' : (4294967296 : Int) ≤ q := by omega
          clear fA hcc hdd
          by_cases hb : 4294967296 ≤ r1
          · have hb' : (4294967296 : Int) ≤ r1 := by omega
            have hqT : q1 = T0 := hend hb
            simp [go_sem, IntWalk.iteOmega, IntWalk.toNatUp, e18, e16, k2, k8, k9, k10, k15, k17, k14, hc1', fE, fG, hb']
            rw [hqT]
          · have hb' : ¬ (4294967296 : Int) ≤ r1 := by omega
            simp [go_sem, IntWalk.iteOmega, IntWalk.toNatUp, e18, e16, k2, k8, k9, k10, k15, k17, k14, hc1', fE, fG, hb']
            refine roundEnd.mk ⟨q1, r1, by simp [go_sem], by simp [go_sem], by simp [go_sem, k2], by simp [go_sem, k8], by simp [go_sem, k9], by simp [go_sem, k10], by simp [go_sem, k15], by simp [go_sem, k17], by simp [go_sem, k14], hstep, hTq1, hq1B, by omega, rfl⟩ ?_
            simp [go_sem, intOf, e18]; exact hlt1
        · have hc1' : ¬ (4294967296 : Int) ≤ q := by omega
          have fA := fA (by omega)
          by_cases hc2 : Z < Z2
          · obtain ⟨fE, fG, hstep, hTq1, hq1B, hlt1, hend⟩ := hcc (.inr hc2)
            have hc2' : (Z : Int) < (Z2 : Int) := by omega
            clear hcc hdd
            by_cases hb : 4294967296 ≤ r1
            · have hb' : (4294967296 : Int) ≤ r1 := by omega
              have hqT : q1 = T0 := hend hb
              simp [go_sem, IntWalk.iteOmega, IntWalk.toNatUp, e18, e16, k2, k8, k9, k10, k15, k17, k14, hc1', hc2', fA, fB, fC, fE, fG, hb']
              rw [hqT]
            · have hb' : ¬ (4294967296 : Int) ≤ r1 := by omega
              simp [go_sem, IntWalk.iteOmega, IntWalk.toNatUp, e18, e16, k2, k8, k9, k10, k15, k17, k14, hc1', hc2', fA, fB, fC, fE, fG, hb']
              refine roundEnd.mk ⟨q1, r1, by simp [go_sem], by simp [go_sem], by simp [go_sem, k2], by simp [go_sem, k8], by simp [go_sem, k9], by simp [go_sem, k10], by simp [go_sem, k15], by simp [go_sem, k17], by simp [go_sem, k14], hstep, hTq1, hq1B, by omega, rfl⟩ ?_
              simp [go_sem, intOf, e18]; exact hlt1
          · have hc2' : ¬ (Z : Int) < (Z2 : Int) := by omega
            have hqT : q = T0 := hdd hc1 hc2
            clear hcc hdd
            simp [go_sem, IntWalk.iteOmega, IntWalk.toNatUp, e18, e16, k2, k8, k9, k10, k15, k17, k14, hc1', hc2', fA, fB, fC]
            rw [hqT]
      · rintro s' w1 ⟨k18, k2, k8, k15, k17, k14, rfl⟩
        obtain ⟨R0, hR0⟩ : ∃ R0, R0 = (R1 * 4294967296 + u0) % D := ⟨_, rfl⟩
        have hR0D : R0 < D := by rw [hR0]; exact Nat.mod_lt _ (by omega)
        have eR0 : R1 * 4294967296 + u0 = T0 * D + R0 := by rw [hT0', hR0]; exact (Nat.div_add_mod' _ _).symm
        have fR0 : IntKind.u64.wrap (IntKind.u64.wrap (IntKind.u64.wrap ((R1 : Int) * 4294967296) + (u0 : Int)) - IntKind.u64.wrap ((T0 : Int) * (D : Int))) = (R0 : Int) := by
          rw [show (T0 : Int) * (D : Int) = ((T0 * D : Nat) : Int) by simp]
          exact rest_word R1 u0 (T0 * D) R0 eR0 (by omega)
        obtain ⟨t1, t2⟩ := two_digits (B := 4294967296) (D := D) (U := U) (u1 := u1) (u0 := u0) (by omega) hT1' hR1 hT0' hR0
        simp [go_sem, IntWalk.iteOmega, IntWalk.toNatUp, k18, k2, k8, k15, k17, k14, fR0]
        have hBB : (4294967296 * 4294967296 : Nat) = 18446744073709551616 := rfl
        simp only [hBB] at t1 t2
        simp only [← eV] at t1 t2
        have c1 : ((U : Int) * 18446744073709551616 + V) / D = (((U * 18446744073709551616 + V) / D : Nat) : Int) := by simp
        have c2 : ((U : Int) * 18446744073709551616 + V) % D = (((U * 18446744073709551616 + V) % D : Nat) : Int) := by simp
        rw [c1, c2, ← t1, ← t2]
        refine ⟨⟨?_, rfl⟩, Below.refl _ _⟩
        simp only [IntKind.wrap_u64]; omega
end Go.Proofs.YtmcbcoafodmbjaaGreatDoor
namespace Go.Proofs.YtmcbcoafodmbjaaGreatDoor
open Go.RowKit Go.ChangeShapes Go.WideShapes
set_option linter.unusedVariables false
section
variable {H : Type} {enc : TypeId × Value → H} {P : Program}
theorem trodAll_below (hl : laidOutB P = true) {W W' : World} (hb : Below W.heap.size W W') : ∀ {ts : List TypeId} {vs : List Value} {ds : List (DataW H)} {ps : List MemPlace}, (∀ t ∈ ts, P.readableRec t = true ∧ t < P.types.size) →
    DataW.TrodAll enc P W 0 (fun _ => true) true ts vs ds ps → (∀ x ∈ ps, x.block < W.heap.size) → DataW.TrodAll enc P W' 0 (fun b => decide (b < W.heap.size)) true ts vs ds ps
  | [], _, _, _, _, h, _ => by
    obtain ⟨rfl, rfl, rfl⟩ := trodAll_nil h
    exact trodAll_mk0
  | t :: ts, _, _, _, hr, h, hlt => by
    obtain ⟨v, vs, d, ds, p, q, rfl, rfl, rfl, h1, h2⟩ := trodAll_cons h
    obtain ⟨r1, r2⟩ := hr t (by simp)
    exact trodAll_cons_mk (Below.trod hl r1 r2 h1 hb fun x hx => hlt x (by simp [hx])) (trodAll_below hl hb (fun t ht => hr t (by simp [ht])) h2 fun x hx => hlt x (by simp [hx]))
theorem law_post {fn : Func} {s : ChangeSpec} {W W' : World} {args : Array Value} {ds gs : List (DataW H)} {before : List MemPlace} {tb : TypeId} (hl : laidOutB P = true) (hr : fn.params.toList.all (fun t => P.readableRec t && decide (t < P.types.size)) = true)
    (hres : fn.resultTypes = #[tb]) (htb : P.underlying tb = some .bool) (hv : s.vars = []) (hW : DataW.Whole enc P fn.params.toList s.vars false W args.toList ds gs before)
    (hfn : s.fn H (ds ++ gs) = { results := [.lit (.bool true)], args := ds }) (hB : Below W.heap.size W W') : s.post enc P fn false true false false W args (.bool true) W' := by
  have hW' := hW
  obtain ⟨p, q, hA, hV, rfl, hfz, hnd⟩ := hW
  rw [hv] at hV
  obtain ⟨rfl, rfl⟩ := trodVars_none hV
  have hlt : ∀ x ∈ p, x.block < W.heap.size := fun x hx => hW'.lt x (by simp [hx])
  refine ⟨ds, [], p ++ [], [], p, [], hW', ?_, ?_, ?_, ?_, fun h => by cases h⟩
  · rw [hfn, hres]
    exact trodAll_cons_mk (shut_bool htb true) trodAll_mk0
  · rw [hfn]
    refine trodAll_below hl hB (fun t ht => ?_) hA hlt
    have := List.all_eq_true.1 hr t ht
    simpa using this
  · rw [hfn, hv]; rfl
  · exact hB.frame _
def Sl (w : World) (size : Nat) (v : Value) (n : Nat) (xs : List Value) : Prop := ∃ A c, v = .slice A n c ∧ Rd w size A n xs ∧ (A = none → n = 0 ∧ c = 0) ∧ n ≤ c ∧ c ≤ 9223372036854775807
theorem block_lt {w : World} {a : Addr} {v : Value} (h : w.cell? a = some v) : a.block < w.heap.size := by
  rcases Nat.lt_or_ge a.block w.heap.size with h1 | h1
  · exact h1
  · unfold World.cell? at h; rw [Array.getElem?_eq_none h1] at h; cases h
theorem addr_plain {w : World} {a : Addr} {v : Value} (h : w.cell? a = some v) : a = ⟨a.block, a.off, none⟩ := by
  have := World.cell?_spot h
  obtain ⟨b, o, s⟩ := a
  simp at this
  subst this
  rfl
theorem open_sl0 {W : World} {b0 : Nat} {sp : Nat → Bool} {held : Bool} {t e : TypeId} {fuel : Nat} {cs : List Value} {x : DataW H × List MemPlace} (ht : P.underlying t = some (.slice e)) (hpos : 0 < P.cellsOf e) (hf : DataW.trod enc P W b0 sp held fuel t cs = some x) :
    ∃ u n xs, cs = [u] ∧ Sl W (P.cellsOf e) u n xs ∧ ∀ i, i < n → ∃ fuel y, DataW.trod enc P W b0 sp held fuel e ((xs.drop (i * P.cellsOf e)).take (P.cellsOf e)) = some y := by
  rcases Deep.open_slice ht hf with ⟨h0, _⟩ | ⟨a, n, c, m, k, D, Pl, hcs, hb, hl, hm, hmm, hx, hi⟩
  · exact ⟨_, 0, [], h0, ⟨none, 0, rfl, Rd.nil_ _ _ _, fun _ => ⟨rfl, rfl⟩, by omega, by omega⟩, fun i hi => by omega⟩
  · have hmn : n ≤ m := by rw [hmm]; split <;> omega
    generalize hC : P.cellsOf e = C at *
    have hcell : ∀ i, i < n → ∃ cs', cs'.length = C ∧ (∀ j, j < C → W.cell? (a.add (i * C + j)) = cs'[j]?) ∧ DataW.trod enc P W b0 sp held k e cs' = some (D i, Pl i) := by
      intro i hin
      obtain ⟨cs', h1, h2⟩ := hi i (by omega)
      obtain ⟨_, h3, h4⟩ := World.cells?_some h1
      refine ⟨cs', h3, fun j hj => ?_, h2⟩
      rw [← h4 j hj, Deep.add_add]
    obtain ⟨F, hF⟩ := Deep.choose_lt (α := List Value) (p := fun i cs' => cs'.length = C ∧ (∀ j, j < C → W.cell? (a.add (i * C + j)) = cs'[j]?) ∧ DataW.trod enc P W b0 sp held k e cs' = some (D i, Pl i)) hcell
    have hlen : ∀ q, q ≤ n → ((List.range q).flatMap F).length = q * C := by
      intro q
      induction q with
      | zero => intro _; simp
      | succ q ih => intro hq; rw [List.range_succ, List.flatMap_append, List.length_append, ih (by omega)]; simp [(hF q (by omega)).1, Nat.succ_mul]
    have hat : ∀ q, q ≤ n → ∀ i, i < q → (((List.range q).flatMap F).drop (i * C)).take C = F i := by
      intro q
      induction q with
      | zero => intro _ i hi; omega
      | succ q ih =>
        intro hq i hi
        have hfl : (List.range (q + 1)).flatMap F = (List.range q).flatMap F ++ F q := by rw [List.range_succ, List.flatMap_append]; simp
        rw [hfl]
        rcases Nat.lt_or_ge i q with h | h
        · have hle : i * C + C ≤ q * C := by rw [← Nat.succ_mul]; exact Nat.mul_le_mul_right _ h
          rw [List.drop_append_of_le_length (by rw [hlen q (by omega)]; omega), List.take_append_of_le_length (by rw [List.length_drop, hlen q (by omega)]; omega)]
          exact ih (by omega) i h
        · obtain rfl : i = q := by omega
          rw [List.drop_append, hlen i (by omega), List.drop_of_length_le (by rw [hlen i (by omega)]; exact Nat.le_refl _), Nat.sub_self]
          simp
          exact List.take_of_length_le (by rw [(hF i (by omega)).1]; exact Nat.le_refl _)
    refine ⟨_, n, (List.range n).flatMap F, hcs, ⟨some a, c, rfl, ⟨hlen n (Nat.le_refl _), fun hn => ?_⟩, (fun h => nomatch h), hl, by unfold maxLen at hm; exact hm⟩, fun i hi => ⟨k, _, by rw [hat n (Nat.le_refl _) i hi]; exact (hF i hi).2.2⟩⟩
    obtain ⟨f1, f2, _⟩ := hF 0 hn
    have h00 := f2 0 hpos
    rw [List.getElem?_eq_getElem (by omega)] at h00
    rw [Nat.zero_mul, Nat.add_zero] at h00
    have ha0 : a.add 0 = a := by obtain ⟨b, o, s⟩ := a; simp [Addr.add]
    rw [ha0] at h00
    have hap := addr_plain h00
    refine ⟨a.block, a.off, by rw [← hap], block_lt h00, fun j u hu => ?_⟩
    have hj : j < n * C := by
      have := (List.getElem?_eq_some_iff.1 hu).1
      rwa [hlen n (Nat.le_refl _)] at this
    have hC0 : 0 < C := hpos
    have hq : j / C < n := Nat.div_lt_of_lt_mul (by rw [Nat.mul_comm]; exact hj)
    have hr : j % C < C := Nat.mod_lt _ hC0
    have hdm : j / C * C + j % C = j := by rw [Nat.mul_comm]; exact Nat.div_add_mod j C
    obtain ⟨g1, g2, _⟩ := hF (j / C) hq
    have h5 := g2 (j % C) hr
    rw [hdm] at h5
    have h6 : (F (j / C))[j % C]? = some u := by
      rw [← hat n (Nat.le_refl _) (j / C) hq, List.getElem?_take, if_pos hr, List.getElem?_drop, hdm]
      exact hu
    rw [h6, hap, add_none] at h5
    exact h5
theorem open_sl {W : World} {base b0 : Nat} {sp : Nat → Bool} {held : Bool} {t e : TypeId} {v : Value} {d : DataW H} {ps : List MemPlace} (ht : P.underlying t = some (.slice e)) (hpos : 0 < P.cellsOf e) (hval : Value.okWide P W .any base t v)
    (hd : DataW.Trod enc P W b0 sp held t v d ps) :
    ∃ n xs, Sl W (P.cellsOf e) v n xs ∧ ∀ i, i < n → ∃ fuel y, DataW.trod enc P W b0 sp held fuel e ((xs.drop (i * P.cellsOf e)).take (P.cellsOf e)) = some y := by
  obtain ⟨A, n, c, rfl⟩ := okWide_slice ht hval
  obtain ⟨fuel, hf⟩ := hd
  obtain ⟨u, n', xs, h1, h2, h3⟩ := open_sl0 ht hpos hf
  simp [Value.cells] at h1
  subst h1
  exact ⟨n', xs, h2, h3⟩
theorem ints_of {W : World} {b0 : Nat} {sp : Nat → Bool} {held : Bool} {e : TypeId} {k : IntKind} {v : Value} {n : Nat} {xs : List Value} (he : P.underlying e = some (.int k)) (hs : Sl W 1 v n xs)
    (hi : ∀ i, i < n → ∃ fuel y, DataW.trod enc P W b0 sp held fuel e ((xs.drop (i * 1)).take 1) = some y) : ∃ l : List Int, Sl W 1 v l.length (l.map (Value.int k)) ∧ ∀ a ∈ l, (Lit.int k a).wf = true := by
  have hlen : xs.length = n := by obtain ⟨A, c, _, h, _⟩ := hs; have := h.len; omega
  have hel : ∀ i, i < n → ∃ a, xs[i]? = some (.int k a) ∧ (Lit.int k a).wf = true := by
    intro i hin
    obtain ⟨fuel, y, hy⟩ := hi i hin
    obtain ⟨a, ea, _, wa⟩ := DataW.trod_int he hy
    refine ⟨a, ?_, wa⟩
    rw [Nat.mul_one] at ea
    have := congrArg (·[0]?) ea
    simpa [List.getElem?_take, List.getElem?_drop] using this
  let g : Value → Int := fun | .int _ a => a | _ => 0
  have hmap : xs = (xs.map g).map (Value.int k) := by
    apply List.ext_getElem?
    intro i
    rcases Nat.lt_or_ge i n with h | h
    · obtain ⟨a, ha, _⟩ := hel i h
      simp [ha, g]
    · rw [List.getElem?_eq_none (by omega), List.getElem?_eq_none (by simp; omega)]
  refine ⟨xs.map g, by rw [← hmap, List.length_map, hlen]; exact hs, fun a ha => ?_⟩
  obtain ⟨x, hx, rfl⟩ := List.mem_map.1 ha
  obtain ⟨i, hin⟩ := List.mem_iff_getElem?.1 hx
  obtain ⟨b, hb, wb⟩ := hel i (by rw [← hlen]; exact (List.getElem?_eq_some_iff.1 hin).1)
  rw [hin] at hb
  injection hb with hb
  subst hb
  exact wb
theorem bytes_of {W : World} {v : Value} {l : List Int} (hs : Sl W 1 v l.length (l.map (Value.int .u8))) (hw : ∀ a ∈ l, (Lit.int .u8 a).wf = true) : ∃ l : List UInt8, Sl W 1 v l.length (l.map fun c => Value.int .u8 c.toNat) := by
  have e1 : (l.map fun a => UInt8.ofNat a.toNat).map (fun c => Value.int .u8 c.toNat) = l.map (Value.int .u8) := by
    rw [List.map_map]
    refine List.map_congr_left fun a ha => ?_
    have wa' : 0 ≤ a ∧ a ≤ 255 := bounds_u8 (hw a ha)
    simp only [Function.comp, UInt8.toNat_ofNat']
    congr 1
    omega
  exact ⟨l.map fun a => UInt8.ofNat a.toNat, by rw [e1, List.length_map]; exact hs⟩
end
end Go.Proofs.YtmcbcoafodmbjaaGreatDoor

/-
  Shares, in plain Lean: sums of weights, a share by division, and the same bit by bit. No program in sight.
-/
namespace Go.Proofs.YtmcbcoafodmbjaaGreatDoor
def sumTo (l : List Int) : Nat → Int
  | 0 => 0
  | i + 1 => sumTo l i + l.getD i 0
def okTo (l : List Int) : Nat → Prop
  | 0 => True
  | i + 1 => okTo l i ∧ 1 ≤ l.getD i 0 ∧ l.getD i 0 ≤ 4611686018427387903 - sumTo l i
instance (l : List Int) : ∀ i, Decidable (okTo l i)
  | 0 => inferInstanceAs (Decidable True)
  | i + 1 => @instDecidableAnd _ _ (instDecidableOkTo l i) _
def okW (l : List Int) : Bool := decide (1 ≤ l.length ∧ l.length ≤ 32 ∧ okTo l l.length)
def sumW (l : List Int) : Int := sumTo l l.length
theorem sumTo_le {l : List Int} : ∀ {i : Nat}, okTo l i → 0 ≤ sumTo l i ∧ sumTo l i ≤ 4611686018427387903
  | 0, _ => by simp [sumTo]
  | i + 1, h => by
    have := sumTo_le h.1
    simp only [sumTo]
    have h1 := h.2
    omega
theorem okTo_le {l : List Int} {i j : Nat} (h : okTo l j) (hij : i ≤ j) : okTo l i := by
  induction j with
  | zero => obtain rfl : i = 0 := by omega
            exact h
  | succ j ih =>
    rcases Nat.lt_or_ge i (j + 1) with h1 | h1
    · exact ih h.1 (by omega)
    · obtain rfl : i = j + 1 := by omega
      exact h
theorem sumTo_mono {l : List Int} {i j : Nat} (h : okTo l j) (hij : i ≤ j) : sumTo l i ≤ sumTo l j := by
  induction j with
  | zero => obtain rfl : i = 0 := by omega
            exact Int.le_refl _
  | succ j ih =>
    rcases Nat.lt_or_ge i (j + 1) with h1 | h1
    · have := ih h.1 (by omega)
      simp only [sumTo]
      have := h.2.1
      omega
    · obtain rfl : i = j + 1 := by omega
      exact Int.le_refl _
theorem okTo_at {l : List Int} {i j : Nat} (h : okTo l j) (hij : i < j) : 1 ≤ l.getD i 0 ∧ l.getD i 0 ≤ sumTo l j := by
  have h1 := okTo_le h (show i + 1 ≤ j from hij)
  have h2 := sumTo_mono h (show i + 1 ≤ j from hij)
  have h3 := (sumTo_le (okTo_le h (show i ≤ j by omega))).1
  simp only [sumTo] at h2
  have := h1.2.1
  omega
theorem okW_of {l : List Int} (h : okW l = true) : 1 ≤ l.length ∧ l.length ≤ 32 ∧ okTo l l.length := of_decide_eq_true h
theorem okW_pos {l : List Int} (h : okW l = true) : 1 ≤ sumW l ∧ sumW l ≤ 4611686018427387903 := by
  obtain ⟨h1, h2, h3⟩ := okW_of h
  have := okTo_at h3 (show 0 < l.length by omega)
  have := sumTo_le h3
  unfold sumW
  omega
end Go.Proofs.YtmcbcoafodmbjaaGreatDoor
