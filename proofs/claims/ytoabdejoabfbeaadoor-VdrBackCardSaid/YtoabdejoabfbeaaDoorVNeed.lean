/-
  bits.Add64, an entry of the model.
-/
import Derived.Test.YtoabdejoabfbeaaDoorVTotal
import Derived.Test.YtoabdejoabfbeaaDoorGDiv
import Derived.Laws.Externs
namespace Go.Proofs.YtoabdejoabfbeaaDoor
open Go.RowKit
set_option linter.unusedVariables false
set_option linter.unusedSimpArgs false
set_option maxRecDepth 10000
theorem add64_call (x y : Nat) (hx : x < 18446744073709551616) (hy : y < 18446744073709551616) (w : World) :
    (callFunc 27 #[.int .u64 x, .int .u64 y, .int .u64 0]).run Tryd.prog w =
      .ok (.value (.tuple #[.int .u64 (((x + y) % 18446744073709551616 : Nat) : Int), .int .u64 (((x + y) / 18446744073709551616 : Nat) : Int)])) w := by
  rw [run_callFunc_extern Tryd.func27 (by kernel_rfl) (by kernel_rfl) (by kernel_rfl) (e := add64Entry) (by kernel_rfl)]
  have h := run_add64 (P := Tryd.prog) x y 0 (by omega) (by omega) (by omega) (by omega) (w := w)
  rw [h]
  simp only [Result.andThen]
  congr 5 <;> omega
def needV (t n d : Int) : Int := if t < 0 ∨ n < 0 ∨ d < 1 ∨ d < n then -1 else (t * n + (d - 1)) / d
theorem need_split (N e B : Nat) (hB : 0 < B) : N / B + (N % B + e) / B = (N + e) / B ∧ (N % B + e) % B = (N + e) % B := by
  have h : N + e = N % B + e + B * (N / B) := by have := Nat.div_add_mod N B; omega
  rw [h, Nat.add_mul_div_left _ _ hB, Nat.add_mul_mod_self_left]
  omega
set_option maxHeartbeats 1600000 in
theorem vneed_any (t n d : Int) (ht : t ≤ 9223372036854775807) (hn : n ≤ 9223372036854775807) (hd : d ≤ 9223372036854775807) (w : World) :
    callE Tryd.prog 16 #[.int .i64 t, .int .i64 n, .int .i64 d] w fun v w' => v = .int .i64 (needV t n d) ∧ Below w.heap.size w w' := by
  by_cases h1 : t < 0
  · have he : needV t n d = -1 := if_pos (by omega)
    refine calls_E Tryd.func16 rfl rfl rfl (Nat.le_of_ble_eq_true rfl) ?_
    simp [go_sem, IntWalk.iteOmega, IntWalk.toNatUp, h1, he]
    exact Below.refl _ _
  · by_cases h2 : n < 0
    · have he : needV t n d = -1 := if_pos (by omega)
      refine calls_E Tryd.func16 rfl rfl rfl (Nat.le_of_ble_eq_true rfl) ?_
      simp [go_sem, IntWalk.iteOmega, IntWalk.toNatUp, h1, h2, he]
      exact Below.refl _ _
    · by_cases h3 : d < 1
      · have he : needV t n d = -1 := if_pos (by omega)
        refine calls_E Tryd.func16 rfl rfl rfl (Nat.le_of_ble_eq_true rfl) ?_
        simp [go_sem, IntWalk.iteOmega, IntWalk.toNatUp, h1, h2, h3, he]
        exact Below.refl _ _
      · by_cases h4 : d < n
        · have he : needV t n d = -1 := if_pos (by omega)
          refine calls_E Tryd.func16 rfl rfl rfl (Nat.le_of_ble_eq_true rfl) ?_
          simp [go_sem, IntWalk.iteOmega, IntWalk.toNatUp, h1, h2, h3, h4, he]
          exact Below.refl _ _
        · have he : needV t n d = (t * n + (d - 1)) / d := if_neg (by omega)
          obtain ⟨a, rfl⟩ : ∃ a : Nat, t = a := ⟨t.toNat, by omega⟩
          obtain ⟨b, rfl⟩ : ∃ b : Nat, n = b := ⟨n.toNat, by omega⟩
          obtain ⟨c, rfl⟩ : ∃ c : Nat, d = c := ⟨d.toNat, by omega⟩
          have f1 := wrapN a (by omega)
          have f2 := wrapN b (by omega)
          have f3 := wrapN c (by omega)
          have f4 : IntKind.u64.wrap ((c : Int) - 1) = ((c - 1 : Nat) : Int) := by rw [show (c : Int) - 1 = ((c - 1 : Nat) : Int) by omega, wrapN _ (by omega)]
          have f5 : (c : Int) - 1 = ((c - 1 : Nat) : Int) := by omega
          have hmul := fun k => callE_eq noinit_mul64 (mul64_runs a b (by omega) (by omega) w) k
          obtain ⟨e1, e2⟩ := need_split (a * b) (c - 1) 18446744073709551616 (by omega)
          have hlo : a * b % 18446744073709551616 < 18446744073709551616 := Nat.mod_lt _ (by omega)
          have hle : a * b ≤ a * c := Nat.mul_le_mul_left _ (by omega)
          have hac : a * c ≤ 9223372036854775807 * c := Nat.mul_le_mul_right _ (by omega)
          have hq1 : (a * b + (c - 1)) / c ≤ a := by
            rw [← Nat.lt_succ_iff, Nat.div_lt_iff_lt_mul (by omega), Nat.succ_mul]; omega
          have hMc : (a * b + (c - 1)) / 18446744073709551616 < c := (Nat.div_lt_iff_lt_mul (by omega)).2 (by omega)
          have heq : needV a b c = (((a * b + (c - 1)) / c : Nat) : Int) := by rw [he, f5]; simp
          have hrec := Nat.div_add_mod' (a * b + (c - 1)) 18446744073709551616
          have hM1 : (a * b + (c - 1)) % 18446744073709551616 < 18446744073709551616 := Nat.mod_lt _ (by omega)
          generalize a * b + (c - 1) = M at *
          generalize a * b / 18446744073709551616 = hi at *
          generalize a * b % 18446744073709551616 = lo at *
          have hadd := add64_call lo (c - 1) hlo (by omega) w
          rw [e2] at hadd
          generalize hcr : (lo + (c - 1)) / 18446744073709551616 = cr at *
          have f6 : IntKind.u64.wrap ((hi : Int) + cr) = ((M / 18446744073709551616 : Nat) : Int) := by
            rw [show (hi : Int) + cr = ((hi + cr : Nat) : Int) by simp, e1, wrapN _ (by omega)]
          have hdiv := div64_any (M / 18446744073709551616) (M % 18446744073709551616) c hM1 (by omega) hMc w
          rw [hrec] at hdiv
          generalize M / 18446744073709551616 = H at *
          generalize M % 18446744073709551616 = L at *
          refine calls_E Tryd.func16 rfl rfl rfl (Nat.le_of_ble_eq_true rfl) ?_
          simp [go_sem, IntWalk.iteOmega, IntWalk.toNatUp, h1, h2, h3, h4, f1, f2, f3, f4, hmul, hadd, f6]
          refine callE_of hdiv ?_
          rintro _ w1 ⟨rfl, k1⟩
          generalize M / c = q at *
          have f7 : IntKind.i64.wrap (q : Int) = q := by rw [IntKind.wrap_i64]; omega
          simp [go_sem, IntWalk.iteOmega, IntWalk.toNatUp, f7, heq]
          exact k1
theorem noinit_vneed : Tryd.prog.inits.idxOf? 16 = none := by kernel_rfl
end Go.Proofs.YtoabdejoabfbeaaDoor
