/-
  Words of 32 bits as Go's integers; the two ways by which a word's bits are turned round.
-/
import Derived.Test.YtlhlfodmcffeoaaDoorProg
import Derived.Test.YtlhlfodmcffeoaaDoorEng
import Derived.Test.YtlhlfodmcffeoaaDoorTypes
import Derived.Test.YtlhlfodmcffeoaaDoorPlain
namespace Go.Proofs.YtlhlfodmcffeoaaDoor
open Go.RowKit
set_option linter.unusedVariables false
set_option linter.unusedSimpArgs false
set_option maxRecDepth 10000
/-- a word of 32 bits as Go's integer -/
def U (x : UInt32) : Int := (x.toNat : Int)
theorem U_lt (x : UInt32) : 0 ≤ U x ∧ U x < 4294967296 := ⟨Int.natCast_nonneg _, by unfold U; have := x.toNat_lt; omega⟩
theorem U_inj {x y : UInt32} : U x = U y ↔ x = y := by
  unfold U; rw [Int.natCast_inj]; exact UInt32.toNat_inj
@[go_sem] theorem U_add (x y : UInt32) : IntKind.u32.wrap (U x + U y) = U (x + y) := by
  rw [IntKind.wrap_u32]; unfold U; rw [UInt32.toNat_add]; omega
@[go_sem] theorem U_xor (x y : UInt32) : bits .xor .u32 (U x) (U y) = U (x ^^^ y) := by
  unfold U; rw [u32_xor_nat _ _ x.toNat_lt y.toNat_lt, UInt32.toNat_xor]
@[go_sem] theorem U_and (x y : UInt32) : bits .and .u32 (U x) (U y) = U (x &&& y) := by
  unfold U; rw [u32_and_nat _ _ x.toNat_lt y.toNat_lt, UInt32.toNat_and]
@[go_sem] theorem U_or (x y : UInt32) : bits .or .u32 (U x) (U y) = U (x ||| y) := by
  unfold U; rw [u32_or_nat _ _ x.toNat_lt y.toNat_lt, UInt32.toNat_or]
@[go_sem] theorem U_not (x : UInt32) : bits .xor .u32 4294967295 (U x) = U (~~~x) := by
  have h : (4294967295 : Int) = U 4294967295 := rfl
  rw [h, U_xor]; rfl
@[go_sem] theorem U_not' (x : UInt32) : bits .xor .u32 (if IntKind.u32.signed = true then -1 else IntKind.u32.max) (U x) = U (~~~x) := U_not x
theorem U_add' (x y : UInt32) : (U x + U y) % 4294967296 = U (x + y) := by rw [← U_add, IntKind.wrap_u32]

theorem U_shl (x : UInt32) (n : Nat) : (U x * 2 ^ n) % 4294967296 = U (shlU x n) := by
  unfold U shlU; rw [UInt32.toNat_ofNat']; simp
theorem U_shr (x : UInt32) (n : Nat) : U x / 2 ^ n = U (shrU x n) := by
  have h := x.toNat_lt
  have h2 : x.toNat / 2 ^ n ≤ x.toNat := Nat.div_le_self _ _
  unfold U shrU; rw [UInt32.toNat_ofNat_of_lt' (by simp [UInt32.size]; omega)]; simp
@[go_sem] theorem U_shr3 (x : UInt32) : U x / 8 = U (shrU x 3) := U_shr x 3
@[go_sem] theorem U_shr10 (x : UInt32) : U x / 1024 = U (shrU x 10) := U_shr x 10
theorem or_comm32 (x y : UInt32) : x ||| y = y ||| x := UInt32.or_comm x y
theorem and31 (k : Int) (n : Nat) (h : k = -(n : Int)) (h0 : 0 < n) (h1 : n < 32) : bits .and .u64 (IntKind.u64.wrap k) 31 = 32 - (n : Int) := by
  rw [IntKind.wrap_u64]
  obtain ⟨m, hm⟩ : ∃ m : Nat, k % 18446744073709551616 = (m : Int) := ⟨(k % 18446744073709551616).toNat, by omega⟩
  have hlt : m < 18446744073709551616 := by omega
  rw [hm, show (31 : Int) = ((31 : Nat) : Int) from rfl, u64_and_nat m 31 hlt (by omega), nat_mask5]
  omega
abbrev uv (x : UInt32) : Value := .int .u32 (U x)
def St8.vals (s : St8) : Array Value := #[uv s.a, uv s.b, uv s.c, uv s.d, uv s.e, uv s.f, uv s.g, uv s.h]
theorem rotl_runs (x : UInt32) (k : Int) (n : Nat) (w : World) (h : k = -(n : Int)) (h0 : 0 < n) (h1 : n < 32) :
    Runs Tryd.prog 41 #[uv x, .int .i64 k] w (uv (rotr n x)) w := by
  have hs := and31 k n h h0 h1
  have a1 : IntKind.u64.wrap (32 - (32 - (n : Int))) = n := by rw [IntKind.wrap_u64]; omega
  have hf : bits .or .u32 (IntKind.u32.wrap (U x * 2 ^ (32 - n))) (U x / 2 ^ n) = U (rotr n x) := by
    rw [IntKind.wrap_u32, U_shl, U_shr, U_or, UInt32.or_comm]; rfl
  clear h
  refine runs_of_callE (calls_E Tryd.func41 rfl rfl rfl (Nat.le_of_ble_eq_true rfl) ?_)
  simp [go_sem, hs, a1, hf, IntWalk.iteOmega, IntWalk.toNatUp]
theorem turned_runs (x : UInt32) (k : Int) (n : Nat) (w : World) (h : k = (n : Int)) (h0 : 0 < n) (h1 : n < 32) :
    Runs Tryd.prog 38 #[uv x, .int .u64 k] w (uv (rotr n x)) w := by
  subst h
  have a1 : IntKind.u64.wrap (32 - (n : Int)) = 32 - n := by rw [IntKind.wrap_u64]; omega
  have hf : bits .or .u32 (U x / 2 ^ n) (IntKind.u32.wrap (U x * 2 ^ (32 - n))) = U (rotr n x) := by
    rw [IntKind.wrap_u32, U_shl, U_shr, U_or]; rfl
  refine runs_of_callE (calls_E Tryd.func38 rfl rfl rfl (Nat.le_of_ble_eq_true rfl) ?_)
  simp [go_sem, a1, hf, IntWalk.iteOmega, IntWalk.toNatUp]
theorem noinit_rotl : Tryd.prog.inits.idxOf? 41 = none := by kernel_rfl
theorem noinit_turned : Tryd.prog.inits.idxOf? 38 = none := by kernel_rfl
@[go_sem] theorem rotl_7 (x : UInt32) (w : World) (k : Kont) : callE Tryd.prog 41 #[uv x, .int .i64 (-7)] w k = k (uv (rotr 7 x)) w := callE_eq noinit_rotl (rotl_runs x (-7) 7 w rfl (by decide) (by decide)) k
@[go_sem] theorem turned_7 (x : UInt32) (w : World) (k : Kont) : callE Tryd.prog 38 #[uv x, .int .u64 7] w k = k (uv (rotr 7 x)) w := callE_eq noinit_turned (turned_runs x 7 7 w rfl (by decide) (by decide)) k
@[go_sem] theorem rotl_18 (x : UInt32) (w : World) (k : Kont) : callE Tryd.prog 41 #[uv x, .int .i64 (-18)] w k = k (uv (rotr 18 x)) w := callE_eq noinit_rotl (rotl_runs x (-18) 18 w rfl (by decide) (by decide)) k
@[go_sem] theorem turned_18 (x : UInt32) (w : World) (k : Kont) : callE Tryd.prog 38 #[uv x, .int .u64 18] w k = k (uv (rotr 18 x)) w := callE_eq noinit_turned (turned_runs x 18 18 w rfl (by decide) (by decide)) k
@[go_sem] theorem rotl_17 (x : UInt32) (w : World) (k : Kont) : callE Tryd.prog 41 #[uv x, .int .i64 (-17)] w k = k (uv (rotr 17 x)) w := callE_eq noinit_rotl (rotl_runs x (-17) 17 w rfl (by decide) (by decide)) k
@[go_sem] theorem turned_17 (x : UInt32) (w : World) (k : Kont) : callE Tryd.prog 38 #[uv x, .int .u64 17] w k = k (uv (rotr 17 x)) w := callE_eq noinit_turned (turned_runs x 17 17 w rfl (by decide) (by decide)) k
@[go_sem] theorem rotl_19 (x : UInt32) (w : World) (k : Kont) : callE Tryd.prog 41 #[uv x, .int .i64 (-19)] w k = k (uv (rotr 19 x)) w := callE_eq noinit_rotl (rotl_runs x (-19) 19 w rfl (by decide) (by decide)) k
@[go_sem] theorem turned_19 (x : UInt32) (w : World) (k : Kont) : callE Tryd.prog 38 #[uv x, .int .u64 19] w k = k (uv (rotr 19 x)) w := callE_eq noinit_turned (turned_runs x 19 19 w rfl (by decide) (by decide)) k
@[go_sem] theorem rotl_6 (x : UInt32) (w : World) (k : Kont) : callE Tryd.prog 41 #[uv x, .int .i64 (-6)] w k = k (uv (rotr 6 x)) w := callE_eq noinit_rotl (rotl_runs x (-6) 6 w rfl (by decide) (by decide)) k
@[go_sem] theorem turned_6 (x : UInt32) (w : World) (k : Kont) : callE Tryd.prog 38 #[uv x, .int .u64 6] w k = k (uv (rotr 6 x)) w := callE_eq noinit_turned (turned_runs x 6 6 w rfl (by decide) (by decide)) k
@[go_sem] theorem rotl_11 (x : UInt32) (w : World) (k : Kont) : callE Tryd.prog 41 #[uv x, .int .i64 (-11)] w k = k (uv (rotr 11 x)) w := callE_eq noinit_rotl (rotl_runs x (-11) 11 w rfl (by decide) (by decide)) k
@[go_sem] theorem turned_11 (x : UInt32) (w : World) (k : Kont) : callE Tryd.prog 38 #[uv x, .int .u64 11] w k = k (uv (rotr 11 x)) w := callE_eq noinit_turned (turned_runs x 11 11 w rfl (by decide) (by decide)) k
@[go_sem] theorem rotl_25 (x : UInt32) (w : World) (k : Kont) : callE Tryd.prog 41 #[uv x, .int .i64 (-25)] w k = k (uv (rotr 25 x)) w := callE_eq noinit_rotl (rotl_runs x (-25) 25 w rfl (by decide) (by decide)) k
@[go_sem] theorem turned_25 (x : UInt32) (w : World) (k : Kont) : callE Tryd.prog 38 #[uv x, .int .u64 25] w k = k (uv (rotr 25 x)) w := callE_eq noinit_turned (turned_runs x 25 25 w rfl (by decide) (by decide)) k
@[go_sem] theorem rotl_2 (x : UInt32) (w : World) (k : Kont) : callE Tryd.prog 41 #[uv x, .int .i64 (-2)] w k = k (uv (rotr 2 x)) w := callE_eq noinit_rotl (rotl_runs x (-2) 2 w rfl (by decide) (by decide)) k
@[go_sem] theorem turned_2 (x : UInt32) (w : World) (k : Kont) : callE Tryd.prog 38 #[uv x, .int .u64 2] w k = k (uv (rotr 2 x)) w := callE_eq noinit_turned (turned_runs x 2 2 w rfl (by decide) (by decide)) k
@[go_sem] theorem rotl_13 (x : UInt32) (w : World) (k : Kont) : callE Tryd.prog 41 #[uv x, .int .i64 (-13)] w k = k (uv (rotr 13 x)) w := callE_eq noinit_rotl (rotl_runs x (-13) 13 w rfl (by decide) (by decide)) k
@[go_sem] theorem turned_13 (x : UInt32) (w : World) (k : Kont) : callE Tryd.prog 38 #[uv x, .int .u64 13] w k = k (uv (rotr 13 x)) w := callE_eq noinit_turned (turned_runs x 13 13 w rfl (by decide) (by decide)) k
@[go_sem] theorem rotl_22 (x : UInt32) (w : World) (k : Kont) : callE Tryd.prog 41 #[uv x, .int .i64 (-22)] w k = k (uv (rotr 22 x)) w := callE_eq noinit_rotl (rotl_runs x (-22) 22 w rfl (by decide) (by decide)) k
@[go_sem] theorem turned_22 (x : UInt32) (w : World) (k : Kont) : callE Tryd.prog 38 #[uv x, .int .u64 22] w k = k (uv (rotr 22 x)) w := callE_eq noinit_turned (turned_runs x 22 22 w rfl (by decide) (by decide)) k
@[go_sem] theorem turnedS_7 (x : UInt32) (w : World) (k : Value → Prop) : stillCall Tryd.prog 38 #[uv x, .int .u64 7] w k = k (uv (rotr 7 x)) := stillCall_eq noinit_turned (turned_runs x 7 7 w rfl (by decide) (by decide)) k
@[go_sem] theorem turnedS_18 (x : UInt32) (w : World) (k : Value → Prop) : stillCall Tryd.prog 38 #[uv x, .int .u64 18] w k = k (uv (rotr 18 x)) := stillCall_eq noinit_turned (turned_runs x 18 18 w rfl (by decide) (by decide)) k
@[go_sem] theorem turnedS_17 (x : UInt32) (w : World) (k : Value → Prop) : stillCall Tryd.prog 38 #[uv x, .int .u64 17] w k = k (uv (rotr 17 x)) := stillCall_eq noinit_turned (turned_runs x 17 17 w rfl (by decide) (by decide)) k
@[go_sem] theorem turnedS_19 (x : UInt32) (w : World) (k : Value → Prop) : stillCall Tryd.prog 38 #[uv x, .int .u64 19] w k = k (uv (rotr 19 x)) := stillCall_eq noinit_turned (turned_runs x 19 19 w rfl (by decide) (by decide)) k
@[go_sem] theorem turnedS_6 (x : UInt32) (w : World) (k : Value → Prop) : stillCall Tryd.prog 38 #[uv x, .int .u64 6] w k = k (uv (rotr 6 x)) := stillCall_eq noinit_turned (turned_runs x 6 6 w rfl (by decide) (by decide)) k
@[go_sem] theorem turnedS_11 (x : UInt32) (w : World) (k : Value → Prop) : stillCall Tryd.prog 38 #[uv x, .int .u64 11] w k = k (uv (rotr 11 x)) := stillCall_eq noinit_turned (turned_runs x 11 11 w rfl (by decide) (by decide)) k
@[go_sem] theorem turnedS_25 (x : UInt32) (w : World) (k : Value → Prop) : stillCall Tryd.prog 38 #[uv x, .int .u64 25] w k = k (uv (rotr 25 x)) := stillCall_eq noinit_turned (turned_runs x 25 25 w rfl (by decide) (by decide)) k
@[go_sem] theorem turnedS_2 (x : UInt32) (w : World) (k : Value → Prop) : stillCall Tryd.prog 38 #[uv x, .int .u64 2] w k = k (uv (rotr 2 x)) := stillCall_eq noinit_turned (turned_runs x 2 2 w rfl (by decide) (by decide)) k
@[go_sem] theorem turnedS_13 (x : UInt32) (w : World) (k : Value → Prop) : stillCall Tryd.prog 38 #[uv x, .int .u64 13] w k = k (uv (rotr 13 x)) := stillCall_eq noinit_turned (turned_runs x 13 13 w rfl (by decide) (by decide)) k
@[go_sem] theorem turnedS_22 (x : UInt32) (w : World) (k : Value → Prop) : stillCall Tryd.prog 38 #[uv x, .int .u64 22] w k = k (uv (rotr 22 x)) := stillCall_eq noinit_turned (turned_runs x 22 22 w rfl (by decide) (by decide)) k
end Go.Proofs.YtlhlfodmcffeoaaDoor
