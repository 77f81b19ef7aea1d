/-
  Texts joined: Word, Sched, Words.
-/
import Derived.Test.YtdjcjjodbniebaaGreatDoorJoin02
import Derived.Test.YtdjcjjodbniebaaGreatDoorProg
namespace Go.Proofs.YtdjcjjodbniebaaGreatDoor
open Go.RowKit
set_option linter.unusedVariables false
set_option linter.unusedSimpArgs false
set_option maxRecDepth 10000
def U (x : UInt32) : Int := (x.toNat : Int)
@[go_sem] theorem U_add (x y : UInt32) : IntKind.u32.wrap (U x + U y) = U (x + y) := by
  rw [IntKind.wrap_u32]; unfold U; rw [UInt32.toNat_add]; omega
@[go_sem] theorem U_xor (x y : UInt32) : bits .xor .u32 (U x) (U y) = U (x ^^^ y) := by
  unfold U; rw [u32_xor_nat _ _ x.toNat_lt y.toNat_lt, UInt32.toNat_xor]
@[go_sem] theorem U_and (x y : UInt32) : bits .and .u32 (U x) (U y) = U (x &&& y) := by
  unfold U; rw [u32_and_nat _ _ x.toNat_lt y.toNat_lt, UInt32.toNat_and]
@[go_sem] theorem U_or (x y : UInt32) : bits .or .u32 (U x) (U y) = U (x ||| y) := by
  unfold U; rw [u32_or_nat _ _ x.toNat_lt y.toNat_lt, UInt32.toNat_or]
@[go_sem] theorem U_not (x : UInt32) : bits .xor .u32 4294967295 (U x) = U (~~~x) := by
  have h : (4294967295 : Int) = U 4294967295 := rfl
  rw [h, U_xor]; rfl
@[go_sem] theorem U_not' (x : UInt32) : bits .xor .u32 (if IntKind.u32.signed = true then -1 else IntKind.u32.max) (U x) = U (~~~x) := U_not x

theorem U_shl (x : UInt32) (n : Nat) : (U x * 2 ^ n) % 4294967296 = U (shlU x n) := by
  unfold U shlU; rw [UInt32.toNat_ofNat']; simp
theorem U_shr (x : UInt32) (n : Nat) : U x / 2 ^ n = U (shrU x n) := by
  have h := x.toNat_lt
  have h2 : x.toNat / 2 ^ n ≤ x.toNat := Nat.div_le_self _ _
  unfold U shrU; rw [UInt32.toNat_ofNat_of_lt' (by simp [UInt32.size]; omega)]; simp
@[go_sem] theorem U_shr3 (x : UInt32) : U x / 8 = U (shrU x 3) := U_shr x 3
@[go_sem] theorem U_shr10 (x : UInt32) : U x / 1024 = U (shrU x 10) := U_shr x 10
theorem and31 (k : Int) (n : Nat) (h : k = -(n : Int)) (h0 : 0 < n) (h1 : n < 32) : bits .and .u64 (IntKind.u64.wrap k) 31 = 32 - (n : Int) := by
  rw [IntKind.wrap_u64]
  obtain ⟨m, hm⟩ : ∃ m : Nat, k % 18446744073709551616 = (m : Int) := ⟨(k % 18446744073709551616).toNat, by omega⟩
  have hlt : m < 18446744073709551616 := by omega
  rw [hm, show (31 : Int) = ((31 : Nat) : Int) from rfl, u64_and_nat m 31 hlt (by omega), nat_mask5]
  omega
abbrev uv (x : UInt32) : Value := .int .u32 (U x)
def St8.vals (s : St8) : Array Value := #[uv s.a, uv s.b, uv s.c, uv s.d, uv s.e, uv s.f, uv s.g, uv s.h]
theorem rotl_runs (x : UInt32) (k : Int) (n : Nat) (w : World) (h : k = -(n : Int)) (h0 : 0 < n) (h1 : n < 32) :
    Runs Tryz.prog 151 #[uv x, .int .i64 k] w (uv (rotr n x)) w := by
  have hs := and31 k n h h0 h1
  have a1 : IntKind.u64.wrap (32 - (32 - (n : Int))) = n := by rw [IntKind.wrap_u64]; omega
  have hf : bits .or .u32 (IntKind.u32.wrap (U x * 2 ^ (32 - n))) (U x / 2 ^ n) = U (rotr n x) := by
    rw [IntKind.wrap_u32, U_shl, U_shr, U_or, UInt32.or_comm]; rfl
  clear h
  refine runs_of_callE (calls_E Tryz.func151 rfl rfl rfl (Nat.le_of_ble_eq_true rfl) ?_)
  simp [go_sem, hs, a1, hf, IntWalk.iteOmega, IntWalk.toNatUp]
theorem turned_runs (x : UInt32) (k : Int) (n : Nat) (w : World) (h : k = (n : Int)) (h0 : 0 < n) (h1 : n < 32) :
    Runs Tryz.prog 145 #[uv x, .int .u64 k] w (uv (rotr n x)) w := by
  subst h
  have a1 : IntKind.u64.wrap (32 - (n : Int)) = 32 - n := by rw [IntKind.wrap_u64]; omega
  have hf : bits .or .u32 (U x / 2 ^ n) (IntKind.u32.wrap (U x * 2 ^ (32 - n))) = U (rotr n x) := by
    rw [IntKind.wrap_u32, U_shl, U_shr, U_or]; rfl
  refine runs_of_callE (calls_E Tryz.func145 rfl rfl rfl (Nat.le_of_ble_eq_true rfl) ?_)
  simp [go_sem, a1, hf, IntWalk.iteOmega, IntWalk.toNatUp]
theorem noinit_rotl : Tryz.prog.inits.idxOf? 151 = none := by kernel_rfl
theorem noinit_turned : Tryz.prog.inits.idxOf? 145 = none := by kernel_rfl
@[go_sem] theorem rotl_7 (x : UInt32) (w : World) (k : Kont) : callE Tryz.prog 151 #[uv x, .int .i64 (-7)] w k = k (uv (rotr 7 x)) w := callE_eq noinit_rotl (rotl_runs x (-7) 7 w rfl (by decide) (by decide)) k
@[go_sem] theorem turned_7 (x : UInt32) (w : World) (k : Kont) : callE Tryz.prog 145 #[uv x, .int .u64 7] w k = k (uv (rotr 7 x)) w := callE_eq noinit_turned (turned_runs x 7 7 w rfl (by decide) (by decide)) k
@[go_sem] theorem rotl_18 (x : UInt32) (w : World) (k : Kont) : callE Tryz.prog 151 #[uv x, .int .i64 (-18)] w k = k (uv (rotr 18 x)) w := callE_eq noinit_rotl (rotl_runs x (-18) 18 w rfl (by decide) (by decide)) k
@[go_sem] theorem turned_18 (x : UInt32) (w : World) (k : Kont) : callE Tryz.prog 145 #[uv x, .int .u64 18] w k = k (uv (rotr 18 x)) w := callE_eq noinit_turned (turned_runs x 18 18 w rfl (by decide) (by decide)) k
@[go_sem] theorem rotl_17 (x : UInt32) (w : World) (k : Kont) : callE Tryz.prog 151 #[uv x, .int .i64 (-17)] w k = k (uv (rotr 17 x)) w := callE_eq noinit_rotl (rotl_runs x (-17) 17 w rfl (by decide) (by decide)) k
@[go_sem] theorem turned_17 (x : UInt32) (w : World) (k : Kont) : callE Tryz.prog 145 #[uv x, .int .u64 17] w k = k (uv (rotr 17 x)) w := callE_eq noinit_turned (turned_runs x 17 17 w rfl (by decide) (by decide)) k
@[go_sem] theorem rotl_19 (x : UInt32) (w : World) (k : Kont) : callE Tryz.prog 151 #[uv x, .int .i64 (-19)] w k = k (uv (rotr 19 x)) w := callE_eq noinit_rotl (rotl_runs x (-19) 19 w rfl (by decide) (by decide)) k
@[go_sem] theorem turned_19 (x : UInt32) (w : World) (k : Kont) : callE Tryz.prog 145 #[uv x, .int .u64 19] w k = k (uv (rotr 19 x)) w := callE_eq noinit_turned (turned_runs x 19 19 w rfl (by decide) (by decide)) k
@[go_sem] theorem rotl_6 (x : UInt32) (w : World) (k : Kont) : callE Tryz.prog 151 #[uv x, .int .i64 (-6)] w k = k (uv (rotr 6 x)) w := callE_eq noinit_rotl (rotl_runs x (-6) 6 w rfl (by decide) (by decide)) k
@[go_sem] theorem turned_6 (x : UInt32) (w : World) (k : Kont) : callE Tryz.prog 145 #[uv x, .int .u64 6] w k = k (uv (rotr 6 x)) w := callE_eq noinit_turned (turned_runs x 6 6 w rfl (by decide) (by decide)) k
@[go_sem] theorem rotl_11 (x : UInt32) (w : World) (k : Kont) : callE Tryz.prog 151 #[uv x, .int .i64 (-11)] w k = k (uv (rotr 11 x)) w := callE_eq noinit_rotl (rotl_runs x (-11) 11 w rfl (by decide) (by decide)) k
@[go_sem] theorem turned_11 (x : UInt32) (w : World) (k : Kont) : callE Tryz.prog 145 #[uv x, .int .u64 11] w k = k (uv (rotr 11 x)) w := callE_eq noinit_turned (turned_runs x 11 11 w rfl (by decide) (by decide)) k
@[go_sem] theorem rotl_25 (x : UInt32) (w : World) (k : Kont) : callE Tryz.prog 151 #[uv x, .int .i64 (-25)] w k = k (uv (rotr 25 x)) w := callE_eq noinit_rotl (rotl_runs x (-25) 25 w rfl (by decide) (by decide)) k
@[go_sem] theorem turned_25 (x : UInt32) (w : World) (k : Kont) : callE Tryz.prog 145 #[uv x, .int .u64 25] w k = k (uv (rotr 25 x)) w := callE_eq noinit_turned (turned_runs x 25 25 w rfl (by decide) (by decide)) k
@[go_sem] theorem rotl_2 (x : UInt32) (w : World) (k : Kont) : callE Tryz.prog 151 #[uv x, .int .i64 (-2)] w k = k (uv (rotr 2 x)) w := callE_eq noinit_rotl (rotl_runs x (-2) 2 w rfl (by decide) (by decide)) k
@[go_sem] theorem turned_2 (x : UInt32) (w : World) (k : Kont) : callE Tryz.prog 145 #[uv x, .int .u64 2] w k = k (uv (rotr 2 x)) w := callE_eq noinit_turned (turned_runs x 2 2 w rfl (by decide) (by decide)) k
@[go_sem] theorem rotl_13 (x : UInt32) (w : World) (k : Kont) : callE Tryz.prog 151 #[uv x, .int .i64 (-13)] w k = k (uv (rotr 13 x)) w := callE_eq noinit_rotl (rotl_runs x (-13) 13 w rfl (by decide) (by decide)) k
@[go_sem] theorem turned_13 (x : UInt32) (w : World) (k : Kont) : callE Tryz.prog 145 #[uv x, .int .u64 13] w k = k (uv (rotr 13 x)) w := callE_eq noinit_turned (turned_runs x 13 13 w rfl (by decide) (by decide)) k
@[go_sem] theorem rotl_22 (x : UInt32) (w : World) (k : Kont) : callE Tryz.prog 151 #[uv x, .int .i64 (-22)] w k = k (uv (rotr 22 x)) w := callE_eq noinit_rotl (rotl_runs x (-22) 22 w rfl (by decide) (by decide)) k
@[go_sem] theorem turned_22 (x : UInt32) (w : World) (k : Kont) : callE Tryz.prog 145 #[uv x, .int .u64 22] w k = k (uv (rotr 22 x)) w := callE_eq noinit_turned (turned_runs x 22 22 w rfl (by decide) (by decide)) k
@[go_sem] theorem turnedS_7 (x : UInt32) (w : World) (k : Value → Prop) : stillCall Tryz.prog 145 #[uv x, .int .u64 7] w k = k (uv (rotr 7 x)) := stillCall_eq noinit_turned (turned_runs x 7 7 w rfl (by decide) (by decide)) k
@[go_sem] theorem turnedS_18 (x : UInt32) (w : World) (k : Value → Prop) : stillCall Tryz.prog 145 #[uv x, .int .u64 18] w k = k (uv (rotr 18 x)) := stillCall_eq noinit_turned (turned_runs x 18 18 w rfl (by decide) (by decide)) k
@[go_sem] theorem turnedS_17 (x : UInt32) (w : World) (k : Value → Prop) : stillCall Tryz.prog 145 #[uv x, .int .u64 17] w k = k (uv (rotr 17 x)) := stillCall_eq noinit_turned (turned_runs x 17 17 w rfl (by decide) (by decide)) k
@[go_sem] theorem turnedS_19 (x : UInt32) (w : World) (k : Value → Prop) : stillCall Tryz.prog 145 #[uv x, .int .u64 19] w k = k (uv (rotr 19 x)) := stillCall_eq noinit_turned (turned_runs x 19 19 w rfl (by decide) (by decide)) k
@[go_sem] theorem turnedS_6 (x : UInt32) (w : World) (k : Value → Prop) : stillCall Tryz.prog 145 #[uv x, .int .u64 6] w k = k (uv (rotr 6 x)) := stillCall_eq noinit_turned (turned_runs x 6 6 w rfl (by decide) (by decide)) k
@[go_sem] theorem turnedS_11 (x : UInt32) (w : World) (k : Value → Prop) : stillCall Tryz.prog 145 #[uv x, .int .u64 11] w k = k (uv (rotr 11 x)) := stillCall_eq noinit_turned (turned_runs x 11 11 w rfl (by decide) (by decide)) k
@[go_sem] theorem turnedS_25 (x : UInt32) (w : World) (k : Value → Prop) : stillCall Tryz.prog 145 #[uv x, .int .u64 25] w k = k (uv (rotr 25 x)) := stillCall_eq noinit_turned (turned_runs x 25 25 w rfl (by decide) (by decide)) k
@[go_sem] theorem turnedS_2 (x : UInt32) (w : World) (k : Value → Prop) : stillCall Tryz.prog 145 #[uv x, .int .u64 2] w k = k (uv (rotr 2 x)) := stillCall_eq noinit_turned (turned_runs x 2 2 w rfl (by decide) (by decide)) k
@[go_sem] theorem turnedS_13 (x : UInt32) (w : World) (k : Value → Prop) : stillCall Tryz.prog 145 #[uv x, .int .u64 13] w k = k (uv (rotr 13 x)) := stillCall_eq noinit_turned (turned_runs x 13 13 w rfl (by decide) (by decide)) k
@[go_sem] theorem turnedS_22 (x : UInt32) (w : World) (k : Value → Prop) : stillCall Tryz.prog 145 #[uv x, .int .u64 22] w k = k (uv (rotr 22 x)) := stillCall_eq noinit_turned (turned_runs x 22 22 w rfl (by decide) (by decide)) k
def schedCells (b : List UInt8) (t : Nat) : Array Value := ((schedTo b t).map uv ++ List.replicate (64 - t) (Value.int .u32 0)).toArray
def zeros64 : Array Value := (List.replicate 64 (Value.int .u32 0)).toArray
theorem schedCells_zero (b : List UInt8) : schedCells b 0 = zeros64 := rfl
theorem schedCells_at (b : List UInt8) (t j : Nat) (h : j < t) : (schedCells b t)[j]? = some (uv ((schedTo b t).getD j 0)) := by
  have hl := schedTo_length b t
  unfold schedCells
  rw [List.getElem?_toArray, List.getElem?_append_left (by simpa [hl] using h), List.getElem?_map, List.getElem?_eq_getElem (by omega)]
  simp [List.getD, List.getElem?_eq_getElem (show j < (schedTo b t).length by omega)]
theorem schedCells_in (b : List UInt8) (t : Nat) (h : t < 64) : ∃ v, (schedCells b t)[t]? = some v := by
  have hl := schedTo_length b t
  have hs : (schedCells b t).size = 64 := by simp [schedCells, hl]; omega
  exact ⟨_, Array.getElem?_eq_getElem (by omega)⟩
theorem schedCells_set (b : List UInt8) (t : Nat) (h : t < 64) : (schedCells b t).setIfInBounds t (uv (nextWord b (schedTo b t) t)) = schedCells b (t + 1) := by
  have hl := schedTo_length b t
  unfold schedCells
  rw [List.setIfInBounds_toArray]
  congr 1
  rw [List.set_append_right _ _ (by simp [hl]), List.length_map, hl, Nat.sub_self, show 64 - t = (64 - (t + 1)) + 1 by omega, List.replicate_succ, List.set_cons_zero, schedTo, List.map_append]
  simp
theorem byteAt_lt (b : List UInt8) (i : Nat) : byteAt b i < 256 := (b.getD i 0).toNat_lt
theorem schedCells_end (b : List UInt8) : schedCells b 64 = ((sched b).map uv).toArray := by simp [schedCells, sched]
theorem zeros_fold : #[Value.int .u32 0, Value.int .u32 0, Value.int .u32 0, Value.int .u32 0, Value.int .u32 0, Value.int .u32 0, Value.int .u32 0, Value.int .u32 0, Value.int .u32 0, Value.int .u32 0, Value.int .u32 0, Value.int .u32 0, Value.int .u32 0, Value.int .u32 0, Value.int .u32 0, Value.int .u32 0, Value.int .u32 0, Value.int .u32 0, Value.int .u32 0, Value.int .u32 0, Value.int .u32 0, Value.int .u32 0, Value.int .u32 0, Value.int .u32 0, Value.int .u32 0, Value.int .u32 0, Value.int .u32 0, Value.int .u32 0, Value.int .u32 0, Value.int .u32 0, Value.int .u32 0, Value.int .u32 0, Value.int .u32 0, Value.int .u32 0, Value.int .u32 0, Value.int .u32 0, Value.int .u32 0, Value.int .u32 0, Value.int .u32 0, Value.int .u32 0, Value.int .u32 0, Value.int .u32 0, Value.int .u32 0, Value.int .u32 0, Value.int .u32 0, Value.int .u32 0, Value.int .u32 0, Value.int .u32 0, Value.int .u32 0, Value.int .u32 0, Value.int .u32 0, Value.int .u32 0, Value.int .u32 0, Value.int .u32 0, Value.int .u32 0, Value.int .u32 0, Value.int .u32 0, Value.int .u32 0, Value.int .u32 0, Value.int .u32 0, Value.int .u32 0, Value.int .u32 0, Value.int .u32 0, Value.int .u32 0] = zeros64 := Eq.trans rfl rfl
theorem word_join (b : List UInt8) (t : Nat) :
    bits .or .u32 (bits .or .u32 (bits .or .u32 (IntKind.u32.wrap (IntKind.u32.wrap ↑(byteAt b (4 * t)) * 16777216)) (IntKind.u32.wrap (IntKind.u32.wrap ↑(byteAt b (4 * t + 1)) * 65536))) (IntKind.u32.wrap (IntKind.u32.wrap ↑(byteAt b (4 * t + 2)) * 256))) (IntKind.u32.wrap ↑(byteAt b (4 * t + 3))) = U (wordOf b t) := by
  have l0 := byteAt_lt b (4 * t)
  have l1 := byteAt_lt b (4 * t + 1)
  have l2 := byteAt_lt b (4 * t + 2)
  have l3 := byteAt_lt b (4 * t + 3)
  unfold wordOf U
  generalize byteAt b (4 * t) = n0 at *
  generalize byteAt b (4 * t + 1) = n1 at *
  generalize byteAt b (4 * t + 2) = n2 at *
  generalize byteAt b (4 * t + 3) = n3 at *
  have e0 : IntKind.u32.wrap (IntKind.u32.wrap (n0 : Int) * 16777216) = ((n0 * 16777216 : Nat) : Int) := by simp only [IntKind.wrap_u32]; omega
  have e1 : IntKind.u32.wrap (IntKind.u32.wrap (n1 : Int) * 65536) = ((n1 * 65536 : Nat) : Int) := by simp only [IntKind.wrap_u32]; omega
  have e2 : IntKind.u32.wrap (IntKind.u32.wrap (n2 : Int) * 256) = ((n2 * 256 : Nat) : Int) := by simp only [IntKind.wrap_u32]; omega
  have e3 : IntKind.u32.wrap (n3 : Int) = ((n3 : Nat) : Int) := by simp only [IntKind.wrap_u32]; omega
  rw [e0, e1, e2, e3, u32_or_nat _ _ (by omega) (by omega), nat_join 24 (n0 * 16777216) (n1 * 65536) (by omega) (by omega), u32_or_nat _ _ (by omega) (by omega), nat_join 16 _ (n2 * 256) (by omega) (by omega), u32_or_nat _ _ (by omega) (by omega), nat_join 8 _ n3 (by omega) (by omega),
    UInt32.toNat_ofNat_of_lt' (by simp [UInt32.size]; omega)]
set_option maxHeartbeats 400000 in
theorem schedule_any (bb bo len cap : Nat) (b : List UInt8) (w : World) (hlen : 64 ≤ len) (hb : bb < w.heap.size) (hmax : len ≤ 9223372036854775807)
    (hc : ∀ i, i < 64 → w.cell? ⟨bb, bo + i, none⟩ = some (.int .u8 (byteAt b i))) :
    callE Tryz.prog 150 #[.slice (some ⟨bb, bo, none⟩) len cap] w fun v w' => v = .agg ((sched b).map uv).toArray ∧ Below w.heap.size w w' := by
  refine calls_E Tryz.func150 rfl rfl rfl (Nat.le_of_ble_eq_true rfl) ?_
  simp [go_sem, IntWalk.iteOmega, IntWalk.toNatUp, zeros_fold]
  refine W_loop (fun s wr => ∃ t : Nat, t ≤ 64 ∧ s 9 = .int .i64 t ∧ s 0 = .slice (some ⟨bb, bo, none⟩) len cap ∧ s 2 = .pointer (some ⟨w.heap.size, 0, none⟩) ∧ s 3 = .pointer (some ⟨w.heap.size + 1, 0, none⟩) ∧
    Blk wr (w.heap.size + 1) 200 (schedCells b t) ∧ Blk wr w.heap.size 200 zeros64 ∧ Below w.heap.size w wr) (fun s _ => 64 - (intOf (s 9)).toNat) ?_ ?_
  · refine ⟨0, by omega, by simp [go_sem], by simp [go_sem], by simp [go_sem], by simp [go_sem], ?_, ?_, ?_⟩
    · rw [schedCells_zero]; simp [go_sem]
    · simp [go_sem]
    · exact ((Below.refl _ _).alloc (Nat.le_refl _) _).alloc (by simp) _
  · rintro s wr ⟨t, ht, e9, e0, e2, e3, b1, b0, hB⟩
    by_cases hlt : t < 64
    · have hlt' : (t : Int) < 64 := by omega
      obtain ⟨v, hv⟩ := schedCells_in b t hlt
      have y1 : wr.cell? ⟨w.heap.size + 1, t, none⟩ = some v := (b1.cell t).trans hv
      have y2 := b1.frozen t
      by_cases h16 : t < 16
      · have h16' : (t : Int) < 16 := by omega
        have x0 : wr.cell? ⟨bb, bo + 4 * t, none⟩ = some (.int .u8 (byteAt b (4 * t))) := (hB.cell (p := ⟨bb, bo + 4 * t, none⟩) hb).trans (hc (4 * t) (by omega))
        have x1 : wr.cell? ⟨bb, bo + (4 * t + 1), none⟩ = some (.int .u8 (byteAt b (4 * t + 1))) := (hB.cell (p := ⟨bb, bo + (4 * t + 1), none⟩) hb).trans (hc (4 * t + 1) (by omega))
        have x2 : wr.cell? ⟨bb, bo + (4 * t + 2), none⟩ = some (.int .u8 (byteAt b (4 * t + 2))) := (hB.cell (p := ⟨bb, bo + (4 * t + 2), none⟩) hb).trans (hc (4 * t + 2) (by omega))
        have x3 : wr.cell? ⟨bb, bo + (4 * t + 3), none⟩ = some (.int .u8 (byteAt b (4 * t + 3))) := (hB.cell (p := ⟨bb, bo + (4 * t + 3), none⟩) hb).trans (hc (4 * t + 3) (by omega))
        simp [go_sem, IntWalk.iteOmega, IntWalk.toNatUp, e9, e0, e2, e3, hlt', h16']
        refine W_tail 35 follows (by kernel_rfl) ?_
        simp [go_sem, IntWalk.iteOmega, IntWalk.toNatUp, e9, e0, e2, e3, hlt', h16', x0, x1, x2, x3, y1, y2, word_join]
        refine roundEnd.mk ⟨t + 1, by omega, by simp [go_sem, e9], by simp [go_sem, e0], by simp [go_sem, e2], by simp [go_sem, e3], ?_, ?_, ?_⟩ ?_
        · rw [← schedCells_set b t hlt, nextWord, if_pos h16]; exact Blk_set b1
        · simp [go_sem, b0]
        · exact (hB.setCell (by simp) _).drew
        · simp [go_sem, intOf, e9]; omega
      · have h16' : ¬ (t : Int) < 16 := by omega
        have x2 : wr.cell? ⟨w.heap.size + 1, t - 2, none⟩ = some (uv ((schedTo b t).getD (t - 2) 0)) := (b1.cell _).trans (schedCells_at _ _ _ (by omega))
        have x7 : wr.cell? ⟨w.heap.size + 1, t - 7, none⟩ = some (uv ((schedTo b t).getD (t - 7) 0)) := (b1.cell _).trans (schedCells_at _ _ _ (by omega))
        have x15 : wr.cell? ⟨w.heap.size + 1, t - 15, none⟩ = some (uv ((schedTo b t).getD (t - 15) 0)) := (b1.cell _).trans (schedCells_at _ _ _ (by omega))
        have x16 : wr.cell? ⟨w.heap.size + 1, t - 16, none⟩ = some (uv ((schedTo b t).getD (t - 16) 0)) := (b1.cell _).trans (schedCells_at _ _ _ (by omega))
        simp [go_sem, IntWalk.iteOmega, IntWalk.toNatUp, e9, e0, e2, e3, hlt', h16']
        refine W_still follows (by kernel_rfl) ?_
        simp [go_sem, IntWalk.iteOmega, IntWalk.toNatUp, e9, e0, e2, e3, hlt', h16', x2, x15]
        refine W_tail 15 follows (by kernel_rfl) ?_
        simp [go_sem, IntWalk.iteOmega, IntWalk.toNatUp, e9, e0, e2, e3, x7, x16, y1, y2]
        refine roundEnd.mk ⟨t + 1, by omega, by simp [go_sem, e9], by simp [go_sem, e0], by simp [go_sem, e2], by simp [go_sem, e3], ?_, ?_, ?_⟩ ?_
        · rw [← schedCells_set b t hlt, nextWord, if_neg h16]; exact Blk_set b1
        · simp [go_sem, b0]
        · exact (hB.drew.setCell (by simp) _).drew
        · simp [go_sem, intOf, e9]; omega
    · have hlt' : ¬ (t : Int) < 64 := by omega
      obtain rfl : t = 64 := by omega
      have hz : (schedCells b 64).size = 64 := by simp [schedCells, schedTo_length]
      have L := readCells_all b1 64 hz
      have C := canWrite_all b0 64 (by rfl)
      have S := storeSeg_all b0 (schedCells b 64).toList (by simp [hz]; rfl)
      have L2 := readCells_all (Blk_setRow (cs' := schedCells b 64) b0) 64 hz
      have O : allOne (schedCells b 64).toList = true := by rw [schedCells_end]; exact allOne_of (by simp [Value.oneCell'])
      simp only [Array.toArray_toList] at S
      simp [go_sem, IntWalk.iteOmega, IntWalk.toNatUp, e9, e0, e2, e3, hlt', L, C, S, L2, hz, O]
      exact ⟨by rw [schedCells_end], below_setRow hB (Nat.le_refl _) _⟩
def partW (b : List UInt8) (t : Nat) : Nat → UInt32
  | 0 => 0
  | i + 1 => partW b t i * 256 + UInt32.ofNat (byteAt b (4 * t + i))
theorem partW_four (b : List UInt8) (t : Nat) : partW b t 4 = wordOf b t := by
  have l0 := byteAt_lt b (4 * t)
  have l1 := byteAt_lt b (4 * t + 1)
  have l2 := byteAt_lt b (4 * t + 2)
  have l3 := byteAt_lt b (4 * t + 3)
  simp only [partW, wordOf, Nat.add_zero]
  generalize byteAt b (4 * t) = n0 at *
  generalize byteAt b (4 * t + 1) = n1 at *
  generalize byteAt b (4 * t + 2) = n2 at *
  generalize byteAt b (4 * t + 3) = n3 at *
  apply UInt32.toNat_inj.1
  simp only [UInt32.toNat_add, UInt32.toNat_mul, UInt32.toNat_ofNat']
  simp
  omega
theorem step_word (x : UInt32) (n : Nat) (h : n < 256) : IntKind.u32.wrap (IntKind.u32.wrap (U x * 256) + IntKind.u32.wrap (n : Int)) = U (x * 256 + UInt32.ofNat n) := by
  simp only [IntKind.wrap_u32]; unfold U
  rw [UInt32.toNat_add, UInt32.toNat_mul, UInt32.toNat_ofNat']
  simp
theorem schedCells_zero_at (b : List UInt8) (t : Nat) (h : t < 64) : (schedCells b t).setIfInBounds t (uv 0) = schedCells b t := by
  have hl := schedTo_length b t
  unfold schedCells
  rw [List.setIfInBounds_toArray]
  congr 1
  rw [List.set_append_right _ _ (by simp [hl]), List.length_map, hl, Nat.sub_self, show 64 - t = (64 - (t + 1)) + 1 by omega, List.replicate_succ, List.set_cons_zero]
  rfl
set_option maxHeartbeats 800000 in
theorem words_any (bb bo len cap : Nat) (b : List UInt8) (w : World) (hlen : 64 ≤ len) (hb : bb < w.heap.size) (hmax : len ≤ 9223372036854775807)
    (hc : ∀ i, i < 64 → w.cell? ⟨bb, bo + i, none⟩ = some (.int .u8 (byteAt b i))) :
    callE Tryz.prog 143 #[.slice (some ⟨bb, bo, none⟩) len cap] w fun v w' => v = .agg ((sched b).map uv).toArray ∧ Below w.heap.size w w' := by
  refine calls_E Tryz.func143 rfl rfl rfl (Nat.le_of_ble_eq_true rfl) ?_
  simp [go_sem, IntWalk.iteOmega, IntWalk.toNatUp, zeros_fold]
  refine W_at fun W hW => ?_
  obtain ⟨b0, b1, hB, _⟩ := news2 hW
  clear hW
  refine W_loop (fun s wr => ∃ t : Nat, t ≤ 16 ∧ s 4 = .int .i64 t ∧ s 0 = .slice (some ⟨bb, bo, none⟩) len cap ∧ s 2 = .pointer (some ⟨w.heap.size, 0, none⟩) ∧ s 3 = .pointer (some ⟨w.heap.size + 1, 0, none⟩) ∧
    Blk wr (w.heap.size + 1) 200 (schedCells b t) ∧ Blk wr w.heap.size 200 zeros64 ∧ Below w.heap.size w wr) (fun s _ => 16 - (intOf (s 4)).toNat) ?_ ?_
  · exact ⟨0, by omega, by simp [go_sem], by simp [go_sem], by simp [go_sem], by simp [go_sem], by rw [schedCells_zero]; exact b1, b0, hB⟩
  · clear b0 b1 hB
    rintro s wr ⟨t, ht, e4, e0, e2, e3, b1, b0, hB⟩
    by_cases hlt : t < 16
    · have hlt' : (t : Int) < 16 := by omega
      simp [go_sem, IntWalk.iteOmega, IntWalk.toNatUp, e4, e0, e2, e3, hlt']
      refine W_loop (fun s wr => ∃ i : Nat, i ≤ 4 ∧ s 5 = .int .i64 i ∧ s 4 = .int .i64 t ∧ s 0 = .slice (some ⟨bb, bo, none⟩) len cap ∧ s 2 = .pointer (some ⟨w.heap.size, 0, none⟩) ∧ s 3 = .pointer (some ⟨w.heap.size + 1, 0, none⟩) ∧
        Blk wr (w.heap.size + 1) 200 ((schedCells b t).setIfInBounds t (uv (partW b t i))) ∧ Blk wr w.heap.size 200 zeros64 ∧ Below w.heap.size w wr) (fun s _ => 4 - (intOf (s 5)).toNat) ?_ ?_
      · exact ⟨0, by omega, by simp [go_sem], by simp [go_sem, e4], by simp [go_sem, e0], by simp [go_sem, e2], by simp [go_sem, e3], by rw [partW, schedCells_zero_at b t (by omega)]; exact b1, b0, hB⟩
      · clear b0 b1 hB e4 e0 e2 e3
        rintro s wr ⟨i, hi, e5, e4, e0, e2, e3, b1, b0, hB⟩
        by_cases hi4 : i < 4
        · have hi4' : (i : Int) < 4 := by omega
          have x0 : wr.cell? ⟨bb, bo + (4 * t + i), none⟩ = some (.int .u8 (byteAt b (4 * t + i))) := (hB.cell (p := ⟨bb, bo + (4 * t + i), none⟩) hb).trans (hc (4 * t + i) (by omega))
          have hs : (schedCells b t).size = 64 := by simp [schedCells, schedTo_length]; omega
          have x1 : wr.cell? ⟨w.heap.size + 1, t, none⟩ = some (uv (partW b t i)) := (b1.cell t).trans (Array.getElem?_setIfInBounds_self_of_lt (by omega))
          have f1 := b1.frozen t
          have hst := step_word (partW b t i) _ (byteAt_lt b (4 * t + i))
          simp [go_sem, IntWalk.iteOmega, IntWalk.toNatUp, e5, e4, e0, e2, e3, hi4']
          refine W_tail 15 follows (by kernel_rfl) ?_
          simp [go_sem, IntWalk.iteOmega, IntWalk.toNatUp, e5, e4, e0, e2, e3, hi4', x0, x1, f1, hst]
          refine roundEnd.mk ⟨i + 1, by omega, by simp [go_sem, e5], by simp [go_sem, e4], by simp [go_sem, e0], by simp [go_sem, e2], by simp [go_sem, e3], ?_, ?_, ?_⟩ ?_
          · have := Blk_set (o := t) (v := uv (partW b t (i + 1))) b1
            rw [Array.setIfInBounds_setIfInBounds] at this
            exact this
          · exact b0.farCell (by omega) _
          · exact (hB.setCell (by simp) _).drew
          · simp [go_sem, intOf, e5]; omega
        · have hi4' : ¬ (i : Int) < 4 := by omega
          obtain rfl : i = 4 := by omega
          simp [go_sem, IntWalk.iteOmega, IntWalk.toNatUp, e5, e4, e0, e2, e3, hi4']
          refine roundEnd.mk ⟨t + 1, by omega, by simp [go_sem, e4], by simp [go_sem, e0], by simp [go_sem, e2], by simp [go_sem, e3], ?_, b0, hB⟩ ?_
          · rw [← schedCells_set b t (by omega), nextWord, if_pos hlt, ← partW_four]; exact b1
          · simp [go_sem, intOf, e4]; omega
    · have hlt' : ¬ (t : Int) < 16 := by omega
      obtain rfl : t = 16 := by omega
      simp [go_sem, IntWalk.iteOmega, IntWalk.toNatUp, e4, e0, e2, e3, hlt']
      refine W_loop (fun s wr => ∃ t : Nat, 16 ≤ t ∧ t ≤ 64 ∧ s 6 = .int .i64 t ∧ s 0 = .slice (some ⟨bb, bo, none⟩) len cap ∧ s 2 = .pointer (some ⟨w.heap.size, 0, none⟩) ∧ s 3 = .pointer (some ⟨w.heap.size + 1, 0, none⟩) ∧
        Blk wr (w.heap.size + 1) 200 (schedCells b t) ∧ Blk wr w.heap.size 200 zeros64 ∧ Below w.heap.size w wr) (fun s _ => 64 - (intOf (s 6)).toNat) ?_ ?_
      · exact ⟨16, by omega, by omega, by simp [go_sem], by simp [go_sem, e0], by simp [go_sem, e2], by simp [go_sem, e3], b1, b0, hB⟩
      · clear b0 b1 hB e4 e0 e2 e3 hlt hlt' ht
        rintro s wr ⟨t, h16, ht, e6, e0, e2, e3, b1, b0, hB⟩
        by_cases hlt : t < 64
        · have hlt' : (t : Int) < 64 := by omega
          obtain ⟨v, hv⟩ := schedCells_in b t hlt
          have y1 : wr.cell? ⟨w.heap.size + 1, t, none⟩ = some v := (b1.cell t).trans hv
          have y2 := b1.frozen t
          have x2 : wr.cell? ⟨w.heap.size + 1, t - 2, none⟩ = some (uv ((schedTo b t).getD (t - 2) 0)) := (b1.cell _).trans (schedCells_at _ _ _ (by omega))
          have x7 : wr.cell? ⟨w.heap.size + 1, t - 7, none⟩ = some (uv ((schedTo b t).getD (t - 7) 0)) := (b1.cell _).trans (schedCells_at _ _ _ (by omega))
          have x15 : wr.cell? ⟨w.heap.size + 1, t - 15, none⟩ = some (uv ((schedTo b t).getD (t - 15) 0)) := (b1.cell _).trans (schedCells_at _ _ _ (by omega))
          have x16 : wr.cell? ⟨w.heap.size + 1, t - 16, none⟩ = some (uv ((schedTo b t).getD (t - 16) 0)) := (b1.cell _).trans (schedCells_at _ _ _ (by omega))
          simp [go_sem, IntWalk.iteOmega, IntWalk.toNatUp, e6, e0, e2, e3, hlt', x2, x15]
          refine W_tail 15 follows (by kernel_rfl) ?_
          simp [go_sem, IntWalk.iteOmega, IntWalk.toNatUp, e6, e0, e2, e3, x7, x16, y1, y2]
          refine roundEnd.mk ⟨t + 1, by omega, by omega, by simp [go_sem, e6], by simp [go_sem, e0], by simp [go_sem, e2], by simp [go_sem, e3], ?_, ?_, ?_⟩ ?_
          · rw [← schedCells_set b t hlt, nextWord, if_neg (by omega)]; exact Blk_set b1
          · exact b0.farCell (by omega) _
          · exact (hB.setCell (by simp) _).drew
          · simp [go_sem, intOf, e6]; omega
        · have hlt' : ¬ (t : Int) < 64 := by omega
          obtain rfl : t = 64 := by omega
          have hz : (schedCells b 64).size = 64 := by simp [schedCells, schedTo_length]
          have L := readCells_all b1 64 hz
          have C := canWrite_all b0 64 (by rfl)
          have S := storeSeg_all b0 (schedCells b 64).toList (by simp [hz]; rfl)
          have L2 := readCells_all (Blk_setRow (cs' := schedCells b 64) b0) 64 hz
          have O : allOne (schedCells b 64).toList = true := by rw [schedCells_end]; exact allOne_of (by simp [Value.oneCell'])
          simp only [Array.toArray_toList] at S
          simp [go_sem, IntWalk.iteOmega, IntWalk.toNatUp, e6, e0, e2, e3, hlt', L, C, S, L2, hz, O]
          exact ⟨by rw [schedCells_end], below_setRow hB (Nat.le_refl _) _⟩
end Go.Proofs.YtdjcjjodbniebaaGreatDoor
