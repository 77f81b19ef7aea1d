/-
  Texts joined: Plain, Word, Sched, Words, Mixed.
-/
import Derived.Test.YtmcbcoafodmbjaaGreatDoorJoin19
import Derived.Test.YtmcbcoafodmbjaaGreatDoorProg

/-
  SHA-256 in plain Lean, over words of 32 bits; no program in sight.
-/
namespace Go.Proofs.YtmcbcoafodmbjaaGreatDoor
def shlU (x : UInt32) (n : Nat) : UInt32 := UInt32.ofNat (x.toNat * 2 ^ n)
def shrU (x : UInt32) (n : Nat) : UInt32 := UInt32.ofNat (x.toNat / 2 ^ n)
def rotr (n : Nat) (x : UInt32) : UInt32 := shrU x n ||| shlU x (32 - n)
structure St8 where
  a : UInt32
  b : UInt32
  c : UInt32
  d : UInt32
  e : UInt32
  f : UInt32
  g : UInt32
  h : UInt32
def St8.round (s : St8) (k w : UInt32) : St8 :=
  let t1 := s.h + (rotr 6 s.e ^^^ rotr 11 s.e ^^^ rotr 25 s.e) + ((s.e &&& s.f) ^^^ (~~~s.e &&& s.g)) + k + w
  let t2 := (rotr 2 s.a ^^^ rotr 13 s.a ^^^ rotr 22 s.a) + ((s.a &&& s.b) ^^^ (s.a &&& s.c) ^^^ (s.b &&& s.c))
  ⟨t1 + t2, s.a, s.b, s.c, s.d + t1, s.e, s.f, s.g⟩
def cubes : List UInt32 := [1116352408, 1899447441, 3049323471, 3921009573, 961987163, 1508970993, 2453635748, 2870763221, 3624381080, 310598401, 607225278, 1426881987, 1925078388, 2162078206, 2614888103, 3248222580, 3835390401, 4022224774, 264347078, 604807628, 770255983, 1249150122, 1555081692, 1996064986, 2554220882, 2821834349, 2952996808, 3210313671, 3336571891, 3584528711, 113926993, 338241895, 666307205, 773529912, 1294757372, 1396182291, 1695183700, 1986661051, 2177026350, 2456956037, 2730485921, 2820302411, 3259730800, 3345764771, 3516065817, 3600352804, 4094571909, 275423344, 430227734, 506948616, 659060556, 883997877, 958139571, 1322822218, 1537002063, 1747873779, 1955562222, 2024104815, 2227730452, 2361852424, 2428436474, 2756734187, 3204031479, 3329325298]
def St8.rounds (s : St8) (ws : List UInt32) : Nat → St8
  | 0 => s
  | t + 1 => (s.rounds ws t).round (cubes.getD t 0) (ws.getD t 0)
def St8.sum (s v : St8) : St8 := ⟨s.a + v.a, s.b + v.b, s.c + v.c, s.d + v.d, s.e + v.e, s.f + v.f, s.g + v.g, s.h + v.h⟩
def byteAt (b : List UInt8) (i : Nat) : Nat := (b.getD i 0).toNat
def wordOf (b : List UInt8) (t : Nat) : UInt32 := UInt32.ofNat (byteAt b (4 * t) * 16777216 + byteAt b (4 * t + 1) * 65536 + byteAt b (4 * t + 2) * 256 + byteAt b (4 * t + 3))
def sig0 (x : UInt32) : UInt32 := rotr 7 x ^^^ rotr 18 x ^^^ shrU x 3
def sig1 (y : UInt32) : UInt32 := rotr 17 y ^^^ rotr 19 y ^^^ shrU y 10
def nextWord (b : List UInt8) (ws : List UInt32) (t : Nat) : UInt32 :=
  if t < 16 then wordOf b t else sig1 (ws.getD (t - 2) 0) + ws.getD (t - 7) 0 + sig0 (ws.getD (t - 15) 0) + ws.getD (t - 16) 0
def schedTo (b : List UInt8) : Nat → List UInt32
  | 0 => []
  | t + 1 => schedTo b t ++ [nextWord b (schedTo b t) t]
def sched (b : List UInt8) : List UInt32 := schedTo b 64
theorem schedTo_length (b : List UInt8) (t : Nat) : (schedTo b t).length = t := by
  induction t with
  | zero => rfl
  | succ t ih => simp [schedTo, ih]
theorem sched_length (b : List UInt8) : (sched b).length = 64 := schedTo_length b 64
def mix (s : St8) (b : List UInt8) : St8 := s.sum (s.rounds (sched b) 64)
def firstWords : St8 := ⟨0x6a09e667, 0xbb67ae85, 0x3c6ef372, 0xa54ff53a, 0x510e527f, 0x9b05688c, 0x1f83d9ab, 0x5be0cd19⟩
def mixes (s : St8) (b : List UInt8) : Nat → St8
  | 0 => s
  | n + 1 => mix (mixes s b n) ((b.drop (64 * n)).take 64)
def be64 (n : Nat) : List UInt8 := (List.range 8).map fun i => UInt8.ofNat (n / 2 ^ (56 - 8 * i))
def noughts (n : Nat) : Nat := (119 - n % 64) % 64
def pad (b : List UInt8) : List UInt8 := b ++ [128] ++ List.replicate (noughts b.length) 0 ++ be64 (b.length * 8 % 18446744073709551616)
def wordBytes (x : UInt32) : List UInt8 := [UInt8.ofNat (x.toNat / 16777216), UInt8.ofNat (x.toNat / 65536), UInt8.ofNat (x.toNat / 256), UInt8.ofNat x.toNat]
def St8.bytes (s : St8) : List UInt8 := wordBytes s.a ++ wordBytes s.b ++ wordBytes s.c ++ wordBytes s.d ++ wordBytes s.e ++ wordBytes s.f ++ wordBytes s.g ++ wordBytes s.h
def sha (b : List UInt8) : List UInt8 := (mixes firstWords (pad b) ((pad b).length / 64)).bytes
end Go.Proofs.YtmcbcoafodmbjaaGreatDoor

/-
  Words of 32 bits as Go's integers; the two ways by which a word's bits are turned round.
-/
namespace Go.Proofs.YtmcbcoafodmbjaaGreatDoor
open Go.RowKit
set_option linter.unusedVariables false
set_option linter.unusedSimpArgs false
set_option maxRecDepth 10000
def U (x : UInt32) : Int := (x.toNat : Int)
@[go_sem] theorem U_add (x y : UInt32) : IntKind.u32.wrap (U x + U y) = U (x + y) := by
  rw [IntKind.wrap_u32]; unfold U; rw [UInt32.toNat_add]; omega
@[go_sem] theorem U_xor (x y : UInt32) : bits .xor .u32 (U x) (U y) = U (x ^^^ y) := by
  unfold U; rw [u32_xor_nat _ _ x.toNat_lt y.toNat_lt, UInt32.toNat_xor]
@[go_sem] theorem U_and (x y : UInt32) : bits .and .u32 (U x) (U y) = U (x &&& y) := by
  unfold U; rw [u32_and_nat _ _ x.toNat_lt y.toNat_lt, UInt32.toNat_and]
@[go_sem] theorem U_or (x y : UInt32) : bits .or .u32 (U x) (U y) = U (x ||| y) := by
  unfold U; rw [u32_or_nat _ _ x.toNat_lt y.toNat_lt, UInt32.toNat_or]
@[go_sem] theorem U_not (x : UInt32) : bits .xor .u32 4294967295 (U x) = U (~~~x) := by
  have h : (4294967295 : Int) = U 4294967295 := rfl
  rw [h, U_xor]; rfl
@[go_sem] theorem U_not' (x : UInt32) : bits .xor .u32 (if IntKind.u32.signed = true then -1 else IntKind.u32.max) (U x) = U (~~~x) := U_not x

theorem U_shl (x : UInt32) (n : Nat) : (U x * 2 ^ n) % 4294967296 = U (shlU x n) := by
  unfold U shlU; rw [UInt32.toNat_ofNat']; simp
theorem U_shr (x : UInt32) (n : Nat) : U x / 2 ^ n = U (shrU x n) := by
  have h := x.toNat_lt
  have h2 : x.toNat / 2 ^ n ≤ x.toNat := Nat.div_le_self _ _
  unfold U shrU; rw [UInt32.toNat_ofNat_of_lt' (by simp [UInt32.size]; omega)]; simp
@[go_sem] theorem U_shr3 (x : UInt32) : U x / 8 = U (shrU x 3) := U_shr x 3
@[go_sem] theorem U_shr10 (x : UInt32) : U x / 1024 = U (shrU x 10) := U_shr x 10
theorem and31 (k : Int) (n : Nat) (h : k = -(n : Int)) (h0 : 0 < n) (h1 : n < 32) : bits .and .u64 (IntKind.u64.wrap k) 31 = 32 - (n : Int) := by
  rw [IntKind.wrap_u64]
  obtain ⟨m, hm⟩ : ∃ m : Nat, k % 18446744073709551616 = (m : Int) := ⟨(k % 18446744073709551616).toNat, by omega⟩
  have hlt : m < 18446744073709551616 := by omega
  rw [hm, show (31 : Int) = ((31 : Nat) : Int) from rfl, u64_and_nat m 31 hlt (by omega), nat_mask5]
  omega
abbrev uv (x : UInt32) : Value := .int .u32 (U x)
def St8.vals (s : St8) : Array Value := #[uv s.a, uv s.b, uv s.c, uv s.d, uv s.e, uv s.f, uv s.g, uv s.h]
theorem rotl_runs (x : UInt32) (k : Int) (n : Nat) (w : World) (h : k = -(n : Int)) (h0 : 0 < n) (h1 : n < 32) :
    Runs Tryz.prog 440 #[uv x, .int .i64 k] w (uv (rotr n x)) w := by
  have hs := and31 k n h h0 h1
  have a1 : IntKind.u64.wrap (32 - (32 - (n : Int))) = n := by rw [IntKind.wrap_u64]; omega
  have hf : bits .or .u32 (IntKind.u32.wrap (U x * 2 ^ (32 - n))) (U x / 2 ^ n) = U (rotr n x) := by
    rw [IntKind.wrap_u32, U_shl, U_shr, U_or, UInt32.or_comm]; rfl
  clear h
  refine runs_of_callE (calls_E Tryz.func440 rfl rfl rfl (Nat.le_of_ble_eq_true rfl) ?_)
  simp [go_sem, hs, a1, hf, IntWalk.iteOmega, IntWalk.toNatUp]
theorem turned_runs (x : UInt32) (k : Int) (n : Nat) (w : World) (h : k = (n : Int)) (h0 : 0 < n) (h1 : n < 32) :
    Runs Tryz.prog 291 #[uv x, .int .u64 k] w (uv (rotr n x)) w := by
  subst h
  have a1 : IntKind.u64.wrap (32 - (n : Int)) = 32 - n := by rw [IntKind.wrap_u64]; omega
  have hf : bits .or .u32 (U x / 2 ^ n) (IntKind.u32.wrap (U x * 2 ^ (32 - n))) = U (rotr n x) := by
    rw [IntKind.wrap_u32, U_shl, U_shr, U_or]; rfl
  refine runs_of_callE (calls_E Tryz.func291 rfl rfl rfl (Nat.le_of_ble_eq_true rfl) ?_)
  simp [go_sem, a1, hf, IntWalk.iteOmega, IntWalk.toNatUp]
theorem noinit_rotl : Tryz.prog.inits.idxOf? 440 = none := by kernel_rfl
theorem noinit_turned : Tryz.prog.inits.idxOf? 291 = none := by kernel_rfl
@[go_sem] theorem rotl_7 (x : UInt32) (w : World) (k : Kont) : callE Tryz.prog 440 #[uv x, .int .i64 (-7)] w k = k (uv (rotr 7 x)) w := callE_eq noinit_rotl (rotl_runs x (-7) 7 w rfl (by decide) (by decide)) k
@[go_sem] theorem turned_7 (x : UInt32) (w : World) (k : Kont) : callE Tryz.prog 291 #[uv x, .int .u64 7] w k = k (uv (rotr 7 x)) w := callE_eq noinit_turned (turned_runs x 7 7 w rfl (by decide) (by decide)) k
@[go_sem] theorem rotl_18 (x : UInt32) (w : World) (k : Kont) : callE Tryz.prog 440 #[uv x, .int .i64 (-18)] w k = k (uv (rotr 18 x)) w := callE_eq noinit_rotl (rotl_runs x (-18) 18 w rfl (by decide) (by decide)) k
@[go_sem] theorem turned_18 (x : UInt32) (w : World) (k : Kont) : callE Tryz.prog 291 #[uv x, .int .u64 18] w k = k (uv (rotr 18 x)) w := callE_eq noinit_turned (turned_runs x 18 18 w rfl (by decide) (by decide)) k
@[go_sem] theorem rotl_17 (x : UInt32) (w : World) (k : Kont) : callE Tryz.prog 440 #[uv x, .int .i64 (-17)] w k = k (uv (rotr 17 x)) w := callE_eq noinit_rotl (rotl_runs x (-17) 17 w rfl (by decide) (by decide)) k
@[go_sem] theorem turned_17 (x : UInt32) (w : World) (k : Kont) : callE Tryz.prog 291 #[uv x, .int .u64 17] w k = k (uv (rotr 17 x)) w := callE_eq noinit_turned (turned_runs x 17 17 w rfl (by decide) (by decide)) k
@[go_sem] theorem rotl_19 (x : UInt32) (w : World) (k : Kont) : callE Tryz.prog 440 #[uv x, .int .i64 (-19)] w k = k (uv (rotr 19 x)) w := callE_eq noinit_rotl (rotl_runs x (-19) 19 w rfl (by decide) (by decide)) k
@[go_sem] theorem turned_19 (x : UInt32) (w : World) (k : Kont) : callE Tryz.prog 291 #[uv x, .int .u64 19] w k = k (uv (rotr 19 x)) w := callE_eq noinit_turned (turned_runs x 19 19 w rfl (by decide) (by decide)) k
@[go_sem] theorem rotl_6 (x : UInt32) (w : World) (k : Kont) : callE Tryz.prog 440 #[uv x, .int .i64 (-6)] w k = k (uv (rotr 6 x)) w := callE_eq noinit_rotl (rotl_runs x (-6) 6 w rfl (by decide) (by decide)) k
@[go_sem] theorem turned_6 (x : UInt32) (w : World) (k : Kont) : callE Tryz.prog 291 #[uv x, .int .u64 6] w k = k (uv (rotr 6 x)) w := callE_eq noinit_turned (turned_runs x 6 6 w rfl (by decide) (by decide)) k
@[go_sem] theorem rotl_11 (x : UInt32) (w : World) (k : Kont) : callE Tryz.prog 440 #[uv x, .int .i64 (-11)] w k = k (uv (rotr 11 x)) w := callE_eq noinit_rotl (rotl_runs x (-11) 11 w rfl (by decide) (by decide)) k
@[go_sem] theorem turned_11 (x : UInt32) (w : World) (k : Kont) : callE Tryz.prog 291 #[uv x, .int .u64 11] w k = k (uv (rotr 11 x)) w := callE_eq noinit_turned (turned_runs x 11 11 w rfl (by decide) (by decide)) k
@[go_sem] theorem rotl_25 (x : UInt32) (w : World) (k : Kont) : callE Tryz.prog 440 #[uv x, .int .i64 (-25)] w k = k (uv (rotr 25 x)) w := callE_eq noinit_rotl (rotl_runs x (-25) 25 w rfl (by decide) (by decide)) k
@[go_sem] theorem turned_25 (x : UInt32) (w : World) (k : Kont) : callE Tryz.prog 291 #[uv x, .int .u64 25] w k = k (uv (rotr 25 x)) w := callE_eq noinit_turned (turned_runs x 25 25 w rfl (by decide) (by decide)) k
@[go_sem] theorem rotl_2 (x : UInt32) (w : World) (k : Kont) : callE Tryz.prog 440 #[uv x, .int .i64 (-2)] w k = k (uv (rotr 2 x)) w := callE_eq noinit_rotl (rotl_runs x (-2) 2 w rfl (by decide) (by decide)) k
@[go_sem] theorem turned_2 (x : UInt32) (w : World) (k : Kont) : callE Tryz.prog 291 #[uv x, .int .u64 2] w k = k (uv (rotr 2 x)) w := callE_eq noinit_turned (turned_runs x 2 2 w rfl (by decide) (by decide)) k
@[go_sem] theorem rotl_13 (x : UInt32) (w : World) (k : Kont) : callE Tryz.prog 440 #[uv x, .int .i64 (-13)] w k = k (uv (rotr 13 x)) w := callE_eq noinit_rotl (rotl_runs x (-13) 13 w rfl (by decide) (by decide)) k
@[go_sem] theorem turned_13 (x : UInt32) (w : World) (k : Kont) : callE Tryz.prog 291 #[uv x, .int .u64 13] w k = k (uv (rotr 13 x)) w := callE_eq noinit_turned (turned_runs x 13 13 w rfl (by decide) (by decide)) k
@[go_sem] theorem rotl_22 (x : UInt32) (w : World) (k : Kont) : callE Tryz.prog 440 #[uv x, .int .i64 (-22)] w k = k (uv (rotr 22 x)) w := callE_eq noinit_rotl (rotl_runs x (-22) 22 w rfl (by decide) (by decide)) k
@[go_sem] theorem turned_22 (x : UInt32) (w : World) (k : Kont) : callE Tryz.prog 291 #[uv x, .int .u64 22] w k = k (uv (rotr 22 x)) w := callE_eq noinit_turned (turned_runs x 22 22 w rfl (by decide) (by decide)) k
@[go_sem] theorem turnedS_7 (x : UInt32) (w : World) (k : Value → Prop) : stillCall Tryz.prog 291 #[uv x, .int .u64 7] w k = k (uv (rotr 7 x)) := stillCall_eq noinit_turned (turned_runs x 7 7 w rfl (by decide) (by decide)) k
@[go_sem] theorem turnedS_18 (x : UInt32) (w : World) (k : Value → Prop) : stillCall Tryz.prog 291 #[uv x, .int .u64 18] w k = k (uv (rotr 18 x)) := stillCall_eq noinit_turned (turned_runs x 18 18 w rfl (by decide) (by decide)) k
@[go_sem] theorem turnedS_17 (x : UInt32) (w : World) (k : Value → Prop) : stillCall Tryz.prog 291 #[uv x, .int .u64 17] w k = k (uv (rotr 17 x)) := stillCall_eq noinit_turned (turned_runs x 17 17 w rfl (by decide) (by decide)) k
@[go_sem] theorem turnedS_19 (x : UInt32) (w : World) (k : Value → Prop) : stillCall Tryz.prog 291 #[uv x, .int .u64 19] w k = k (uv (rotr 19 x)) := stillCall_eq noinit_turned (turned_runs x 19 19 w rfl (by decide) (by decide)) k
@[go_sem] theorem turnedS_6 (x : UInt32) (w : World) (k : Value → Prop) : stillCall Tryz.prog 291 #[uv x, .int .u64 6] w k = k (uv (rotr 6 x)) := stillCall_eq noinit_turned (turned_runs x 6 6 w rfl (by decide) (by decide)) k
@[go_sem] theorem turnedS_11 (x : UInt32) (w : World) (k : Value → Prop) : stillCall Tryz.prog 291 #[uv x, .int .u64 11] w k = k (uv (rotr 11 x)) := stillCall_eq noinit_turned (turned_runs x 11 11 w rfl (by decide) (by decide)) k
@[go_sem] theorem turnedS_25 (x : UInt32) (w : World) (k : Value → Prop) : stillCall Tryz.prog 291 #[uv x, .int .u64 25] w k = k (uv (rotr 25 x)) := stillCall_eq noinit_turned (turned_runs x 25 25 w rfl (by decide) (by decide)) k
@[go_sem] theorem turnedS_2 (x : UInt32) (w : World) (k : Value → Prop) : stillCall Tryz.prog 291 #[uv x, .int .u64 2] w k = k (uv (rotr 2 x)) := stillCall_eq noinit_turned (turned_runs x 2 2 w rfl (by decide) (by decide)) k
@[go_sem] theorem turnedS_13 (x : UInt32) (w : World) (k : Value → Prop) : stillCall Tryz.prog 291 #[uv x, .int .u64 13] w k = k (uv (rotr 13 x)) := stillCall_eq noinit_turned (turned_runs x 13 13 w rfl (by decide) (by decide)) k
@[go_sem] theorem turnedS_22 (x : UInt32) (w : World) (k : Value → Prop) : stillCall Tryz.prog 291 #[uv x, .int .u64 22] w k = k (uv (rotr 22 x)) := stillCall_eq noinit_turned (turned_runs x 22 22 w rfl (by decide) (by decide)) k
end Go.Proofs.YtmcbcoafodmbjaaGreatDoor

/-
  The schedule of a chunk: the program's 'schedule' and the document's 'words'.
-/
namespace Go.Proofs.YtmcbcoafodmbjaaGreatDoor
open Go.RowKit
set_option linter.unusedVariables false
set_option linter.unusedSimpArgs false
set_option maxRecDepth 10000
def schedCells (b : List UInt8) (t : Nat) : Array Value := ((schedTo b t).map uv ++ List.replicate (64 - t) (Value.int .u32 0)).toArray
def zeros64 : Array Value := (List.replicate 64 (Value.int .u32 0)).toArray
theorem schedCells_zero (b : List UInt8) : schedCells b 0 = zeros64 := rfl
theorem schedCells_at (b : List UInt8) (t j : Nat) (h : j < t) : (schedCells b t)[j]? = some (uv ((schedTo b t).getD j 0)) := by
  have hl := schedTo_length b t
  unfold schedCells
  rw [List.getElem?_toArray, List.getElem?_append_left (by simpa [hl] using h), List.getElem?_map, List.getElem?_eq_getElem (by omega)]
  simp [List.getD, List.getElem?_eq_getElem (show j < (schedTo b t).length by omega)]
theorem schedCells_in (b : List UInt8) (t : Nat) (h : t < 64) : ∃ v, (schedCells b t)[t]? = some v := by
  have hl := schedTo_length b t
  have hs : (schedCells b t).size = 64 := by simp [schedCells, hl]; omega
  exact ⟨_, Array.getElem?_eq_getElem (by omega)⟩
theorem schedCells_set (b : List UInt8) (t : Nat) (h : t < 64) : (schedCells b t).setIfInBounds t (uv (nextWord b (schedTo b t) t)) = schedCells b (t + 1) := by
  have hl := schedTo_length b t
  unfold schedCells
  rw [List.setIfInBounds_toArray]
  congr 1
  rw [List.set_append_right _ _ (by simp [hl]), List.length_map, hl, Nat.sub_self, show 64 - t = (64 - (t + 1)) + 1 by omega, List.replicate_succ, List.set_cons_zero, schedTo, List.map_append]
  simp
theorem byteAt_lt (b : List UInt8) (i : Nat) : byteAt b i < 256 := (b.getD i 0).toNat_lt
theorem schedCells_end (b : List UInt8) : schedCells b 64 = ((sched b).map uv).toArray := by simp [schedCells, sched]
theorem zeros_fold : #[Value.int .u32 0, Value.int .u32 0, Value.int .u32 0, Value.int .u32 0, Value.int .u32 0, Value.int .u32 0, Value.int .u32 0, Value.int .u32 0, Value.int .u32 0, Value.int .u32 0, Value.int .u32 0, Value.int .u32 0, Value.int .u32 0, Value.int .u32 0, Value.int .u32 0, Value.int .u32 0, Value.int .u32 0, Value.int .u32 0, Value.int .u32 0, Value.int .u32 0, Value.int .u32 0, Value.int .u32 0, Value.int .u32 0, Value.int .u32 0, Value.int .u32 0, Value.int .u32 0, Value.int .u32 0, Value.int .u32 0, Value.int .u32 0, Value.int .u32 0, Value.int .u32 0, Value.int .u32 0, Value.int .u32 0, Value.int .u32 0, Value.int .u32 0, Value.int .u32 0, Value.int .u32 0, Value.int .u32 0, Value.int .u32 0, Value.int .u32 0, Value.int .u32 0, Value.int .u32 0, Value.int .u32 0, Value.int .u32 0, Value.int .u32 0, Value.int .u32 0, Value.int .u32 0, Value.int .u32 0, Value.int .u32 0, Value.int .u32 0, Value.int .u32 0, Value.int .u32 0, Value.int .u32 0, Value.int .u32 0, Value.int .u32 0, Value.int .u32 0, Value.int .u32 0, Value.int .u32 0, Value.int .u32 0, Value.int .u32 0, Value.int .u32 0, Value.int .u32 0, Value.int .u32 0, Value.int .u32 0] = zeros64 := Eq.trans rfl rfl
theorem word_join (b : List UInt8) (t : Nat) :
    bits .or .u32 (bits .or .u32 (bits .or .u32 (IntKind.u32.wrap (IntKind.u32.wrap ↑(byteAt b (4 * t)) * 16777216)) (IntKind.u32.wrap (IntKind.u32.wrap ↑(byteAt b (4 * t + 1)) * 65536))) (IntKind.u32.wrap (IntKind.u32.wrap ↑(byteAt b (4 * t + 2)) * 256))) (IntKind.u32.wrap ↑(byteAt b (4 * t + 3))) = U (wordOf b t) := by
  have l0 := byteAt_lt b (4 * t)
  have l1 := byteAt_lt b (4 * t + 1)
  have l2 := byteAt_lt b (4 * t + 2)
  have l3 := byteAt_lt b (4 * t + 3)
  unfold wordOf U
  generalize byteAt b (4 * t) = n0 at *
  generalize byteAt b (4 * t + 1) = n1 at *
  generalize byteAt b (4 * t + 2) = n2 at *
  generalize byteAt b (4 * t + 3) = n3 at *
  have e0 : IntKind.u32.wrap (IntKind.u32.wrap (n0 : Int) * 16777216) = ((n0 * 16777216 : Nat) : Int) := by simp only [IntKind.wrap_u32]; omega
  have e1 : IntKind.u32.wrap (IntKind.u32.wrap (n1 : Int) * 65536) = ((n1 * 65536 : Nat) : Int) := by simp only [IntKind.wrap_u32]; omega
  have e2 : IntKind.u32.wrap (IntKind.u32.wrap (n2 : Int) * 256) = ((n2 * 256 : Nat) : Int) := by simp only [IntKind.wrap_u32]; omega
  have e3 : IntKind.u32.wrap (n3 : Int) = ((n3 : Nat) : Int) := by simp only [IntKind.wrap_u32]; omega
  rw [e0, e1, e2, e3, u32_or_nat _ _ (by omega) (by omega), nat_join 24 (n0 * 16777216) (n1 * 65536) (by omega) (by omega), u32_or_nat _ _ (by omega) (by omega), nat_join 16 _ (n2 * 256) (by omega) (by omega), u32_or_nat _ _ (by omega) (by omega), nat_join 8 _ n3 (by omega) (by omega),
    UInt32.toNat_ofNat_of_lt' (by simp [UInt32.size]; omega)]
set_option maxHeartbeats 400000 in
theorem schedule_any (bb bo len cap : Nat) (b : List UInt8) (w : World) (hlen : 64 ≤ len) (hb : bb < w.heap.size) (hmax : len ≤ 9223372036854775807)
    (hc : ∀ i, i < 64 → w.cell? ⟨bb, bo + i, none⟩ = some (.int .u8 (byteAt b i))) :
    callE Tryz.prog 439 #[.slice (some ⟨bb, bo, none⟩) len cap] w fun v w' => v = .agg ((sched b).map uv).toArray ∧ Below w.heap.size w w' := by
  refine calls_E Tryz.func439 rfl rfl rfl (Nat.le_of_ble_eq_true rfl) ?_
  simp [go_sem, IntWalk.iteOmega, IntWalk.toNatUp, zeros_fold]
  refine W_loop (fun s wr => ∃ t : Nat, t ≤ 64 ∧ s 9 = .int .i64 t ∧ s 0 = .slice (some ⟨bb, bo, none⟩) len cap ∧ s 2 = .pointer (some ⟨w.heap.size, 0, none⟩) ∧ s 3 = .pointer (some ⟨w.heap.size + 1, 0, none⟩) ∧
    Blk wr (w.heap.size + 1) 468 (schedCells b t) ∧ Blk wr w.heap.size 468 zeros64 ∧ Below w.heap.size w wr) (fun s _ => 64 - (intOf (s 9)).toNat) ?_ ?_
  · refine ⟨0, by omega, by simp [go_sem], by simp [go_sem], by simp [go_sem], by simp [go_sem], ?_, ?_, ?_⟩
    · rw [schedCells_zero]; simp [go_sem]
    · simp [go_sem]
    · exact ((Below.refl _ _).alloc (Nat.le_refl _) _).alloc (by simp) _
  · rintro s wr ⟨t, ht, e9, e0, e2, e3, b1, b0, hB⟩
    by_cases hlt : t < 64
    · have hlt' : (t : Int) < 64 := by omega
      obtain ⟨v, hv⟩ := schedCells_in b t hlt
      have y1 : wr.cell? ⟨w.heap.size + 1, t, none⟩ = some v := (b1.cell t).trans hv
      have y2 := b1.frozen t
      by_cases h16 : t < 16
      · have h16' : (t : Int) < 16 := by omega
        have x0 : wr.cell? ⟨bb, bo + 4 * t, none⟩ = some (.int .u8 (byteAt b (4 * t))) := (hB.cell (p := ⟨bb, bo + 4 * t, none⟩) hb).trans (hc (4 * t) (by omega))
        have x1 : wr.cell? ⟨bb, bo + (4 * t + 1), none⟩ = some (.int .u8 (byteAt b (4 * t + 1))) := (hB.cell (p := ⟨bb, bo + (4 * t + 1), none⟩) hb).trans (hc (4 * t + 1) (by omega))
        have x2 : wr.cell? ⟨bb, bo + (4 * t + 2), none⟩ = some (.int .u8 (byteAt b (4 * t + 2))) := (hB.cell (p := ⟨bb, bo + (4 * t + 2), none⟩) hb).trans (hc (4 * t + 2) (by omega))
        have x3 : wr.cell? ⟨bb, bo + (4 * t + 3), none⟩ = some (.int .u8 (byteAt b (4 * t + 3))) := (hB.cell (p := ⟨bb, bo + (4 * t + 3), none⟩) hb).trans (hc (4 * t + 3) (by omega))
        simp [go_sem, IntWalk.iteOmega, IntWalk.toNatUp, e9, e0, e2, e3, hlt', h16']
        refine W_tail 35 follows (by kernel_rfl) ?_
        simp [go_sem, IntWalk.iteOmega, IntWalk.toNatUp, e9, e0, e2, e3, hlt', h16', x0, x1, x2, x3, y1, y2, word_join]
        refine roundEnd.mk ⟨t + 1, by omega, by simp [go_sem, e9], by simp [go_sem, e0], by simp [go_sem, e2], by simp [go_sem, e3], ?_, ?_, ?_⟩ ?_
        · rw [← schedCells_set b t hlt, nextWord, if_pos h16]; exact Blk_set b1
        · simp [go_sem, b0]
        · exact (hB.setCell (by simp) _).drew
        · simp [go_sem, intOf, e9]; omega
      · have h16' : ¬ (t : Int) < 16 := by omega
        have x2 : wr.cell? ⟨w.heap.size + 1, t - 2, none⟩ = some (uv ((schedTo b t).getD (t - 2) 0)) := (b1.cell _).trans (schedCells_at _ _ _ (by omega))
        have x7 : wr.cell? ⟨w.heap.size + 1, t - 7, none⟩ = some (uv ((schedTo b t).getD (t - 7) 0)) := (b1.cell _).trans (schedCells_at _ _ _ (by omega))
        have x15 : wr.cell? ⟨w.heap.size + 1, t - 15, none⟩ = some (uv ((schedTo b t).getD (t - 15) 0)) := (b1.cell _).trans (schedCells_at _ _ _ (by omega))
        have x16 : wr.cell? ⟨w.heap.size + 1, t - 16, none⟩ = some (uv ((schedTo b t).getD (t - 16) 0)) := (b1.cell _).trans (schedCells_at _ _ _ (by omega))
        simp [go_sem, IntWalk.iteOmega, IntWalk.toNatUp, e9, e0, e2, e3, hlt', h16']
        refine W_still follows (by kernel_rfl) ?_
        simp [go_sem, IntWalk.iteOmega, IntWalk.toNatUp, e9, e0, e2, e3, hlt', h16', x2, x15]
        refine W_tail 15 follows (by kernel_rfl) ?_
        simp [go_sem, IntWalk.iteOmega, IntWalk.toNatUp, e9, e0, e2, e3, x7, x16, y1, y2]
        refine roundEnd.mk ⟨t + 1, by omega, by simp [go_sem, e9], by simp [go_sem, e0], by simp [go_sem, e2], by simp [go_sem, e3], ?_, ?_, ?_⟩ ?_
        · rw [← schedCells_set b t hlt, nextWord, if_neg h16]; exact Blk_set b1
        · simp [go_sem, b0]
        · exact (hB.drew.setCell (by simp) _).drew
        · simp [go_sem, intOf, e9]; omega
    · have hlt' : ¬ (t : Int) < 64 := by omega
      obtain rfl : t = 64 := by omega
      have hz : (schedCells b 64).size = 64 := by simp [schedCells, schedTo_length]
      have L := readCells_all b1 64 hz
      have C := canWrite_all b0 64 (by rfl)
      have S := storeSeg_all b0 (schedCells b 64).toList (by simp [hz]; rfl)
      have L2 := readCells_all (Blk_setRow (cs' := schedCells b 64) b0) 64 hz
      have O : allOne (schedCells b 64).toList = true := by rw [schedCells_end]; exact allOne_of (by simp [Value.oneCell'])
      simp only [Array.toArray_toList] at S
      simp [go_sem, IntWalk.iteOmega, IntWalk.toNatUp, e9, e0, e2, e3, hlt', L, C, S, L2, hz, O]
      exact ⟨by rw [schedCells_end], below_setRow hB (Nat.le_refl _) _⟩
end Go.Proofs.YtmcbcoafodmbjaaGreatDoor

/-
  The document's 'words': the schedule of a chunk.
-/
namespace Go.Proofs.YtmcbcoafodmbjaaGreatDoor
open Go.RowKit
set_option linter.unusedVariables false
set_option linter.unusedSimpArgs false
set_option maxRecDepth 10000
def partW (b : List UInt8) (t : Nat) : Nat → UInt32
  | 0 => 0
  | i + 1 => partW b t i * 256 + UInt32.ofNat (byteAt b (4 * t + i))
theorem partW_four (b : List UInt8) (t : Nat) : partW b t 4 = wordOf b t := by
  have l0 := byteAt_lt b (4 * t)
  have l1 := byteAt_lt b (4 * t + 1)
  have l2 := byteAt_lt b (4 * t + 2)
  have l3 := byteAt_lt b (4 * t + 3)
  simp only [partW, wordOf, Nat.add_zero]
  generalize byteAt b (4 * t) = n0 at *
  generalize byteAt b (4 * t + 1) = n1 at *
  generalize byteAt b (4 * t + 2) = n2 at *
  generalize byteAt b (4 * t + 3) = n3 at *
  apply UInt32.toNat_inj.1
  simp only [UInt32.toNat_add, UInt32.toNat_mul, UInt32.toNat_ofNat']
  simp
  omega
theorem step_word (x : UInt32) (n : Nat) (h : n < 256) : IntKind.u32.wrap (IntKind.u32.wrap (U x * 256) + IntKind.u32.wrap (n : Int)) = U (x * 256 + UInt32.ofNat n) := by
  simp only [IntKind.wrap_u32]; unfold U
  rw [UInt32.toNat_add, UInt32.toNat_mul, UInt32.toNat_ofNat']
  simp
theorem schedCells_zero_at (b : List UInt8) (t : Nat) (h : t < 64) : (schedCells b t).setIfInBounds t (uv 0) = schedCells b t := by
  have hl := schedTo_length b t
  unfold schedCells
  rw [List.setIfInBounds_toArray]
  congr 1
  rw [List.set_append_right _ _ (by simp [hl]), List.length_map, hl, Nat.sub_self, show 64 - t = (64 - (t + 1)) + 1 by omega, List.replicate_succ, List.set_cons_zero]
  rfl
set_option maxHeartbeats 800000 in
theorem words_any (bb bo len cap : Nat) (b : List UInt8) (w : World) (hlen : 64 ≤ len) (hb : bb < w.heap.size) (hmax : len ≤ 9223372036854775807)
    (hc : ∀ i, i < 64 → w.cell? ⟨bb, bo + i, none⟩ = some (.int .u8 (byteAt b i))) :
    callE Tryz.prog 289 #[.slice (some ⟨bb, bo, none⟩) len cap] w fun v w' => v = .agg ((sched b).map uv).toArray ∧ Below w.heap.size w w' := by
  refine calls_E Tryz.func289 rfl rfl rfl (Nat.le_of_ble_eq_true rfl) ?_
  simp [go_sem, IntWalk.iteOmega, IntWalk.toNatUp, zeros_fold]
  refine W_at fun W hW => ?_
  obtain ⟨b0, b1, hB, _⟩ := news2 hW
  clear hW
  refine W_loop (fun s wr => ∃ t : Nat, t ≤ 16 ∧ s 4 = .int .i64 t ∧ s 0 = .slice (some ⟨bb, bo, none⟩) len cap ∧ s 2 = .pointer (some ⟨w.heap.size, 0, none⟩) ∧ s 3 = .pointer (some ⟨w.heap.size + 1, 0, none⟩) ∧
    Blk wr (w.heap.size + 1) 468 (schedCells b t) ∧ Blk wr w.heap.size 468 zeros64 ∧ Below w.heap.size w wr) (fun s _ => 16 - (intOf (s 4)).toNat) ?_ ?_
  · exact ⟨0, by omega, by simp [go_sem], by simp [go_sem], by simp [go_sem], by simp [go_sem], by rw [schedCells_zero]; exact b1, b0, hB⟩
  · clear b0 b1 hB
    rintro s wr ⟨t, ht, e4, e0, e2, e3, b1, b0, hB⟩
    by_cases hlt : t < 16
    · have hlt' : (t : Int) < 16 := by omega
      simp [go_sem, IntWalk.iteOmega, IntWalk.toNatUp, e4, e0, e2, e3, hlt']
      refine W_loop (fun s wr => ∃ i : Nat, i ≤ 4 ∧ s 5 = .int .i64 i ∧ s 4 = .int .i64 t ∧ s 0 = .slice (some ⟨bb, bo, none⟩) len cap ∧ s 2 = .pointer (some ⟨w.heap.size, 0, none⟩) ∧ s 3 = .pointer (some ⟨w.heap.size + 1, 0, none⟩) ∧
        Blk wr (w.heap.size + 1) 468 ((schedCells b t).setIfInBounds t (uv (partW b t i))) ∧ Blk wr w.heap.size 468 zeros64 ∧ Below w.heap.size w wr) (fun s _ => 4 - (intOf (s 5)).toNat) ?_ ?_
      · exact ⟨0, by omega, by simp [go_sem], by simp [go_sem, e4], by simp [go_sem, e0], by simp [go_sem, e2], by simp [go_sem, e3], by rw [partW, schedCells_zero_at b t (by omega)]; exact b1, b0, hB⟩
      · clear b0 b1 hB e4 e0 e2 e3
        rintro s wr ⟨i, hi, e5, e4, e0, e2, e3, b1, b0, hB⟩
        by_cases hi4 : i < 4
        · have hi4' : (i : Int) < 4 := by omega
          have x0 : wr.cell? ⟨bb, bo + (4 * t + i), none⟩ = some (.int .u8 (byteAt b (4 * t + i))) := (hB.cell (p := ⟨bb, bo + (4 * t + i), none⟩) hb).trans (hc (4 * t + i) (by omega))
          have hs : (schedCells b t).size = 64 := by simp [schedCells, schedTo_length]; omega
          have x1 : wr.cell? ⟨w.heap.size + 1, t, none⟩ = some (uv (partW b t i)) := (b1.cell t).trans (Array.getElem?_setIfInBounds_self_of_lt (by omega))
          have f1 := b1.frozen t
          have hst := step_word (partW b t i) _ (byteAt_lt b (4 * t + i))
          simp [go_sem, IntWalk.iteOmega, IntWalk.toNatUp, e5, e4, e0, e2, e3, hi4']
          refine W_tail 15 follows (by kernel_rfl) ?_
          simp [go_sem, IntWalk.iteOmega, IntWalk.toNatUp, e5, e4, e0, e2, e3, hi4', x0, x1, f1, hst]
          refine roundEnd.mk ⟨i + 1, by omega, by simp [go_sem, e5], by simp [go_sem, e4], by simp [go_sem, e0], by simp [go_sem, e2], by simp [go_sem, e3], ?_, ?_, ?_⟩ ?_
          · have := Blk_set (o := t) (v := uv (partW b t (i + 1))) b1
            rw [Array.setIfInBounds_setIfInBounds] at this
            exact this
          · exact b0.farCell (by omega) _
          · exact (hB.setCell (by simp) _).drew
          · simp [go_sem, intOf, e5]; omega
        · have hi4' : ¬ (i : Int) < 4 := by omega
          obtain rfl : i = 4 := by omega
          simp [go_sem, IntWalk.iteOmega, IntWalk.toNatUp, e5, e4, e0, e2, e3, hi4']
          refine roundEnd.mk ⟨t + 1, by omega, by simp [go_sem, e4], by simp [go_sem, e0], by simp [go_sem, e2], by simp [go_sem, e3], ?_, b0, hB⟩ ?_
          · rw [← schedCells_set b t (by omega), nextWord, if_pos hlt, ← partW_four]; exact b1
          · simp [go_sem, intOf, e4]; omega
    · have hlt' : ¬ (t : Int) < 16 := by omega
      obtain rfl : t = 16 := by omega
      simp [go_sem, IntWalk.iteOmega, IntWalk.toNatUp, e4, e0, e2, e3, hlt']
      refine W_loop (fun s wr => ∃ t : Nat, 16 ≤ t ∧ t ≤ 64 ∧ s 6 = .int .i64 t ∧ s 0 = .slice (some ⟨bb, bo, none⟩) len cap ∧ s 2 = .pointer (some ⟨w.heap.size, 0, none⟩) ∧ s 3 = .pointer (some ⟨w.heap.size + 1, 0, none⟩) ∧
        Blk wr (w.heap.size + 1) 468 (schedCells b t) ∧ Blk wr w.heap.size 468 zeros64 ∧ Below w.heap.size w wr) (fun s _ => 64 - (intOf (s 6)).toNat) ?_ ?_
      · exact ⟨16, by omega, by omega, by simp [go_sem], by simp [go_sem, e0], by simp [go_sem, e2], by simp [go_sem, e3], b1, b0, hB⟩
      · clear b0 b1 hB e4 e0 e2 e3 hlt hlt' ht
        rintro s wr ⟨t, h16, ht, e6, e0, e2, e3, b1, b0, hB⟩
        by_cases hlt : t < 64
        · have hlt' : (t : Int) < 64 := by omega
          obtain ⟨v, hv⟩ := schedCells_in b t hlt
          have y1 : wr.cell? ⟨w.heap.size + 1, t, none⟩ = some v := (b1.cell t).trans hv
          have y2 := b1.frozen t
          have x2 : wr.cell? ⟨w.heap.size + 1, t - 2, none⟩ = some (uv ((schedTo b t).getD (t - 2) 0)) := (b1.cell _).trans (schedCells_at _ _ _ (by omega))
          have x7 : wr.cell? ⟨w.heap.size + 1, t - 7, none⟩ = some (uv ((schedTo b t).getD (t - 7) 0)) := (b1.cell _).trans (schedCells_at _ _ _ (by omega))
          have x15 : wr.cell? ⟨w.heap.size + 1, t - 15, none⟩ = some (uv ((schedTo b t).getD (t - 15) 0)) := (b1.cell _).trans (schedCells_at _ _ _ (by omega))
          have x16 : wr.cell? ⟨w.heap.size + 1, t - 16, none⟩ = some (uv ((schedTo b t).getD (t - 16) 0)) := (b1.cell _).trans (schedCells_at _ _ _ (by omega))
          simp [go_sem, IntWalk.iteOmega, IntWalk.toNatUp, e6, e0, e2, e3, hlt', x2, x15]
          refine W_tail 15 follows (by kernel_rfl) ?_
          simp [go_sem, IntWalk.iteOmega, IntWalk.toNatUp, e6, e0, e2, e3, x7, x16, y1, y2]
          refine roundEnd.mk ⟨t + 1, by omega, by omega, by simp [go_sem, e6], by simp [go_sem, e0], by simp [go_sem, e2], by simp [go_sem, e3], ?_, ?_, ?_⟩ ?_
          · rw [← schedCells_set b t hlt, nextWord, if_neg (by omega)]; exact Blk_set b1
          · exact b0.farCell (by omega) _
          · exact (hB.setCell (by simp) _).drew
          · simp [go_sem, intOf, e6]; omega
        · have hlt' : ¬ (t : Int) < 64 := by omega
          obtain rfl : t = 64 := by omega
          have hz : (schedCells b 64).size = 64 := by simp [schedCells, schedTo_length]
          have L := readCells_all b1 64 hz
          have C := canWrite_all b0 64 (by rfl)
          have S := storeSeg_all b0 (schedCells b 64).toList (by simp [hz]; rfl)
          have L2 := readCells_all (Blk_setRow (cs' := schedCells b 64) b0) 64 hz
          have O : allOne (schedCells b 64).toList = true := by rw [schedCells_end]; exact allOne_of (by simp [Value.oneCell'])
          simp only [Array.toArray_toList] at S
          simp [go_sem, IntWalk.iteOmega, IntWalk.toNatUp, e6, e0, e2, e3, hlt', L, C, S, L2, hz, O]
          exact ⟨by rw [schedCells_end], below_setRow hB (Nat.le_refl _) _⟩
end Go.Proofs.YtmcbcoafodmbjaaGreatDoor

/-
  The words behind a chunk: the program's 'mixed', the document's 'goes'.
-/
namespace Go.Proofs.YtmcbcoafodmbjaaGreatDoor
open Go.RowKit
set_option linter.unusedVariables false
set_option linter.unusedSimpArgs false
set_option maxRecDepth 10000
def cubeCells : Array Value := (cubes.map uv).toArray
theorem cubes_length : cubes.length = 64 := by decide
def St8.list (s : St8) : List UInt32 := [s.a, s.b, s.c, s.d, s.e, s.f, s.g, s.h]
def addTo (h v : St8) (i : Nat) : List UInt32 := (List.zipWith (· + ·) h.list v.list).take i ++ h.list.drop i
theorem addTo_end (h v : St8) : ((addTo h v 8).map uv).toArray = (h.sum v).vals := rfl
theorem addTo_at (h v : St8) (i : Nat) (hi : i < 8) : ((addTo h v i).map uv).toArray[i]? = some (uv (h.list.getD i 0)) := by
  rcases (show i = 0 ∨ i = 1 ∨ i = 2 ∨ i = 3 ∨ i = 4 ∨ i = 5 ∨ i = 6 ∨ i = 7 by omega) with rfl | rfl | rfl | rfl | rfl | rfl | rfl | rfl <;> rfl
theorem addTo_set (h v : St8) (i : Nat) (hi : i < 8) : ((addTo h v i).map uv).toArray.setIfInBounds i (uv (h.list.getD i 0 + v.list.getD i 0)) = ((addTo h v (i + 1)).map uv).toArray := by
  rcases (show i = 0 ∨ i = 1 ∨ i = 2 ∨ i = 3 ∨ i = 4 ∨ i = 5 ∨ i = 6 ∨ i = 7 by omega) with rfl | rfl | rfl | rfl | rfl | rfl | rfl | rfl <;> rfl
theorem vals_at (v : St8) (i : Nat) (hi : i < 8) : v.vals[i]? = some (uv (v.list.getD i 0)) := by
  rcases (show i = 0 ∨ i = 1 ∨ i = 2 ∨ i = 3 ∨ i = 4 ∨ i = 5 ∨ i = 6 ∨ i = 7 by omega) with rfl | rfl | rfl | rfl | rfl | rfl | rfl | rfl <;> rfl
def Cubes (w : World) : Prop := ∀ t, t < 64 → w.cell? ⟨2, t, none⟩ = some (uv (cubes.getD t 0))
theorem Cubes.pos {w : World} (h : Cubes w) : 2 < w.heap.size := World.block_lt_of_cell? w _ (h 0 (by omega))
theorem Cubes.keep {w w' : World} (h : Cubes w) (hb : Below w.heap.size w w') : Cubes w' := fun t ht => (hb.cell (p := ⟨2, t, none⟩) h.pos).trans (h t ht)
theorem Cubes.grown {w w' : World} {b : Nat} (h : Cubes w) (hb : w.grownBy w' (some b)) (hne : b ≠ 2) : Cubes w' := fun t ht => hb.cell (h t ht) (fun e => hne (Option.some.inj e).symm)
set_option maxHeartbeats 800000 in
theorem mixed_any (h : St8) (bb bo len cap : Nat) (b : List UInt8) (w : World) (hlen : 64 ≤ len) (hb : bb < w.heap.size) (hmax : len ≤ 9223372036854775807)
    (hc : ∀ i, i < 64 → w.cell? ⟨bb, bo + i, none⟩ = some (.int .u8 (byteAt b i))) (hk : Cubes w) :
    callE Tryz.prog 370 #[.agg h.vals, .slice (some ⟨bb, bo, none⟩) len cap] w fun v w' => v = .agg (mix h b).vals ∧ Below w.heap.size w w' := by
  obtain ⟨h0, h1, h2, h3, h4, h5, h6, h7⟩ := h
  refine calls_E Tryz.func370 rfl rfl rfl (Nat.le_of_ble_eq_true rfl) ?_
  simp [go_sem, IntWalk.iteOmega, IntWalk.toNatUp, St8.vals]
  refine callE_at fun W hW => ?_
  obtain ⟨b0, b1, b2, hB, hS⟩ := news3 hW
  clear hW
  refine callE_of (schedule_any bb bo len cap b W hlen (by omega) hmax (fun i hi => (hB.cell (p := ⟨bb, bo + i, none⟩) hb).trans (hc i hi))) ?_
  rintro v w1 ⟨rfl, hb1⟩
  replace b0 := b0.keep hb1
  replace b1 := b1.keep hb1
  replace b2 := b2.keep hb1
  replace hB := ext_trans hB hb1
  clear hb1 hS
  simp [go_sem, IntWalk.iteOmega, IntWalk.toNatUp]
  refine W_loop (fun s wr => ∃ t : Nat, t ≤ 64 ∧ s 18 = .int .i64 t ∧ s 2 = .pointer (some ⟨w.heap.size, 0, none⟩) ∧ s 4 = .pointer (some ⟨w.heap.size + 1, 0, none⟩) ∧ s 5 = .pointer (some ⟨w.heap.size + 1 + 1, 0, none⟩) ∧ s 17 = .agg ((sched b).map uv).toArray ∧
    Blk wr (w.heap.size + 1 + 1) 373 (St8.rounds ⟨h0, h1, h2, h3, h4, h5, h6, h7⟩ (sched b) t).vals ∧ Blk wr w.heap.size 373 #[uv h0, uv h1, uv h2, uv h3, uv h4, uv h5, uv h6, uv h7] ∧
    Blk wr (w.heap.size + 1) 373 #[.int .u32 0, .int .u32 0, .int .u32 0, .int .u32 0, .int .u32 0, .int .u32 0, .int .u32 0, .int .u32 0] ∧ Below w.heap.size w wr) (fun s _ => 64 - (intOf (s 18)).toNat) ?_ ?_
  · exact ⟨0, by omega, by simp [go_sem], by simp [go_sem], by simp [go_sem], by simp [go_sem], by simp [go_sem], b2, b0, b1, hB⟩
  · clear b0 b1 b2 hB
    rintro s wr ⟨t, ht, e18, e2, e4, e5, e17, b2, b0, b1, hB⟩
    have hk' := hk.keep hB
    by_cases hlt : t < 64
    · have hlt' : (t : Int) < 64 := by omega
      have hl := sched_length b
      have x1 : (sched b)[t]? = some ((sched b).getD t 0) := by simp [List.getD, List.getElem?_eq_getElem (show t < (sched b).length by omega)]
      have x2 : wr.cell? ⟨2, t, none⟩ = some (uv (cubes.getD t 0)) := hk' t hlt
      have hr : St8.rounds ⟨h0, h1, h2, h3, h4, h5, h6, h7⟩ (sched b) (t + 1) = (St8.rounds ⟨h0, h1, h2, h3, h4, h5, h6, h7⟩ (sched b) t).round (cubes.getD t 0) ((sched b).getD t 0) := rfl
      generalize St8.rounds ⟨h0, h1, h2, h3, h4, h5, h6, h7⟩ (sched b) t = v at b2 hr
      generalize cubes.getD t 0 = kt at x2 hr
      generalize (sched b).getD t 0 = wt at x1 hr
      obtain ⟨v0, v1, v2, v3, v4, v5, v6, v7⟩ := v
      have c2 := b2.cell
      have f2 := b2.frozen
      simp only [St8.vals] at c2
      have C : canWrite wr ⟨w.heap.size + 1 + 1, 0, none⟩ 0 8 = true := canWrite_all b2 8 rfl
      have S : ∀ l : List Value, l.length = 8 → storeSeg wr ⟨w.heap.size + 1 + 1, 0, none⟩ 0 l = wr.setRow (w.heap.size + 1 + 1) l.toArray := fun l hl => storeSeg_all b2 l (by rw [hl]; rfl)
      clear hl
      simp [go_sem, IntWalk.iteOmega, IntWalk.toNatUp, e18, e2, e4, e5, e17, hlt', x1]
      refine W_still follows (by kernel_rfl) ?_
      simp [go_sem, IntWalk.iteOmega, IntWalk.toNatUp, e18, e2, e4, e5, e17, hlt', x1, c2]
      refine W_still follows (by kernel_rfl) ?_
      simp [go_sem, IntWalk.iteOmega, IntWalk.toNatUp, e18, e2, e4, e5, e17, hlt', x1, x2, c2, f2, C, S]
      refine roundEnd.mk ⟨t + 1, by omega, by simp [go_sem, e18], by simp [go_sem, e2], by simp [go_sem, e4], by simp [go_sem, e5], by simp [go_sem, e17], ?_, ?_, ?_, ?_⟩ ?_
      · rw [hr]; exact Blk_setRow b2
      · exact b0.farRow (by omega) _
      · exact b1.farRow (by omega) _
      · exact (below_setRow hB (by omega) _).drew.drew
      · simp [go_sem, intOf, e18]; omega
    · have hlt' : ¬ (t : Int) < 64 := by omega
      obtain rfl : t = 64 := by omega
      simp [go_sem, IntWalk.iteOmega, IntWalk.toNatUp, e18, e2, e4, e5, e17, hlt']
      have hm : mix ⟨h0, h1, h2, h3, h4, h5, h6, h7⟩ b = St8.sum ⟨h0, h1, h2, h3, h4, h5, h6, h7⟩ (St8.rounds ⟨h0, h1, h2, h3, h4, h5, h6, h7⟩ (sched b) 64) := rfl
      generalize St8.rounds ⟨h0, h1, h2, h3, h4, h5, h6, h7⟩ (sched b) 64 = v at b2 hm
      generalize mix ⟨h0, h1, h2, h3, h4, h5, h6, h7⟩ b = m at hm
      change Blk wr w.heap.size 373 (St8.vals ⟨h0, h1, h2, h3, h4, h5, h6, h7⟩) at b0
      generalize (⟨h0, h1, h2, h3, h4, h5, h6, h7⟩ : St8) = h at *
      clear e18 e17 ht hlt hlt'
      refine W_loop (fun s wr => ∃ i : Nat, i ≤ 8 ∧ s 99 = .int .i64 i ∧ s 2 = .pointer (some ⟨w.heap.size, 0, none⟩) ∧ s 4 = .pointer (some ⟨w.heap.size + 1, 0, none⟩) ∧ s 5 = .pointer (some ⟨w.heap.size + 1 + 1, 0, none⟩) ∧
        Blk wr (w.heap.size + 1 + 1) 373 v.vals ∧ Blk wr w.heap.size 373 ((addTo h v i).map uv).toArray ∧
        Blk wr (w.heap.size + 1) 373 #[.int .u32 0, .int .u32 0, .int .u32 0, .int .u32 0, .int .u32 0, .int .u32 0, .int .u32 0, .int .u32 0] ∧ Below w.heap.size w wr) (fun s _ => 8 - (intOf (s 99)).toNat) ?_ ?_
      · exact ⟨0, by omega, by simp [go_sem], by simp [go_sem, e2], by simp [go_sem, e4], by simp [go_sem, e5], b2, b0, b1, hB⟩
      · clear b0 b1 b2 hB e2 e4 e5 hk'
        rintro s wr ⟨i, hi, e99, e2, e4, e5, b2, b0, b1, hB⟩
        by_cases hlt : i < 8
        · have hlt' : (i : Int) < 8 := by omega
          have x0 := (b0.cell i).trans (addTo_at h v i hlt)
          have x2 := (b2.cell i).trans (vals_at v i hlt)
          have f0 := b0.frozen i
          generalize hx : h.list.getD i 0 = x at x0
          generalize hy : v.list.getD i 0 = y at x2
          simp [go_sem, IntWalk.iteOmega, IntWalk.toNatUp, e99, e2, e4, e5, hlt']
          refine W_tail 8 follows (by kernel_rfl) ?_
          simp [go_sem, IntWalk.iteOmega, IntWalk.toNatUp, e99, e2, e4, e5, hlt', x0, x2, f0]
          refine roundEnd.mk ⟨i + 1, by omega, by simp [go_sem, e99], by simp [go_sem, e2], by simp [go_sem, e4], by simp [go_sem, e5], ?_, ?_, ?_, ?_⟩ ?_
          · exact b2.farCell (by omega) _
          · rw [← addTo_set h v i hlt, hx, hy]; exact Blk_set b0
          · exact b1.farCell (by omega) _
          · exact (hB.setCell (by simp) _).drew
          · simp [go_sem, intOf, e99]; omega
        · have hlt' : ¬ (i : Int) < 8 := by omega
          obtain rfl : i = 8 := by omega
          rw [addTo_end, ← hm] at b0
          have L := readCells_all b0 8 rfl
          have C := canWrite_all b1 8 rfl
          have S : ∀ l : List Value, l.length = 8 → storeSeg wr ⟨w.heap.size + 1, 0, none⟩ 0 l = wr.setRow (w.heap.size + 1) l.toArray := fun l hl => storeSeg_all b1 l (by rw [hl]; rfl)
          have L2 := readCells_all (Blk_setRow (cs' := m.vals) b1) 8 rfl
          have O : allOne m.vals.toList = true := rfl
          have hz : m.vals.size = 8 := rfl
          simp [go_sem, IntWalk.iteOmega, IntWalk.toNatUp, e99, e2, e4, e5, hlt', L, C, S, O, L2, hz]
          exact below_setRow hB (by omega) _
end Go.Proofs.YtmcbcoafodmbjaaGreatDoor
