/-
  Texts joined: FBytes, FId, FIdz, FRef, FRefC.
-/
import Derived.Test.YtdjcjjodbniebaaGreatDoorJoin12
namespace Go.Proofs.YtdjcjjodbniebaaGreatDoor
open Go.RowKit
set_option linter.unusedVariables false
set_option linter.unusedSimpArgs false
set_option maxRecDepth 10000
def bytesB (b : Bk) : List UInt8 := numB 2 0 ++ b.parent ++ numB 8 b.height.toNat ++ numB 4 b.data.length ++ b.data
theorem checkB_height {b : Bk} (h : checkB b = 0) : 0 ≤ b.height := by
  unfold checkB at h
  split at h
  · simp at h
  · rename_i hn; omega
theorem bytesB_len {b : Bk} (hok : BkOk b) (h : checkB b = 0) : (bytesB b).length ≤ 246 := by
  have := checkB_data h
  simp [bytesB, numB_len, hok.len]; omega
set_option maxHeartbeats 3200000 in
theorem bbytes_any {w : World} {b : Bk} {dv : Value} (hok : BkOk b) (hd : RdB w dv b.data) :
    callE Tryz.prog 134 #[.agg (bkv b dv).toArray] w fun r w' => ((checkB b = 30 ∧ r = .tuple #[.slice none 0 0, .int .i64 30]) ∨
      (checkB b = 0 ∧ ∃ u, r = .tuple #[u, .int .i64 0] ∧ RdB w' u (bytesB b))) ∧ Below w.heap.size w w' := by
  have kA := ext_alloc w (.cells (bkv b dv).toArray 29)
  have l34 : ∀ dv : Value, (bkv b dv).length = 34 := fun dv => bkv_len hok.len
  refine calls_E Tryz.func134 rfl rfl rfl (Nat.le_of_ble_eq_true rfl) ?_
  have hX : Blk (w.alloc (.cells (bkv b dv).toArray 29)) w.heap.size 29 (bkv b dv).toArray := Blk.self_ rfl
  have x0 := readCells_all hX 34 (by simp [l34])
  simp [go_sem, IntWalk.iteOmega, IntWalk.toNatUp, x0]
  generalize (w.alloc (.cells (bkv b dv).toArray 29)) = w2 at *
  refine callE_of (bcheck_any hok (hd.keep kA)) ?_
  rintro v w3 ⟨rfl, hb⟩
  have hX3 := hX.keep hb
  have k3 := kA.trans (hb.mono kA.size)
  rcases checkB_or b with e0 | e0
  · simp [go_sem, IntWalk.iteOmega, IntWalk.toNatUp, e0]
    refine callE_of (packnew_any 246 (by omega) w3) ?_
    rintro v w4 ⟨p, rfl, hp, hb4⟩
    have hX4 := hX3.keep hb4
    have k4 := k3.trans (hb4.mono k3.size)
    have hB4 : w3.heap.size ≤ w4.heap.size := hb4.size
    have w1 : w.heap.size + 1 ≤ w3.heap.size := hX3.lt
    have hdl := checkB_data e0
    have hh0 := checkB_height e0
    have f1 : IntKind.u64.wrap b.height = b.height := by rw [wrap_u64_if, if_pos (by have := hok.hi; omega)]
    simp [go_sem, IntWalk.iteOmega, IntWalk.toNatUp]
    refine callE_of (pshort_any hp 0 (by omega) hB4 (by simp) (by omega)) ?_
    rintro - w5 ⟨⟨v5, hp5⟩, hb5⟩
    have hX5 := hX4.below hb5 w1
    have hB5 : w3.heap.size ≤ w5.heap.size := Nat.le_trans hB4 hb5.size
    have k5 := k4.trans (hb5.mono (by omega))
    simp [go_sem, IntWalk.iteOmega, IntWalk.toNatUp]
    have hid : RdB w5 (.slice (some ⟨w.heap.size, 0, none⟩) 32 32) b.parent := ⟨some ⟨w.heap.size, 0, none⟩, 32, by rw [hok.len], ⟨by simp [bl], fun _ => ⟨_, 0, rfl, hX5.lt, fun j u hj => by rw [hX5.cell, Nat.zero_add, List.getElem?_toArray]; exact bkv_id hok.len hj⟩⟩, fun h => by simp at h, by rw [hok.len]; omega, by omega⟩
    refine callE_of (pfixed_any hp5 hid hB5 (by rintro g o m c h -; simp at h; omega) (by simp [numB_len, hok.len]) (by omega)) ?_
    rintro - w6 ⟨⟨v6, hp6⟩, hb6⟩
    have hX6 := hX5.below hb6 w1
    have hB6 : w3.heap.size ≤ w6.heap.size := Nat.le_trans hB5 hb6.size
    have k6 := k5.trans (hb6.mono (by omega))
    have c32 : w6.cell? ⟨w.heap.size, 32, none⟩ = some (.int .i64 b.height) := by rw [hX6.cell, List.getElem?_toArray]; exact bkv_32 hok.len
    have hx : (Value.int IntKind.u64 b.height) = .int .u64 (b.height.toNat : Int) := by congr 1; omega
    simp [go_sem, IntWalk.iteOmega, IntWalk.toNatUp, c32, f1]
    rw [hx]
    refine callE_of (plong_any hp6 b.height.toNat (by have := hok.hi; omega) hB6 (by simp [numB_len, hok.len]) (by omega)) ?_
    rintro - w7 ⟨⟨v7, hp7⟩, hb7⟩
    have hX7 := hX6.below hb7 w1
    have hB7 : w3.heap.size ≤ w7.heap.size := Nat.le_trans hB6 hb7.size
    have k7 := k6.trans (hb7.mono (by omega))
    have c33 : w7.cell? ⟨w.heap.size, 33, none⟩ = some dv := by rw [hX7.cell, List.getElem?_toArray]; exact bkv_33 hok.len
    simp [go_sem, IntWalk.iteOmega, IntWalk.toNatUp, c33]
    refine callE_of (pbytes_any hp7 (hd.keep k7) hB7 (fun g o m c h hm => ?_) (by simp [numB_len, hok.len]; omega) (by omega)) ?_
    · obtain ⟨A, c', e1, hr, -⟩ := id hd
      rw [e1] at h
      simp at h
      obtain ⟨b', o', e2, hlt, -⟩ := hr.cells (by omega)
      rw [h.1] at e2
      simp at e2
      omega
    · rintro - w8 ⟨⟨v8, hp8⟩, hb8⟩
      have k8 := k7.trans (hb8.mono (by omega))
      simp [go_sem, IntWalk.iteOmega, IntWalk.toNatUp]
      refine callE_of (out_any hp8 (by simp [numB_len, hok.len]; omega)) ?_
      rintro - w9 ⟨⟨u, rfl, hu, -⟩, hb9⟩
      simp [go_sem, IntWalk.iteOmega, IntWalk.toNatUp]
      exact ⟨⟨e0, by simpa [bytesB] using hu⟩, k8.trans (hb9.mono k8.size)⟩
  · simp [go_sem, IntWalk.iteOmega, IntWalk.toNatUp, e0]
    exact k3
def idB (b : Bk) : List UInt8 × Int := if checkB b = 0 then (sha (bytesB b), 0) else (zeroId, 30)
def zeroI : List Value := [.int .u8 0, .int .u8 0, .int .u8 0, .int .u8 0, .int .u8 0, .int .u8 0, .int .u8 0, .int .u8 0, .int .u8 0, .int .u8 0, .int .u8 0, .int .u8 0, .int .u8 0, .int .u8 0, .int .u8 0, .int .u8 0, .int .u8 0, .int .u8 0, .int .u8 0, .int .u8 0, .int .u8 0, .int .u8 0, .int .u8 0, .int .u8 0, .int .u8 0, .int .u8 0, .int .u8 0, .int .u8 0, .int .u8 0, .int .u8 0, .int .u8 0, .int .u8 0]
set_option maxHeartbeats 3200000 in
theorem bid_any {w : World} {b : Bk} {dv : Value} (hok : BkOk b) (hd : RdB w dv b.data) (hC : Cubes w) :
    callE Tryz.prog 98 #[.agg (bkv b dv).toArray] w fun r w' => r = .tuple #[.agg (bl (idB b).1).toArray, .int .i64 (idB b).2] ∧ Below w.heap.size w w' := by
  have kA := ext_alloc w (.cells (bkv b dv).toArray 29)
  have l34 : ∀ dv : Value, (bkv b dv).length = 34 := fun dv => bkv_len hok.len
  have x0 : ∀ k t, readCells ((w.alloc (.cells (bkv b dv).toArray 29)).alloc (.cells k t)) ⟨w.heap.size, 0, none⟩ 0 34 = some (bkv b dv) := fun k t => by
    have := readCells_all (Blk.more (o := .cells k t) (Blk.self_ (w := w) (t := 29) (cs := (bkv b dv).toArray) rfl)) 34 (by simp [l34])
    simpa using this
  refine calls_E Tryz.func98 rfl rfl rfl (Nat.le_of_ble_eq_true rfl) ?_
  simp [go_sem, IntWalk.iteOmega, IntWalk.toNatUp, x0]
  have kB := kA.alloc kA.size (.cells zeroI.toArray 27)
  have hZ : Blk ((w.alloc (.cells (bkv b dv).toArray 29)).alloc (.cells zeroI.toArray 27)) (w.heap.size + 1) 27 zeroI.toArray := Blk.self_ (by simp)
  change callE _ _ _ ((w.alloc (.cells (bkv b dv).toArray 29)).alloc (.cells zeroI.toArray 27)) _
  generalize (w.alloc (.cells (bkv b dv).toArray 29)).alloc (.cells zeroI.toArray 27) = w2 at *
  refine callE_of (bbytes_any hok (hd.keep kB)) ?_
  rintro v w3 ⟨hv, hb⟩
  have hZ3 := hZ.keep hb
  have k3 := kB.trans (hb.mono kB.size)
  rcases hv with ⟨e0, rfl⟩ | ⟨e0, u, rfl, hu⟩
  · have em : idB b = (zeroId, 30) := by unfold idB; rw [if_neg (by omega)]
    have x2 := canWrite_all hZ3 32 rfl
    have x3 : ∀ l : List Value, l.length = 32 → storeSeg w3 ⟨w.heap.size + 1, 0, none⟩ 0 l = w3.setRow (w.heap.size + 1) l.toArray := fun l hl => storeSeg_all hZ3 l (by rw [hl]; rfl)
    have x4 : ∀ l : List Value, l.length = 32 → readCells (w3.setRow (w.heap.size + 1) l.toArray) ⟨w.heap.size + 1, 0, none⟩ 0 32 = some l := fun l hl => readCells_all (Blk_setRow hZ3) 32 (by simpa using hl)
    simp [go_sem, IntWalk.iteOmega, IntWalk.toNatUp, x2, x3, x4]
    simp only [em]
    exact ⟨by first | trivial | exact ⟨rfl, trivial⟩ | exact ⟨trivial, trivial⟩ | rfl | exact ⟨rfl, rfl⟩, below_setRow k3 (by omega) _⟩
  · have em : idB b = (sha (bytesB b), 0) := by unfold idB; rw [if_pos e0]
    simp [go_sem, IntWalk.iteOmega, IntWalk.toNatUp]
    refine callE_of (shaSum_any u (bytesB b) w3 hu (hC.keep k3) (by have := bytesB_len hok e0; omega)) ?_
    rintro v w4 ⟨rfl, hb4⟩
    have hZ4 := hZ3.keep hb4
    have x2 := canWrite_all hZ4 32 rfl
    have ls : (bl (sha (bytesB b))).length = 32 := by rw [bl_length]; exact sha_length _
    have x3 := storeSeg_all hZ4 (bl (sha (bytesB b))) (by rw [ls]; rfl)
    have x4 : readCells (w4.setRow (w.heap.size + 1) (bl (sha (bytesB b))).toArray) ⟨w.heap.size + 1, 0, none⟩ 0 32 = some (bl (sha (bytesB b))) := readCells_all (Blk_setRow hZ4) 32 (by simpa using ls)
    simp [go_sem, IntWalk.iteOmega, IntWalk.toNatUp, x2, x3, x4, ls, bl_one]
    simp only [em]
    exact ⟨by first | trivial | exact ⟨rfl, trivial⟩ | exact ⟨trivial, trivial⟩ | rfl | exact ⟨rfl, rfl⟩, below_setRow (k3.trans (hb4.mono k3.size)) (by omega) _⟩
def idZero : Array Value := (bl (List.replicate 32 0)).toArray
theorem idz_fold : (#[Value.int .u8 0, Value.int .u8 0, Value.int .u8 0, Value.int .u8 0, Value.int .u8 0, Value.int .u8 0, Value.int .u8 0, Value.int .u8 0, Value.int .u8 0, Value.int .u8 0, Value.int .u8 0, Value.int .u8 0, Value.int .u8 0, Value.int .u8 0, Value.int .u8 0, Value.int .u8 0, Value.int .u8 0, Value.int .u8 0, Value.int .u8 0, Value.int .u8 0, Value.int .u8 0, Value.int .u8 0, Value.int .u8 0, Value.int .u8 0, Value.int .u8 0, Value.int .u8 0, Value.int .u8 0, Value.int .u8 0, Value.int .u8 0, Value.int .u8 0, Value.int .u8 0, Value.int .u8 0] : Array Value) = idZero := rfl
set_option maxHeartbeats 1600000 in
theorem rnum_any (n v : Nat) (hn0 : 0 < n) (hn : n ≤ 8) (hv : v < 18446744073709551616) (w : World) :
    callE Tryz.prog 120 #[.int .i64 n, .int .u64 v] w fun r w' => RdB w' r (numB n v) ∧ Below w.heap.size w w' := by
  have hm := fun W => run_make1 (P := Tryz.prog) Tryz.underlying22 (e := 5) (z := .int .u8 0) (bytes := 1) (by kernel_rfl) rfl n (by omega) (by omega) W
  refine calls_E Tryz.func120 rfl rfl rfl (Nat.le_of_ble_eq_true rfl) ?_
  simp [go_sem, IntWalk.iteOmega, IntWalk.toNatUp, hm]
  refine W_loop (fun st wr => ∃ i : Nat, i ≤ n ∧ st 1 = .int .u64 ((v / 256 ^ i : Nat) : Int) ∧ st 5 = .slice (some ⟨w.heap.size, 0, none⟩) n n ∧ st 6 = .int .i64 ((n : Int) - 1 - i) ∧ Blk wr w.heap.size 5 (bl (numTo n v i)).toArray ∧ Below w.heap.size w wr) (fun st _ => (intOf (st 6) + 1).toNat) ?_ ?_
  · refine ⟨0, by omega, by simp [go_sem], by simp [go_sem], by simp [go_sem], ?_, ext_alloc _ _⟩
    have : (bl (numTo n v 0)).toArray = Array.replicate n (.int .u8 0) := by
      apply Array.ext'
      simp [numTo, bl, List.drop_of_length_le (show (numB n v).length ≤ n by rw [numB_len]; omega)]
    rw [this]
    exact Blk.self_ rfl
  · rintro st wr ⟨i, hi, e1, e5, e6, hB, hbw⟩
    by_cases hlt : i < n
    · have hlt' : (0 : Int) ≤ (n : Int) - 1 - i := by omega
      have hlen := numTo_len n v i (by omega)
      have hgt : (bl (numTo n v i))[n - 1 - i]? = some (.int .u8 (((numTo n v i)[n - 1 - i]'(by omega)).toNat : Int)) := bl_at2 _ _ (by omega)
      have hset := Blk_set (o := n - 1 - i) (v := .int .u8 ((UInt8.ofNat (v / 256 ^ i)).toNat : Int)) hB
      have en : ((n : Int) - 1 - i) = ((n - 1 - i : Nat) : Int) := by omega
      have hq : (v : Int) / 256 ^ i = ((v / 256 ^ i : Nat) : Int) := by simp
      have hle : v / 256 ^ i ≤ v := Nat.div_le_self _ _
      have f1 : IntKind.u64.wrap (((v : Int) / 256 ^ i).tdiv 256) = ((v / 256 ^ (i + 1) : Nat) : Int) := by
        rw [hq, Nat.pow_succ, ← Nat.div_div_eq_div_mul]
        generalize v / 256 ^ i = q at *
        have : (q : Int).tdiv 256 = ((q / 256 : Nat) : Int) := by rw [Int.tdiv_eq_ediv_of_nonneg (by omega)]; simp
        rw [this, wrap_u64_if, if_pos (by omega)]
      have f2 : IntKind.u8.wrap (((v : Int) / 256 ^ i).tmod 256) = ((UInt8.ofNat (v / 256 ^ i)).toNat : Int) := by
        rw [hq]
        generalize v / 256 ^ i = q at *
        have : (q : Int).tmod 256 = ((q % 256 : Nat) : Int) := by rw [Int.tmod_eq_emod_of_nonneg (by omega)]; simp
        rw [this, IntKind.wrap_u8]
        simp
      simp [go_sem, IntWalk.iteOmega, IntWalk.toNatUp, e1, e5, e6, hlt, hlt', hB.cell, hB.frozen, hgt, f1, f2]
      refine roundEnd.mk ⟨i + 1, by omega, by simp [go_sem], by simp [go_sem, e5], ?_, ?_, hbw.setCell (Nat.le_refl _) _⟩ ?_
      · simp [go_sem]; omega
      · have e : (bl (numTo n v (i + 1))).toArray = (bl (numTo n v i)).toArray.setIfInBounds (n - 1 - i) (.int .u8 ((UInt8.ofNat (v / 256 ^ i)).toNat : Int)) := by
          apply Array.ext'
          rw [Array.toList_setIfInBounds, numTo_next hlt, bl_set]
        rw [e]
        simpa using hset
      · simp [go_sem, intOf]; omega
    · obtain rfl : i = n := by omega
      have e : numTo i v i = numB i v := by simp [numTo]
      rw [e] at hB
      have hlt' : ¬ (0 : Int) ≤ (i : Int) - 1 - i := by omega
      simp [go_sem, IntWalk.iteOmega, IntWalk.toNatUp, e1, e5, e6, hlt']
      exact ⟨numB_rd hB (by omega) (by omega), hbw⟩
set_option maxHeartbeats 1600000 in
theorem rval_any (A : Option Addr) (c : Nat) (l : List UInt8) (hl : l.length ≤ 8) (w : World) (h : Rd w 1 A l.length (bl l)) :
    callE Tryz.prog 136 #[.slice A l.length c] w fun v w' => v = .int .u64 (beN l) ∧ w' = w := by
  refine calls_E Tryz.func136 rfl rfl rfl (Nat.le_of_ble_eq_true rfl) ?_
  simp [go_sem, IntWalk.iteOmega, IntWalk.toNatUp]
  refine W_loop (fun st wr => ∃ i : Nat, i ≤ l.length ∧ st 0 = .slice A l.length c ∧ st 3 = .int .u64 (beN (l.take i)) ∧ st 4 = .int .i64 i ∧ wr = w) (fun st _ => l.length - (intOf (st 4)).toNat) ?_ ?_
  · exact ⟨0, by omega, by simp [go_sem], by simp [go_sem, beN], by simp [go_sem], rfl⟩
  · rintro st wr ⟨i, hi, e0, e3, e4, rfl⟩
    by_cases hlt : i < l.length
    · obtain ⟨b, o, rfl, hb, hc⟩ := h.cells (by omega)
      have x0 := hc i _ (bl_at2 l i hlt)
      have hlt' : (i : Int) < l.length := by omega
      have hs := beN_snoc (l.take i) l[i]
      rw [← take_snoc hlt] at hs
      have hV := beN_lt (l.take i)
      have hp : 256 ^ (l.take i).length ≤ 72057594037927936 := by
        have : (l.take i).length ≤ 7 := by simp; omega
        exact Nat.le_trans (Nat.pow_le_pow_right (by omega) this) (by decide)
      have hc256 := (l[i]).toNat_lt
      generalize beN (l.take i) = V at *
      generalize (l[i]).toNat = ch at *
      have f1 : IntKind.u64.wrap (256 * (V : Int)) = 256 * (V : Int) := by rw [wrap_u64_if, if_pos (by omega)]
      have f2 : IntKind.u64.wrap (ch : Int) = ch := by rw [wrap_u64_if, if_pos (by omega)]
      have f3 : IntKind.u64.wrap (256 * (V : Int) + ch) = 256 * (V : Int) + ch := by rw [wrap_u64_if, if_pos (by omega)]
      simp [go_sem, IntWalk.iteOmega, IntWalk.toNatUp, e0, e3, e4, hlt, hlt', x0, f1, f2, f3]
      refine roundEnd.mk ⟨i + 1, by omega, by simp [go_sem, e0], ?_, by simp [go_sem], rfl⟩ ?_
      · rw [hs]; simp [go_sem]; omega
      · simp [go_sem, intOf]; omega
    · obtain rfl : i = l.length := by omega
      rw [List.take_of_length_le (Nat.le_refl _)] at e3
      simp [go_sem, IntWalk.iteOmega, IntWalk.toNatUp, e0, e3, e4]
set_option maxHeartbeats 3200000 in
theorem rcheck_any {w : World} {b : Bk} {dv : Value} (hok : BkOk b) (hd : RdB w dv b.data) :
    callE Tryz.prog 60 #[.agg (bkv b dv).toArray] w fun v w' => v = .int .i64 (checkB b) ∧ Below w.heap.size w w' := by
  have kA := ext_alloc w (.cells (bkv b dv).toArray 29)
  have hX : BkAt (w.alloc (.cells (bkv b dv).toArray 29)) w.heap.size b dv := ⟨Blk.self_ rfl, hok, hd.keep kA⟩
  refine calls_E Tryz.func60 rfl rfl rfl (Nat.le_of_ble_eq_true rfl) ?_
  simp [go_sem, IntWalk.iteOmega, IntWalk.toNatUp]
  have k32 := bkv_32 (dv := dv) hok.len
  have k33 := bkv_33 (dv := dv) hok.len
  obtain ⟨A, c, rfl, hr, hA, hc, hc2⟩ := id hd
  by_cases h1 : b.height < 0
  · have e : checkB b = 30 := by unfold checkB; rw [if_pos (.inl h1)]
    simp [go_sem, IntWalk.iteOmega, IntWalk.toNatUp, k32, h1, e]
    exact kA
  · by_cases h2 : 200 < b.data.length
    · have h2' : (200 : Int) < b.data.length := by omega
      have e : checkB b = 30 := by unfold checkB; rw [if_pos (.inr (.inl h2))]
      simp [go_sem, IntWalk.iteOmega, IntWalk.toNatUp, k32, k33, h1, h2', e]
      exact kA
    · have h2' : ¬ (200 : Int) < b.data.length := by omega
      by_cases h3 : b.height = 0
      · have hz := zero_eq b.parent hok.len
        by_cases h4 : b.parent = zeroId
        · have e : checkB b = 0 := by unfold checkB; rw [if_neg (by rintro (h | h | ⟨_, h⟩); exact h1 h; exact h2 h; exact h h4)]
          have h4' : (b.parent == zeroId) = true := by simpa using h4
          simp [go_sem, IntWalk.iteOmega, IntWalk.toNatUp, k32, k33, hX.id, h1, h2', h3, hz, h4', e]
          exact kA
        · have e : checkB b = 30 := by unfold checkB; rw [if_pos (.inr (.inr ⟨h3, h4⟩))]
          have h4' : (b.parent == zeroId) = false := by simpa using h4
          simp [go_sem, IntWalk.iteOmega, IntWalk.toNatUp, k32, k33, hX.id, h1, h2', h3, hz, h4', e]
          exact kA
      · have e : checkB b = 0 := by unfold checkB; rw [if_neg (by rintro (h | h | ⟨h, _⟩); exact h1 h; exact h2 h; exact h3 h)]
        have h3' : (b.height == 0) = false := by simpa using h3
        simp [go_sem, IntWalk.iteOmega, IntWalk.toNatUp, k32, k33, h1, h2', h3', e]
        exact kA
set_option maxHeartbeats 3200000 in
theorem rclone_any {w : World} {b : Bk} {dv : Value} (hok : BkOk b) (hd : RdB w dv b.data) (hm : b.data.length ≤ 100000) :
    callE Tryz.prog 80 #[.agg (bkv b dv).toArray] w fun v w' => (∃ dv', v = .agg (bkv b dv').toArray ∧ OwnD w' w.heap.size b dv') ∧ Below w.heap.size w w' := by
  have kA := ext_alloc w (.cells (bkv b dv).toArray 29)
  have k33 := bkv_33 (dv := dv) hok.len
  have kB := kA.alloc kA.size (.cells zeroB.toArray 29)
  have hX : Blk ((w.alloc (.cells (bkv b dv).toArray 29)).alloc (.cells zeroB.toArray 29)) w.heap.size 29 (bkv b dv).toArray := (Blk.self_ rfl).more _
  have hZ : Blk ((w.alloc (.cells (bkv b dv).toArray 29)).alloc (.cells zeroB.toArray 29)) (w.heap.size + 1) 29 zeroB.toArray := Blk.self_ (by simp)
  have hs2 : ((w.alloc (.cells (bkv b dv).toArray 29)).alloc (.cells zeroB.toArray 29)).heap.size = w.heap.size + 2 := by simp
  obtain ⟨A, c, rfl, hr, hA, hc, hc2⟩ := hd.keep kB
  refine calls_E Tryz.func80 rfl rfl rfl (Nat.le_of_ble_eq_true rfl) ?_
  simp [go_sem, IntWalk.iteOmega, IntWalk.toNatUp, k33]
  refine appendE (w.heap.size + 2) 5 1 1 Tryz.underlying22 el5 (World.ownsRow_nil _ _ _ _) hr (bl_one b.data) (by unfold maxLen; omega) (by omega) (by omega) ?_
  intro v w3 ho hgr _
  simp only [Nat.zero_add, List.nil_append] at ho
  have hb : Below (w.heap.size + 2) ((w.alloc (.cells (bkv b (.slice A b.data.length c)).toArray 29)).alloc (.cells zeroB.toArray 29)) w3 := by
    rw [← hs2]
    exact (Below.refl _ _).grown hgr (Nat.le_refl _) (by intro k hk; simp [Value.ownBlock] at hk)
  clear hgr
  have hX3 := hX.below hb (by omega)
  have hZ3 := hZ.below hb (by omega)
  have k3 := kB.trans (hb.mono (by omega))
  generalize (Value.slice A b.data.length c) = dv at *
  obtain ⟨-, A', c', rfl⟩ := own_sl ho
  have l34 : ∀ dv : Value, (bkv b dv).length = 34 := fun dv => bkv_len hok.len
  have hX4 : Blk (w3.setCell ⟨w.heap.size, 33, none⟩ (.slice A' b.data.length c')) w.heap.size 29 (bkv b (.slice A' b.data.length c')).toArray := by rw [← bkv_set hok.len (dv := dv)]; exact Blk_set hX3
  have hZ4 : Blk (w3.setCell ⟨w.heap.size, 33, none⟩ (.slice A' b.data.length c')) (w.heap.size + 1) 29 zeroB.toArray := hZ3.farCell (by omega) _
  have x1 := readCells_all hX4 34 (by simp [l34])
  have x2 := canWrite_all hZ4 34 rfl
  have x3 := storeSeg_all hZ4 (bkv b (.slice A' b.data.length c')) (by rw [l34]; rfl)
  have x4 : readCells ((w3.setCell ⟨w.heap.size, 33, none⟩ (.slice A' b.data.length c')).setRow (w.heap.size + 1) (bkv b (.slice A' b.data.length c')).toArray) ⟨w.heap.size + 1, 0, none⟩ 0 34 = some (bkv b (.slice A' b.data.length c')) := readCells_all (Blk_setRow hZ4) 34 (by simp [l34])
  have hfin : ((w3.setCell ⟨w.heap.size, 33, none⟩ (.slice A' b.data.length c')).setRow (w.heap.size + 1) (bkv b (.slice A' b.data.length c')).toArray).ownsRow w.heap.size 5 1 (.slice A' b.data.length c') b.data.length (bl b.data) :=
    own_mono (own_high ho fun k hk => by rw [setRow_other _ _ _ _ (by omega), hp_set, if_neg (by show k ≠ w.heap.size; omega)]) (by omega)
  simp [go_sem, IntWalk.iteOmega, IntWalk.toNatUp, hX3.cell, hX3.frozen, k33, x1, x2, x3, x4, l34, bkv_one]
  exact ⟨⟨_, rfl, hfin⟩, below_setRow (k3.setCell (p := ⟨w.heap.size, 33, none⟩) (Nat.le_refl _) _) (by omega) _⟩
end Go.Proofs.YtdjcjjodbniebaaGreatDoor
