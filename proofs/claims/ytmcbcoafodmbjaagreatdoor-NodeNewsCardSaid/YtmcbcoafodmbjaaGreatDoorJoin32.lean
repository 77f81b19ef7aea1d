/-
  Texts joined: FId, FIdz, FRef, FRefC, FRefSum, FRefSum2.
-/
import Derived.Test.YtmcbcoafodmbjaaGreatDoorJoin31

/-
  block.ID.
-/
namespace Go.Proofs.YtmcbcoafodmbjaaGreatDoor
open Go.RowKit
set_option linter.unusedVariables false
set_option linter.unusedSimpArgs false
set_option maxRecDepth 10000
def idB (b : Bk) : List UInt8 × Int := if checkB b = 0 then (sha (bytesB b), 0) else (zeroId, 30)
def zeroI : List Value := [.int .u8 0, .int .u8 0, .int .u8 0, .int .u8 0, .int .u8 0, .int .u8 0, .int .u8 0, .int .u8 0, .int .u8 0, .int .u8 0, .int .u8 0, .int .u8 0, .int .u8 0, .int .u8 0, .int .u8 0, .int .u8 0, .int .u8 0, .int .u8 0, .int .u8 0, .int .u8 0, .int .u8 0, .int .u8 0, .int .u8 0, .int .u8 0, .int .u8 0, .int .u8 0, .int .u8 0, .int .u8 0, .int .u8 0, .int .u8 0, .int .u8 0, .int .u8 0]
set_option maxHeartbeats 3200000 in
theorem bid_any {w : World} {b : Bk} {dv : Value} (hok : BkOk b) (hd : RdB w dv b.data) (hC : Cubes w) :
    callE Tryz.prog 132 #[.agg (bkv b dv).toArray] w fun r w' => r = .tuple #[.agg (bl (idB b).1).toArray, .int .i64 (idB b).2] ∧ Below w.heap.size w w' := by
  have kA := ext_alloc w (.cells (bkv b dv).toArray 39)
  have l34 : ∀ dv : Value, (bkv b dv).length = 34 := fun dv => bkv_len hok.len
  have x0 : ∀ k t, readCells ((w.alloc (.cells (bkv b dv).toArray 39)).alloc (.cells k t)) ⟨w.heap.size, 0, none⟩ 0 34 = some (bkv b dv) := fun k t => by
    have := readCells_all (Blk.more (o := .cells k t) (Blk.self_ (w := w) (t := 39) (cs := (bkv b dv).toArray) rfl)) 34 (by simp [l34])
    simpa using this
  refine calls_E Tryz.func132 rfl rfl rfl (Nat.le_of_ble_eq_true rfl) ?_
  simp [go_sem, IntWalk.iteOmega, IntWalk.toNatUp, x0]
  have kB := kA.alloc kA.size (.cells zeroI.toArray 36)
  have hZ : Blk ((w.alloc (.cells (bkv b dv).toArray 39)).alloc (.cells zeroI.toArray 36)) (w.heap.size + 1) 36 zeroI.toArray := Blk.self_ (by simp)
  change callE _ _ _ ((w.alloc (.cells (bkv b dv).toArray 39)).alloc (.cells zeroI.toArray 36)) _
  generalize (w.alloc (.cells (bkv b dv).toArray 39)).alloc (.cells zeroI.toArray 36) = w2 at *
  refine callE_of (bbytes_any hok (hd.keep kB)) ?_
  rintro v w3 ⟨hv, hb⟩
  have hZ3 := hZ.keep hb
  have k3 := kB.trans (hb.mono kB.size)
  rcases hv with ⟨e0, rfl⟩ | ⟨e0, u, rfl, hu⟩
  · have em : idB b = (zeroId, 30) := by unfold idB; rw [if_neg (by omega)]
    have x2 := canWrite_all hZ3 32 rfl
    have x3 : ∀ l : List Value, l.length = 32 → storeSeg w3 ⟨w.heap.size + 1, 0, none⟩ 0 l = w3.setRow (w.heap.size + 1) l.toArray := fun l hl => storeSeg_all hZ3 l (by rw [hl]; rfl)
    have x4 : ∀ l : List Value, l.length = 32 → readCells (w3.setRow (w.heap.size + 1) l.toArray) ⟨w.heap.size + 1, 0, none⟩ 0 32 = some l := fun l hl => readCells_all (Blk_setRow hZ3) 32 (by simpa using hl)
    simp [go_sem, IntWalk.iteOmega, IntWalk.toNatUp, x2, x3, x4]
    simp only [em]
    exact ⟨by first | trivial | exact ⟨rfl, trivial⟩ | exact ⟨trivial, trivial⟩ | rfl | exact ⟨rfl, rfl⟩, below_setRow k3 (by omega) _⟩
  · have em : idB b = (sha (bytesB b), 0) := by unfold idB; rw [if_pos e0]
    simp [go_sem, IntWalk.iteOmega, IntWalk.toNatUp]
    refine callE_of (shaSum_any u (bytesB b) w3 hu (hC.keep k3) (by have := bytesB_len hok e0; omega)) ?_
    rintro v w4 ⟨rfl, hb4⟩
    have hZ4 := hZ3.keep hb4
    have x2 := canWrite_all hZ4 32 rfl
    have ls : (bl (sha (bytesB b))).length = 32 := by rw [bl_length]; exact sha_length _
    have x3 := storeSeg_all hZ4 (bl (sha (bytesB b))) (by rw [ls]; rfl)
    have x4 : readCells (w4.setRow (w.heap.size + 1) (bl (sha (bytesB b))).toArray) ⟨w.heap.size + 1, 0, none⟩ 0 32 = some (bl (sha (bytesB b))) := readCells_all (Blk_setRow hZ4) 32 (by simpa using ls)
    simp [go_sem, IntWalk.iteOmega, IntWalk.toNatUp, x2, x3, x4, ls, bl_one]
    simp only [em]
    exact ⟨by first | trivial | exact ⟨rfl, trivial⟩ | exact ⟨trivial, trivial⟩ | rfl | exact ⟨rfl, rfl⟩, below_setRow (k3.trans (hb4.mono k3.size)) (by omega) _⟩
end Go.Proofs.YtmcbcoafodmbjaaGreatDoor

/-
  The zero name.
-/
namespace Go.Proofs.YtmcbcoafodmbjaaGreatDoor
open Go.RowKit
set_option linter.unusedVariables false
set_option linter.unusedSimpArgs false
set_option maxRecDepth 10000
def idZero : Array Value := (bl (List.replicate 32 0)).toArray
theorem idz_fold : (#[Value.int .u8 0, Value.int .u8 0, Value.int .u8 0, Value.int .u8 0, Value.int .u8 0, Value.int .u8 0, Value.int .u8 0, Value.int .u8 0, Value.int .u8 0, Value.int .u8 0, Value.int .u8 0, Value.int .u8 0, Value.int .u8 0, Value.int .u8 0, Value.int .u8 0, Value.int .u8 0, Value.int .u8 0, Value.int .u8 0, Value.int .u8 0, Value.int .u8 0, Value.int .u8 0, Value.int .u8 0, Value.int .u8 0, Value.int .u8 0, Value.int .u8 0, Value.int .u8 0, Value.int .u8 0, Value.int .u8 0, Value.int .u8 0, Value.int .u8 0, Value.int .u8 0, Value.int .u8 0] : Array Value) = idZero := rfl
end Go.Proofs.YtmcbcoafodmbjaaGreatDoor

/-
  The references' Num, Val, Check.
-/
namespace Go.Proofs.YtmcbcoafodmbjaaGreatDoor
open Go.RowKit
set_option linter.unusedVariables false
set_option linter.unusedSimpArgs false
set_option maxRecDepth 10000
set_option maxHeartbeats 1600000 in
theorem rnum_any (n v : Nat) (hn0 : 0 < n) (hn : n ≤ 8) (hv : v < 18446744073709551616) (w : World) :
    callE Tryz.prog 204 #[.int .i64 n, .int .u64 v] w fun r w' => RdB w' r (numB n v) ∧ Below w.heap.size w w' := by
  have hm := fun W => run_make1 (P := Tryz.prog) Tryz.underlying37 (e := 5) (z := .int .u8 0) (bytes := 1) (by kernel_rfl) rfl n (by omega) (by omega) W
  refine calls_E Tryz.func204 rfl rfl rfl (Nat.le_of_ble_eq_true rfl) ?_
  simp [go_sem, IntWalk.iteOmega, IntWalk.toNatUp, hm]
  refine W_loop (fun st wr => ∃ i : Nat, i ≤ n ∧ st 1 = .int .u64 ((v / 256 ^ i : Nat) : Int) ∧ st 5 = .slice (some ⟨w.heap.size, 0, none⟩) n n ∧ st 6 = .int .i64 ((n : Int) - 1 - i) ∧ Blk wr w.heap.size 5 (bl (numTo n v i)).toArray ∧ Below w.heap.size w wr) (fun st _ => (intOf (st 6) + 1).toNat) ?_ ?_
  · refine ⟨0, by omega, by simp [go_sem], by simp [go_sem], by simp [go_sem], ?_, ext_alloc _ _⟩
    have : (bl (numTo n v 0)).toArray = Array.replicate n (.int .u8 0) := by
      apply Array.ext'
      simp [numTo, bl, List.drop_of_length_le (show (numB n v).length ≤ n by rw [numB_len]; omega)]
    rw [this]
    exact Blk.self_ rfl
  · rintro st wr ⟨i, hi, e1, e5, e6, hB, hbw⟩
    by_cases hlt : i < n
    · have hlt' : (0 : Int) ≤ (n : Int) - 1 - i := by omega
      have hlen := numTo_len n v i (by omega)
      have hgt : (bl (numTo n v i))[n - 1 - i]? = some (.int .u8 (((numTo n v i)[n - 1 - i]'(by omega)).toNat : Int)) := bl_at2 _ _ (by omega)
      have hset := Blk_set (o := n - 1 - i) (v := .int .u8 ((UInt8.ofNat (v / 256 ^ i)).toNat : Int)) hB
      have en : ((n : Int) - 1 - i) = ((n - 1 - i : Nat) : Int) := by omega
      have hq : (v : Int) / 256 ^ i = ((v / 256 ^ i : Nat) : Int) := by simp
      have hle : v / 256 ^ i ≤ v := Nat.div_le_self _ _
      have f1 : IntKind.u64.wrap (((v : Int) / 256 ^ i).tdiv 256) = ((v / 256 ^ (i + 1) : Nat) : Int) := by
        rw [hq, Nat.pow_succ, ← Nat.div_div_eq_div_mul]
        generalize v / 256 ^ i = q at *
        have : (q : Int).tdiv 256 = ((q / 256 : Nat) : Int) := by rw [Int.tdiv_eq_ediv_of_nonneg (by omega)]; simp
        rw [this, wrap_u64_if, if_pos (by omega)]
      have f2 : IntKind.u8.wrap (((v : Int) / 256 ^ i).tmod 256) = ((UInt8.ofNat (v / 256 ^ i)).toNat : Int) := by
        rw [hq]
        generalize v / 256 ^ i = q at *
        have : (q : Int).tmod 256 = ((q % 256 : Nat) : Int) := by rw [Int.tmod_eq_emod_of_nonneg (by omega)]; simp
        rw [this, IntKind.wrap_u8]
        simp
      simp [go_sem, IntWalk.iteOmega, IntWalk.toNatUp, e1, e5, e6, hlt, hlt', hB.cell, hB.frozen, hgt, f1, f2]
      refine roundEnd.mk ⟨i + 1, by omega, by simp [go_sem], by simp [go_sem, e5], ?_, ?_, hbw.setCell (Nat.le_refl _) _⟩ ?_
      · simp [go_sem]; omega
      · have e : (bl (numTo n v (i + 1))).toArray = (bl (numTo n v i)).toArray.setIfInBounds (n - 1 - i) (.int .u8 ((UInt8.ofNat (v / 256 ^ i)).toNat : Int)) := by
          apply Array.ext'
          rw [Array.toList_setIfInBounds, numTo_next hlt, bl_set]
        rw [e]
        simpa using hset
      · simp [go_sem, intOf]; omega
    · obtain rfl : i = n := by omega
      have e : numTo i v i = numB i v := by simp [numTo]
      rw [e] at hB
      have hlt' : ¬ (0 : Int) ≤ (i : Int) - 1 - i := by omega
      simp [go_sem, IntWalk.iteOmega, IntWalk.toNatUp, e1, e5, e6, hlt']
      exact ⟨numB_rd hB (by omega) (by omega), hbw⟩
set_option maxHeartbeats 3200000 in
theorem rbcheck_any {w : World} {b : Bk} {dv : Value} (hok : BkOk b) (hd : RdB w dv b.data) :
    callE Tryz.prog 86 #[.agg (bkv b dv).toArray] w fun v w' => v = .int .i64 (checkB b) ∧ Below w.heap.size w w' := by
  have kA := ext_alloc w (.cells (bkv b dv).toArray 39)
  have hX : BkAt (w.alloc (.cells (bkv b dv).toArray 39)) w.heap.size b dv := ⟨Blk.self_ rfl, hok, hd.keep kA⟩
  refine calls_E Tryz.func86 rfl rfl rfl (Nat.le_of_ble_eq_true rfl) ?_
  simp [go_sem, IntWalk.iteOmega, IntWalk.toNatUp]
  have k32 := bkv_32 (dv := dv) hok.len
  have k33 := bkv_33 (dv := dv) hok.len
  obtain ⟨A, c, rfl, hr, hA, hc, hc2⟩ := id hd
  by_cases h1 : b.height < 0
  · have e : checkB b = 30 := by unfold checkB; rw [if_pos (.inl h1)]
    simp [go_sem, IntWalk.iteOmega, IntWalk.toNatUp, k32, h1, e]
    exact kA
  · by_cases h2 : 200 < b.data.length
    · have h2' : (200 : Int) < b.data.length := by omega
      have e : checkB b = 30 := by unfold checkB; rw [if_pos (.inr (.inl h2))]
      simp [go_sem, IntWalk.iteOmega, IntWalk.toNatUp, k32, k33, h1, h2', e]
      exact kA
    · have h2' : ¬ (200 : Int) < b.data.length := by omega
      by_cases h3 : b.height = 0
      · have hz := zero_eq b.parent hok.len
        by_cases h4 : b.parent = zeroId
        · have e : checkB b = 0 := by unfold checkB; rw [if_neg (by rintro (h | h | ⟨_, h⟩); exact h1 h; exact h2 h; exact h h4)]
          have h4' : (b.parent == zeroId) = true := by simpa using h4
          simp [go_sem, IntWalk.iteOmega, IntWalk.toNatUp, k32, k33, hX.id, h1, h2', h3, hz, h4', e]
          exact kA
        · have e : checkB b = 30 := by unfold checkB; rw [if_pos (.inr (.inr ⟨h3, h4⟩))]
          have h4' : (b.parent == zeroId) = false := by simpa using h4
          simp [go_sem, IntWalk.iteOmega, IntWalk.toNatUp, k32, k33, hX.id, h1, h2', h3, hz, h4', e]
          exact kA
      · have e : checkB b = 0 := by unfold checkB; rw [if_neg (by rintro (h | h | ⟨h, _⟩); exact h1 h; exact h2 h; exact h3 h)]
        have h3' : (b.height == 0) = false := by simpa using h3
        simp [go_sem, IntWalk.iteOmega, IntWalk.toNatUp, k32, k33, h1, h2', h3', e]
        exact kA
end Go.Proofs.YtmcbcoafodmbjaaGreatDoor

/-
  flurryref03.Clone.
-/
namespace Go.Proofs.YtmcbcoafodmbjaaGreatDoor
open Go.RowKit
set_option linter.unusedVariables false
set_option linter.unusedSimpArgs false
set_option maxRecDepth 10000
set_option maxHeartbeats 3200000 in
theorem rclone_any {w : World} {b : Bk} {dv : Value} (hok : BkOk b) (hd : RdB w dv b.data) (hm : b.data.length ≤ 100000) :
    callE Tryz.prog 87 #[.agg (bkv b dv).toArray] w fun v w' => (∃ dv', v = .agg (bkv b dv').toArray ∧ OwnD w' w.heap.size b dv') ∧ Below w.heap.size w w' := by
  have kA := ext_alloc w (.cells (bkv b dv).toArray 39)
  have k33 := bkv_33 (dv := dv) hok.len
  have kB := kA.alloc kA.size (.cells zeroB.toArray 39)
  have hX : Blk ((w.alloc (.cells (bkv b dv).toArray 39)).alloc (.cells zeroB.toArray 39)) w.heap.size 39 (bkv b dv).toArray := (Blk.self_ rfl).more _
  have hZ : Blk ((w.alloc (.cells (bkv b dv).toArray 39)).alloc (.cells zeroB.toArray 39)) (w.heap.size + 1) 39 zeroB.toArray := Blk.self_ (by simp)
  have hs2 : ((w.alloc (.cells (bkv b dv).toArray 39)).alloc (.cells zeroB.toArray 39)).heap.size = w.heap.size + 2 := by simp
  obtain ⟨A, c, rfl, hr, hA, hc, hc2⟩ := hd.keep kB
  refine calls_E Tryz.func87 rfl rfl rfl (Nat.le_of_ble_eq_true rfl) ?_
  simp [go_sem, IntWalk.iteOmega, IntWalk.toNatUp, k33]
  refine appendE (w.heap.size + 2) 5 1 1 Tryz.underlying37 el5 (World.ownsRow_nil _ _ _ _) hr (bl_one b.data) (by unfold maxLen; omega) (by omega) (by omega) ?_
  intro v w3 ho hgr _
  simp only [Nat.zero_add, List.nil_append] at ho
  have hb : Below (w.heap.size + 2) ((w.alloc (.cells (bkv b (.slice A b.data.length c)).toArray 39)).alloc (.cells zeroB.toArray 39)) w3 := by
    rw [← hs2]
    exact (Below.refl _ _).grown hgr (Nat.le_refl _) (by intro k hk; simp [Value.ownBlock] at hk)
  clear hgr
  have hX3 := hX.below hb (by omega)
  have hZ3 := hZ.below hb (by omega)
  have k3 := kB.trans (hb.mono (by omega))
  generalize (Value.slice A b.data.length c) = dv at *
  obtain ⟨-, A', c', rfl⟩ := own_sl ho
  have l34 : ∀ dv : Value, (bkv b dv).length = 34 := fun dv => bkv_len hok.len
  have hX4 : Blk (w3.setCell ⟨w.heap.size, 33, none⟩ (.slice A' b.data.length c')) w.heap.size 39 (bkv b (.slice A' b.data.length c')).toArray := by rw [← bkv_set hok.len (dv := dv)]; exact Blk_set hX3
  have hZ4 : Blk (w3.setCell ⟨w.heap.size, 33, none⟩ (.slice A' b.data.length c')) (w.heap.size + 1) 39 zeroB.toArray := hZ3.farCell (by omega) _
  have x1 := readCells_all hX4 34 (by simp [l34])
  have x2 := canWrite_all hZ4 34 rfl
  have x3 := storeSeg_all hZ4 (bkv b (.slice A' b.data.length c')) (by rw [l34]; rfl)
  have x4 : readCells ((w3.setCell ⟨w.heap.size, 33, none⟩ (.slice A' b.data.length c')).setRow (w.heap.size + 1) (bkv b (.slice A' b.data.length c')).toArray) ⟨w.heap.size + 1, 0, none⟩ 0 34 = some (bkv b (.slice A' b.data.length c')) := readCells_all (Blk_setRow hZ4) 34 (by simp [l34])
  have hfin : ((w3.setCell ⟨w.heap.size, 33, none⟩ (.slice A' b.data.length c')).setRow (w.heap.size + 1) (bkv b (.slice A' b.data.length c')).toArray).ownsRow w.heap.size 5 1 (.slice A' b.data.length c') b.data.length (bl b.data) :=
    own_mono (own_high ho fun k hk => by rw [setRow_other _ _ _ _ (by omega), hp_set, if_neg (by show k ≠ w.heap.size; omega)]) (by omega)
  simp [go_sem, IntWalk.iteOmega, IntWalk.toNatUp, hX3.cell, hX3.frozen, k33, x1, x2, x3, x4, l34, bkv_one]
  exact ⟨⟨_, rfl, hfin⟩, below_setRow (k3.setCell (p := ⟨w.heap.size, 33, none⟩) (Nat.le_refl _) _) (by omega) _⟩
end Go.Proofs.YtmcbcoafodmbjaaGreatDoor

/-
  The document's sum: 'padded', 'goes', 'Sum'.
-/
namespace Go.Proofs.YtmcbcoafodmbjaaGreatDoor
open Go.RowKit
set_option linter.unusedVariables false
set_option linter.unusedSimpArgs false
set_option maxRecDepth 10000
theorem padded_any (A : Option Addr) (c : Nat) (l : List UInt8) (w : World) (h : Rd w 1 A l.length (bl l)) (hA : A = none → l.length = 0) (hm : l.length ≤ 70368744170000) :
    callE Tryz.prog 205 #[.slice A l.length c] w fun v w' => w'.ownsRow w.heap.size 5 1 v (pad l).length (bl (pad l)) ∧ Below w.heap.size w w' := by
  refine calls_E Tryz.func205 rfl rfl rfl (Nat.le_of_ble_eq_true rfl) ?_
  simp [go_sem, IntWalk.iteOmega, IntWalk.toNatUp]
  refine appendE w.heap.size 5 1 1 Tryz.underlying37 el5 (World.ownsRow_nil _ _ _ _) h (bl_one l) (by unfold maxLen; omega) (by omega) (Nat.le_refl _) ?_
  intro v w1 hown hgr _
  simp only [Nat.zero_add, List.nil_append] at hown
  have hB1 : Below w.heap.size w w1 := (Below.refl _ _).grown hgr (Nat.le_refl _) (by intro k hk; simp [Value.ownBlock] at hk)
  have hsz := hgr.size
  clear hgr
  simp [go_sem, IntWalk.iteOmega, IntWalk.toNatUp]
  refine append_byte (w0 := w) 128 rfl hown (Nat.le_refl _) hsz hB1 (by omega) ?_
  clear hB1 hown hsz
  intro v w1 hown hsz hB1
  simp [go_sem, IntWalk.iteOmega, IntWalk.toNatUp]
  refine W_loop (fun s wr => ∃ (z : Nat) (v : Value), z ≤ noughts l.length ∧ s 0 = .slice A l.length c ∧ s 3 = v ∧ wr.ownsRow w.heap.size 5 1 v (padTo l z).length (bl (padTo l z)) ∧ w.heap.size ≤ wr.heap.size ∧ Below w.heap.size w wr) (fun s _ => l.length + 200 - sliceLen (s 3)) ?_ ?_
  · exact ⟨0, v, by omega, by simp [go_sem], by simp [go_sem], by simpa [padTo] using hown, hsz, hB1⟩
  · clear hown hsz hB1
    rintro s w1 ⟨z, v, hz, e0, e3, hown, hsz, hB1⟩
    obtain ⟨A2, c2, rfl, hr21, hr22, hr23, hr24⟩ := own_rdB hown
    have hpl := padTo_length l z
    by_cases hlt : z < noughts l.length
    · have hne : ((((padTo l z).length : Nat) : Int).tmod 64 != 56) = true := bne_iff_ne.2 (by rw [tmod_nat, hpl]; unfold noughts at hlt; omega)
      have hle : (padTo l z).length < l.length + 130 := by unfold noughts at hlt; omega
      simp [go_sem, IntWalk.iteOmega, IntWalk.toNatUp, e0, e3, hne]
      refine append_byte (w0 := w) 0 rfl hown (Nat.le_refl _) hsz hB1 (by omega) ?_
      clear hB1 hown hsz
      intro v w1 hown hsz hB1
      simp [go_sem, IntWalk.iteOmega, IntWalk.toNatUp]
      refine roundEnd.mk ⟨z + 1, v, by omega, by simp [go_sem, e0], by simp [go_sem], ?_, hsz, hB1⟩ ?_
      · rw [padTo_succ, List.length_append]; exact hown
      · obtain ⟨A3, c3, rfl, _⟩ := own_rdB (l := padTo l z ++ [0]) (by simpa using hown)
        simp [go_sem, sliceLen]; omega
    · obtain rfl : z = noughts l.length := by omega
      have hne : ((((padTo l (noughts l.length)).length : Nat) : Int).tmod 64 != 56) = false := by rw [tmod_nat, hpl]; unfold noughts; simp; omega
      have hR1 : (padTo l (noughts l.length)).length < l.length + 130 := by rw [hpl]; unfold noughts; omega
      have hmul : IntKind.u64.wrap (IntKind.u64.wrap (l.length : Int) * 8) = (l.length : Int) * 8 := by rw [IntKind.wrap_u64, IntKind.wrap_u64]; omega
      simp [go_sem, IntWalk.iteOmega, IntWalk.toNatUp, e0, e3, hne, hmul]
      refine W_loop (fun s wr => ∃ (i : Nat) (v : Value), i ≤ 8 ∧ s 3 = v ∧ s 5 = .int .i64 i ∧ s 4 = .int .u64 (l.length * 8) ∧
        wr.ownsRow w.heap.size 5 1 v ((padTo l (noughts l.length)).length + i) (bl (padTo l (noughts l.length) ++ (be64 (l.length * 8)).take i)) ∧ w.heap.size ≤ wr.heap.size ∧ Below w.heap.size w wr) (fun s _ => 8 - (intOf (s 5)).toNat) ?_ ?_
      · refine ⟨0, Value.slice A2 (padTo l (noughts l.length)).length c2, by omega, by simp [go_sem, e3], by simp [go_sem], by simp [go_sem], ?_, hsz, hB1⟩
        simpa using hown
      · clear hown hsz hB1 hne e3 e0 hz hr21 hr22 hr23 hr24 hmul
        rintro s w1 ⟨i, v, hi, e3, e5, e4, hown, hsz, hB1⟩
        have hbl : (be64 (l.length * 8)).length = 8 := by simp [be64]
        by_cases hlt : i < 8
        · have hlt' : (i : Int) < 8 := by omega
          have hl8 : (padTo l (noughts l.length) ++ (be64 (l.length * 8)).take i).length = (padTo l (noughts l.length)).length + i := by rw [List.length_append, List.length_take, hbl, Nat.min_eq_left (by omega)]
          obtain ⟨A2, c2, rfl, hr21, hr22, hr23, hr24⟩ := own_rdB (l := padTo l (noughts l.length) ++ (be64 (l.length * 8)).take i) (by rw [hl8]; exact hown)
          rw [hl8] at e3 hown
          have hw56 : IntKind.u64.wrap (56 - 8 * (i : Int)) = 56 - 8 * (i : Int) := by rw [IntKind.wrap_u64]; omega
          simp [go_sem, IntWalk.iteOmega, IntWalk.toNatUp, e3, e4, e5, hlt', hw56]
          refine append_byte (w0 := w) (UInt8.ofNat (l.length * 8 / 2 ^ (56 - 8 * i))) (u8_shr _ _) hown (Nat.le_refl _) hsz hB1 (by omega) ?_
          clear hB1 hown hsz
          intro v w1 hown hsz hB1
          simp [go_sem, IntWalk.iteOmega, IntWalk.toNatUp, e5]
          refine roundEnd.mk ⟨i + 1, v, by omega, by simp [go_sem], by simp [go_sem], by simp [go_sem, e4], ?_, hsz, hB1⟩ ?_
          · rw [be64_succ _ _ hlt, ← List.append_assoc]; exact hown
          · simp [go_sem, intOf]; omega
        · obtain rfl : i = 8 := by omega
          rw [show (be64 (l.length * 8)).take 8 = be64 (l.length * 8) from List.take_of_length_le (by omega)] at hown
          have hpad : padTo l (noughts l.length) ++ be64 (l.length * 8) = pad l := by
            unfold pad padTo
            rw [show l.length * 8 % 18446744073709551616 = l.length * 8 by omega]
          have hpl8 : (padTo l (noughts l.length)).length + 8 = (pad l).length := by rw [← hpad, List.length_append, hbl]
          rw [hpad, hpl8] at hown
          simp [go_sem, IntWalk.iteOmega, IntWalk.toNatUp, e3, e4, e5]
          exact ⟨hown, hB1⟩
theorem cube_at (t : Nat) (h : t < 64) : cubeCells[t]? = some (uv (cubes.getD t 0)) := by
  simp [cubeCells, List.getD, List.getElem?_eq_getElem (show t < cubes.length by rw [cubes_length]; exact h)]
theorem sched_at (b : List UInt8) (t : Nat) (h : t < 64) : ((sched b).map uv).toArray[t]? = some (uv ((sched b).getD t 0)) := by
  simp [List.getD, List.getElem?_eq_getElem (show t < (sched b).length by rw [sched_length]; exact h)]
def zeros8 : Array Value := #[.int .u32 0, .int .u32 0, .int .u32 0, .int .u32 0, .int .u32 0, .int .u32 0, .int .u32 0, .int .u32 0]
set_option maxHeartbeats 3200000 in
theorem goes_any (h : St8) (bb bo len cap : Nat) (b : List UInt8) (w : World) (hlen : 64 ≤ len) (hb : bb < w.heap.size) (hmax : len ≤ 9223372036854775807)
    (hc : ∀ i, i < 64 → w.cell? ⟨bb, bo + i, none⟩ = some (.int .u8 (byteAt b i))) :
    callE Tryz.prog 206 #[.agg h.vals, .slice (some ⟨bb, bo, none⟩) len cap] w fun v w' => v = .agg (mix h b).vals ∧ Below w.heap.size w w' := by
  obtain ⟨h0, h1, h2, h3, h4, h5, h6, h7⟩ := h
  have sl : ((sched b).map uv).toArray.size = 64 := by simp [sched_length]
  have so : allOne ((sched b).map uv) = true := allOne_of (by simp [Value.oneCell'])
  refine calls_E Tryz.func206 rfl rfl rfl (Nat.le_of_ble_eq_true rfl) ?_
  simp only [St8.vals]
  simp [go_sem, IntWalk.iteOmega, IntWalk.toNatUp]
  refine callE_at fun W hW => ?_
  obtain ⟨b0, b1, hB, hS⟩ := news2 hW
  clear hW
  refine callE_of (words_any bb bo len cap b W hlen (by omega) hmax (fun i hi => (hB.cell (p := ⟨bb, bo + i, none⟩) hb).trans (hc i hi))) ?_
  rintro v w1 ⟨rfl, hB1⟩
  have C1 := canWrite_all (Blk.self_ (w := w1) (t := 468) (cs := zeros64) rfl) 64 rfl
  have S1 := storeSeg_new (w := w1) (g := w1.heap.size) (cs := zeros64) (t := 468) (l := (sched b).map uv) rfl (by simp [sched_length]; rfl)
  simp [go_sem, IntWalk.iteOmega, IntWalk.toNatUp, zeros_fold, C1, S1, sl, so, sched_length]
  refine callE_at fun W2 hW2 => ?_
  obtain ⟨b5, hB2, hS2⟩ := news1 hW2
  clear hW2 C1 S1
  refine callE_of (constants_any W2) ?_
  rintro v w3 ⟨rfl, hB3⟩
  have C1 := canWrite_all (Blk.self_ (w := w3) (t := 468) (cs := zeros64) rfl) 64 rfl
  have S1 := storeSeg_new (w := w3) (g := w3.heap.size) (cs := zeros64) (t := 468) (l := cubeCells.toList) rfl (by simp [cubeCells_size]; rfl)
  simp only [Array.toArray_toList] at S1
  have k0 := ext_trans (ext_trans hB1 hB2) hB3
  replace b0 := b0.keep k0
  replace b1 := b1.keep k0
  replace b5 := b5.keep hB3
  replace hB := ext_trans hB k0
  have l0 := b0.lt
  have l1 := b1.lt
  have l5 := b5.lt
  have x0 := readCells_all (b0.more (.cells cubeCells 468)) 8 rfl
  clear k0 hB1 hB2 hB3 hS hS2
  simp [go_sem, IntWalk.iteOmega, IntWalk.toNatUp, zeros_fold, C1, S1, cubeCells_size, cubes_one, x0]
  refine W_at fun W hW => ?_
  obtain ⟨b6, b7, hB7, hS7⟩ := news2 hW
  clear hW C1 S1 x0
  replace b0 := b0.keep hB7
  replace b1 := b1.keep hB7
  replace b5 := b5.keep hB7
  replace hB := ext_trans hB hB7
  obtain ⟨g5, hg5⟩ : ∃ g, g = w1.heap.size := ⟨_, rfl⟩
  obtain ⟨g6, hg6⟩ : ∃ g, g = w3.heap.size := ⟨_, rfl⟩
  rw [← hg5] at b5 l5 ⊢
  rw [← hg6] at b6 b7 l0 l1 l5 ⊢
  clear hg5 hg6 hB7 hS7
  refine W_loop (fun s wr => ∃ t : Nat, t ≤ 64 ∧ s 8 = .int .i64 t ∧ s 2 = .pointer (some ⟨w.heap.size, 0, none⟩) ∧ s 4 = .pointer (some ⟨w.heap.size + 1, 0, none⟩) ∧ s 5 = .pointer (some ⟨g5, 0, none⟩) ∧ s 6 = .pointer (some ⟨g6, 0, none⟩) ∧ s 7 = .pointer (some ⟨g6 + 1, 0, none⟩) ∧
    Blk wr (g6 + 1) 373 (St8.rounds ⟨h0, h1, h2, h3, h4, h5, h6, h7⟩ (sched b) t).vals ∧ Blk wr w.heap.size 373 #[uv h0, uv h1, uv h2, uv h3, uv h4, uv h5, uv h6, uv h7] ∧ Blk wr (w.heap.size + 1) 373 zeros8 ∧
    Blk wr g5 468 ((sched b).map uv).toArray ∧ Blk wr g6 468 cubeCells ∧ Below w.heap.size w wr) (fun s _ => 64 - (intOf (s 8)).toNat) ?_ ?_
  · exact ⟨0, by omega, by simp [go_sem], by simp [go_sem], by simp [go_sem], by simp [go_sem], by simp [go_sem], by simp [go_sem], b7, b0, b1, b5, b6, hB⟩
  · clear b0 b1 b5 b6 b7 hB
    rintro s wr ⟨t, ht, e8, e2, e4, e5, e6, e7, b7, b0, b1, b5, b6, hB⟩
    by_cases hlt : t < 64
    · have hlt' : (t : Int) < 64 := by omega
      have x5 := (b5.cell t).trans (sched_at b t hlt)
      have x6 := (b6.cell t).trans (cube_at t hlt)
      have hr : St8.rounds ⟨h0, h1, h2, h3, h4, h5, h6, h7⟩ (sched b) (t + 1) = (St8.rounds ⟨h0, h1, h2, h3, h4, h5, h6, h7⟩ (sched b) t).round (cubes.getD t 0) ((sched b).getD t 0) := rfl
      generalize St8.rounds ⟨h0, h1, h2, h3, h4, h5, h6, h7⟩ (sched b) t = v at b7 hr
      generalize cubes.getD t 0 = kt at x6 hr
      generalize (sched b).getD t 0 = wt at x5 hr
      obtain ⟨v0, v1, v2, v3, v4, v5, v6, v7⟩ := v
      have c7 := b7.cell
      have f7 := b7.frozen
      simp only [St8.vals] at c7
      have C : canWrite wr ⟨g6 + 1, 0, none⟩ 0 8 = true := canWrite_all b7 8 rfl
      have S : ∀ l : List Value, l.length = 8 → storeSeg wr ⟨g6 + 1, 0, none⟩ 0 l = wr.setRow (g6 + 1) l.toArray := fun l hl => storeSeg_all b7 l (by rw [hl]; rfl)
      simp [go_sem, IntWalk.iteOmega, IntWalk.toNatUp, e8, e2, e4, e5, e6, e7, hlt', c7]
      refine W_still follows (by kernel_rfl) ?_
      simp [go_sem, IntWalk.iteOmega, IntWalk.toNatUp, e8, e2, e4, e5, e6, e7, hlt', c7, x5, x6]
      refine W_still follows (by kernel_rfl) ?_
      simp [go_sem, IntWalk.iteOmega, IntWalk.toNatUp, e8, e2, e4, e5, e6, e7, hlt', c7, f7, C, S]
      refine roundEnd.mk ⟨t + 1, by omega, by simp [go_sem, e8], by simp [go_sem, e2], by simp [go_sem, e4], by simp [go_sem, e5], by simp [go_sem, e6], by simp [go_sem, e7], ?_, b0.farRow (by omega) _, b1.farRow (by omega) _, b5.farRow (by omega) _, b6.farRow (by omega) _, ?_⟩ ?_
      · rw [hr]; exact Blk_setRow b7
      · exact (below_setRow hB (by omega) _).drew.drew
      · simp [go_sem, intOf, e8]; omega
    · obtain rfl : t = 64 := by omega
      simp [go_sem, IntWalk.iteOmega, IntWalk.toNatUp, e8, e2, e4, e5, e6, e7]
      have hm : mix ⟨h0, h1, h2, h3, h4, h5, h6, h7⟩ b = St8.sum ⟨h0, h1, h2, h3, h4, h5, h6, h7⟩ (St8.rounds ⟨h0, h1, h2, h3, h4, h5, h6, h7⟩ (sched b) 64) := rfl
      generalize St8.rounds ⟨h0, h1, h2, h3, h4, h5, h6, h7⟩ (sched b) 64 = v at b7 hm
      generalize mix ⟨h0, h1, h2, h3, h4, h5, h6, h7⟩ b = m at hm
      change Blk wr w.heap.size 373 (St8.vals ⟨h0, h1, h2, h3, h4, h5, h6, h7⟩) at b0
      generalize (⟨h0, h1, h2, h3, h4, h5, h6, h7⟩ : St8) = h at *
      clear e8 ht hlt b5 b6
      refine W_loop (fun s wr => ∃ i : Nat, i ≤ 8 ∧ s 13 = .int .i64 i ∧ s 2 = .pointer (some ⟨w.heap.size, 0, none⟩) ∧ s 4 = .pointer (some ⟨w.heap.size + 1, 0, none⟩) ∧ s 7 = .pointer (some ⟨g6 + 1, 0, none⟩) ∧
        Blk wr (g6 + 1) 373 v.vals ∧ Blk wr w.heap.size 373 ((addTo h v i).map uv).toArray ∧ Blk wr (w.heap.size + 1) 373 zeros8 ∧ Below w.heap.size w wr) (fun s _ => 8 - (intOf (s 13)).toNat) ?_ ?_
      · exact ⟨0, by omega, by simp [go_sem], by simp [go_sem, e2], by simp [go_sem, e4], by simp [go_sem, e7], b7, b0, b1, hB⟩
      · clear b0 b1 b7 hB e2 e4 e7 e5 e6
        rintro s wr ⟨i, hi, e13, e2, e4, e7, b7, b0, b1, hB⟩
        by_cases hlt : i < 8
        · have hlt' : (i : Int) < 8 := by omega
          have x0 := (b0.cell i).trans (addTo_at h v i hlt)
          have x7 := (b7.cell i).trans (vals_at v i hlt)
          have f0 := b0.frozen i
          generalize hx : h.list.getD i 0 = x at x0
          generalize hy : v.list.getD i 0 = y at x7
          simp [go_sem, IntWalk.iteOmega, IntWalk.toNatUp, e13, e2, e4, e7, hlt']
          refine W_tail 8 follows (by kernel_rfl) ?_
          simp [go_sem, IntWalk.iteOmega, IntWalk.toNatUp, e13, e2, e4, e7, hlt', x0, x7, f0]
          refine roundEnd.mk ⟨i + 1, by omega, by simp [go_sem, e13], by simp [go_sem, e2], by simp [go_sem, e4], by simp [go_sem, e7], b7.farCell (by omega) _, ?_, b1.farCell (by omega) _, (hB.setCell (by simp) _).drew⟩ ?_
          · rw [← addTo_set h v i hlt, hx, hy]; exact Blk_set b0
          · simp [go_sem, intOf, e13]; omega
        · obtain rfl : i = 8 := by omega
          rw [addTo_end, ← hm] at b0
          have L := readCells_all b0 8 rfl
          have C := canWrite_all b1 8 rfl
          have S : ∀ l : List Value, l.length = 8 → storeSeg wr ⟨w.heap.size + 1, 0, none⟩ 0 l = wr.setRow (w.heap.size + 1) l.toArray := fun l hl => storeSeg_all b1 l (by rw [hl]; rfl)
          have L2 := readCells_all (Blk_setRow (cs' := m.vals) b1) 8 rfl
          have O : allOne m.vals.toList = true := rfl
          have hz : m.vals.size = 8 := rfl
          simp [go_sem, IntWalk.iteOmega, IntWalk.toNatUp, e13, e2, e4, e7, L, C, S, O, L2, hz]
          exact below_setRow hB (by omega) _
theorem sumByte (V : St8) (i : Nat) (hi : i < 32) (x : UInt32) (hx : V.list.getD (i / 4) 0 = x) : (V.bytes)[i]? = some (UInt8.ofNat (x.toNat / 2 ^ (24 - 8 * (i % 4)))) := by
  subst hx
  obtain ⟨v0, v1, v2, v3, v4, v5, v6, v7⟩ := V
  have : ∀ i : Fin 32, (St8.bytes ⟨v0, v1, v2, v3, v4, v5, v6, v7⟩)[i.val]? = some (UInt8.ofNat (((St8.list ⟨v0, v1, v2, v3, v4, v5, v6, v7⟩).getD (i.val / 4) 0).toNat / 2 ^ (24 - 8 * (i.val % 4)))) := by
    intro i
    rcases i with ⟨i, hi⟩
    match i, hi with
    | 0, _ => simp [St8.bytes, wordBytes, St8.list]
    | 1, _ => simp [St8.bytes, wordBytes, St8.list]
    | 2, _ => simp [St8.bytes, wordBytes, St8.list]
    | 3, _ => simp [St8.bytes, wordBytes, St8.list]
    | 4, _ => simp [St8.bytes, wordBytes, St8.list]
    | 5, _ => simp [St8.bytes, wordBytes, St8.list]
    | 6, _ => simp [St8.bytes, wordBytes, St8.list]
    | 7, _ => simp [St8.bytes, wordBytes, St8.list]
    | 8, _ => simp [St8.bytes, wordBytes, St8.list]
    | 9, _ => simp [St8.bytes, wordBytes, St8.list]
    | 10, _ => simp [St8.bytes, wordBytes, St8.list]
    | 11, _ => simp [St8.bytes, wordBytes, St8.list]
    | 12, _ => simp [St8.bytes, wordBytes, St8.list]
    | 13, _ => simp [St8.bytes, wordBytes, St8.list]
    | 14, _ => simp [St8.bytes, wordBytes, St8.list]
    | 15, _ => simp [St8.bytes, wordBytes, St8.list]
    | 16, _ => simp [St8.bytes, wordBytes, St8.list]
    | 17, _ => simp [St8.bytes, wordBytes, St8.list]
    | 18, _ => simp [St8.bytes, wordBytes, St8.list]
    | 19, _ => simp [St8.bytes, wordBytes, St8.list]
    | 20, _ => simp [St8.bytes, wordBytes, St8.list]
    | 21, _ => simp [St8.bytes, wordBytes, St8.list]
    | 22, _ => simp [St8.bytes, wordBytes, St8.list]
    | 23, _ => simp [St8.bytes, wordBytes, St8.list]
    | 24, _ => simp [St8.bytes, wordBytes, St8.list]
    | 25, _ => simp [St8.bytes, wordBytes, St8.list]
    | 26, _ => simp [St8.bytes, wordBytes, St8.list]
    | 27, _ => simp [St8.bytes, wordBytes, St8.list]
    | 28, _ => simp [St8.bytes, wordBytes, St8.list]
    | 29, _ => simp [St8.bytes, wordBytes, St8.list]
    | 30, _ => simp [St8.bytes, wordBytes, St8.list]
    | 31, _ => simp [St8.bytes, wordBytes, St8.list]
    | n + 32, h => omega
  exact this ⟨i, hi⟩
theorem bytes_length (V : St8) : V.bytes.length = 32 := by simp [St8.bytes, wordBytes]
def part32 (T : List UInt8) (i : Nat) : Array Value := (bl (T.take i) ++ List.replicate (32 - i) (Value.int .u8 0)).toArray
theorem part32_zero (T : List UInt8) : part32 T 0 = idZero := rfl
theorem part32_end (T : List UInt8) (h : T.length = 32) : part32 T 32 = (bl T).toArray := by
  unfold part32; rw [List.take_of_length_le (by omega)]; simp
theorem part32_set (T : List UInt8) (i : Nat) (x : UInt8) (h : T.length = 32) (hx : T[i]? = some x) : (part32 T i).setIfInBounds i (.int .u8 x.toNat) = part32 T (i + 1) := by
  have hi : i < 32 := by have := (List.getElem?_eq_some_iff.1 hx).1; omega
  unfold part32
  rw [List.setIfInBounds_toArray]
  congr 1
  have hl : (bl (T.take i)).length = i := by rw [bl_length, List.length_take]; omega
  rw [List.set_append_right _ _ (by omega), hl, Nat.sub_self, show 32 - i = (32 - (i + 1)) + 1 by omega, List.replicate_succ, List.set_cons_zero, List.take_add_one, hx, bl_append]
  simp [bl]
end Go.Proofs.YtmcbcoafodmbjaaGreatDoor

/-
  The document's sum of bytes is the plain SHA-256.
-/
namespace Go.Proofs.YtmcbcoafodmbjaaGreatDoor
open Go.RowKit
set_option linter.unusedVariables false
set_option linter.unusedSimpArgs false
set_option maxRecDepth 10000
theorem part32_at (T : List UInt8) (i : Nat) (h : T.length = 32) (hi : i < 32) : (part32 T i)[i]? = some (.int .u8 0) := by
  have hl : (bl (T.take i)).length = i := by rw [bl_length, List.length_take]; omega
  unfold part32
  rw [List.getElem?_toArray, List.getElem?_append_right (by omega), hl, Nat.sub_self, List.getElem?_replicate, if_pos (by omega)]
theorem U_part (x : UInt32) (k : Nat) : IntKind.u8.wrap (U x / 2 ^ k) = ((UInt8.ofNat (x.toNat / 2 ^ k)).toNat : Int) := by
  have h : U x / 2 ^ k = ((x.toNat / 2 ^ k : Nat) : Int) := by simp [U]
  rw [h, IntKind.wrap_u8, UInt8.toNat_ofNat']
  simp
set_option maxHeartbeats 1600000 in
theorem refSum_any (A : Option Addr) (c : Nat) (l : List UInt8) (w : World) (h : Rd w 1 A l.length (bl l)) (hA : A = none → l.length = 0) (hm : l.length ≤ 70368744170000) :
    callE Tryz.prog 144 #[.slice A l.length c] w fun v w' => v = .agg (bl (sha l)).toArray ∧ Below w.heap.size w w' := by
  refine calls_E Tryz.func144 rfl rfl rfl (Nat.le_of_ble_eq_true rfl) ?_
  simp [go_sem, IntWalk.iteOmega, IntWalk.toNatUp, idz_fold]
  refine callE_at fun W hW => ?_
  obtain ⟨b2, hB, hS⟩ := news1 hW
  clear hW
  refine callE_of (padded_any A c l W (h.keep hB) hA hm) ?_
  rintro v w1 ⟨hown, hB1⟩
  have hPl := pad_length l
  have hmod : (pad l).length % 64 = 0 := by rw [hPl]; unfold noughts; omega
  have hmax : (pad l).length ≤ 70368744178664 := by rw [hPl]; unfold noughts; omega
  have hsha : sha l = (mixes firstWords (pad l) ((pad l).length / 64)).bytes := rfl
  generalize pad l = P at *
  obtain ⟨A2, c2, rfl, hr21, hr22, hr23, hr24⟩ := own_rdB hown
  clear hown hPl
  replace b2 := b2.keep hB1
  replace hB := ext_trans hB hB1
  clear hB1 hS
  simp [go_sem, IntWalk.iteOmega, IntWalk.toNatUp]
  refine W_at fun W2 hW2 => ?_
  obtain ⟨b4, hB2, hS2⟩ := news1 hW2
  clear hW2
  have l2 := b2.lt
  replace b2 := b2.keep hB2
  have hRo := rd_off hr21 (Nat.le_refl _) hB2
  replace hB := ext_trans hB hB2
  obtain ⟨g4, hg4⟩ : ∃ g, g = w1.heap.size := ⟨_, rfl⟩
  have hsz := hB2.size
  rw [← hg4] at b4 l2 hRo hsz ⊢
  replace b4 : Blk W2 g4 373 (mixes firstWords P 0).vals := b4
  clear hr21 hB2 hS2 hg4
  refine W_loop (fun s wr => ∃ q : Nat, 64 * q ≤ P.length ∧ s 2 = .pointer (some ⟨w.heap.size, 0, none⟩) ∧ s 3 = .slice A2 P.length c2 ∧ s 4 = .pointer (some ⟨g4, 0, none⟩) ∧ s 5 = .int .i64 ((64 * q : Nat) : Int) ∧
    Off g4 wr (fun w' => Rd w' 1 A2 P.length (bl P)) ∧ Blk wr g4 373 (mixes firstWords P q).vals ∧ Blk wr w.heap.size 36 idZero ∧ Below w.heap.size w wr) (fun s _ => P.length - (intOf (s 5)).toNat) ?_ ?_
  · exact ⟨0, by omega, by simp [go_sem], by simp [go_sem], by simp [go_sem], by simp [go_sem], hRo, b4, b2, hB⟩
  · clear hRo b4 b2 hB hsz
    rintro s wr ⟨q, hq, e2, e3, e4, e5, hRo, b4, b2, hB⟩
    by_cases hlt : 64 * q < P.length
    · have hge : 64 * q + 64 ≤ P.length := by omega
      obtain ⟨g, o', rfl, hglt, hgc⟩ := hRo.now.cells (by omega)
      generalize hV : mixes firstWords P q = V at *
      have hVn : mixes firstWords P (q + 1) = mix V ((P.drop (64 * q)).take 64) := by rw [← hV]; rfl
      obtain ⟨v0, v1, v2, v3, v4, v5, v6, v7⟩ := V
      simp only [St8.vals] at b4
      have x4 : readCells wr.drew ⟨g4, 0, none⟩ 0 8 = some _ := readCells_all b4 8 rfl
      have hsum : ((64 * q : Nat) : Int) + 64 = ((64 * q + 64 : Nat) : Int) := by omega
      obtain ⟨p, hp⟩ : ∃ p, p = 64 * q := ⟨_, rfl⟩
      rw [← hp] at e5 hge hlt hsum
      simp [go_sem, IntWalk.iteOmega, IntWalk.toNatUp, e2, e3, e4, e5, hlt]
      refine W_plan [(1,true),(2,true),(3,true),(4,true),(5,true),(0,false),(6,false),(7,false)] follows (by kernel_rfl) ?_
      simp [go_sem, IntWalk.iteOmega, IntWalk.toNatUp, e2, e3, e4, e5, x4, hge]
      refine callE_of (goes_any ⟨v0, v1, v2, v3, v4, v5, v6, v7⟩ g (o' + p) 64 (c2 - p) ((P.drop (64 * q)).take 64) wr.drew (by omega) hglt (by omega) ?_) ?_
      · intro j hj
        rw [byteAt_take _ _ _ hj]
        have := hgc (64 * q + j) _ (bl_at P (64 * q + j) (by omega))
        rw [show o' + p + j = o' + (64 * q + j) by omega]
        rw [show byteAt (P.drop (64 * q)) j = byteAt P (64 * q + j) by simp [byteAt, List.getD, List.getElem?_drop]]
        exact this
      rintro v w4 ⟨rfl, hB4⟩
      generalize mix ⟨v0, v1, v2, v3, v4, v5, v6, v7⟩ ((P.drop (64 * q)).take 64) = U at *
      replace hB4 := ext_trans (ext_drew wr) hB4
      replace b4 := b4.keep hB4
      replace b2 := b2.keep hB4
      have x2 := canWrite_all b4 8 rfl
      obtain ⟨u0, u1, u2, u3, u4, u5, u6, u7⟩ := U
      simp only [St8.vals]
      simp [go_sem, IntWalk.iteOmega, IntWalk.toNatUp, e2, e3, e4, e5, x2]
      rw [storeSeg_all b4 [uv u0, uv u1, uv u2, uv u3, uv u4, uv u5, uv u6, uv u7] rfl]
      have hg4 := (else_below hB4 g4).trans (else_row w4 g4 [uv u0, uv u1, uv u2, uv u3, uv u4, uv u5, uv u6, uv u7].toArray)
      refine roundEnd.mk ⟨q + 1, by omega, by simp [go_sem, e2], by simp [go_sem, e3], by simp [go_sem, e4], ?_, hRo.keep hg4, ?_, b2.farRow (by omega) _, below_setRow (ext_trans hB hB4) (by omega) _⟩ ?_
      · simp [go_sem]; omega
      · rw [hVn]; exact (Blk_setRow b4).as_ (by simp [St8.vals])
      · simp [go_sem, intOf]; omega
    · have hq8 : q = P.length / 64 := by omega
      rw [← hq8] at hsha
      have hlt' : ¬ ((64 * q : Nat) : Int) < P.length := by omega
      have hTl := bytes_length (mixes firstWords P q)
      have hby := fun i hi => sumByte (mixes firstWords P q) i hi _ rfl
      rw [hsha]
      generalize (mixes firstWords P q).bytes = T at *
      generalize mixes firstWords P q = V at *
      simp [go_sem, IntWalk.iteOmega, IntWalk.toNatUp, e2, e3, e4, e5, hlt', idz_fold]
      refine W_at fun W3 hW3 => ?_
      obtain ⟨b6, hB3, hS3⟩ := news1 hW3
      clear hW3
      have l4 := b4.lt
      replace b2 := b2.keep hB3
      replace b4 := b4.keep hB3
      replace hB := ext_trans hB hB3
      obtain ⟨g6, hg6⟩ : ∃ g, g = wr.heap.size := ⟨_, rfl⟩
      rw [← hg6] at b6 l4 ⊢
      rw [← part32_zero T] at b6
      clear hRo hB3 hS3 hg6 hq8 hsha hlt' hlt hq e3 e5
      refine W_loop (fun s wr => ∃ i : Nat, i ≤ 32 ∧ s 2 = .pointer (some ⟨w.heap.size, 0, none⟩) ∧ s 4 = .pointer (some ⟨g4, 0, none⟩) ∧ s 6 = .pointer (some ⟨g6, 0, none⟩) ∧ s 7 = .int .i64 i ∧
        Blk wr g6 36 (part32 T i) ∧ Blk wr g4 373 V.vals ∧ Blk wr w.heap.size 36 idZero ∧ Below w.heap.size w wr) (fun s _ => 32 - (intOf (s 7)).toNat) ?_ ?_
      · exact ⟨0, by omega, by simp [go_sem, e2], by simp [go_sem, e4], by simp [go_sem], by simp [go_sem], b6, b4, b2, hB⟩
      · clear b6 b4 b2 hB e2 e4
        rintro s wr ⟨i, hi, e2, e4, e6, e7, b6, b4, b2, hB⟩
        by_cases hlt : i < 32
        · have hlt' : (i : Int) < 32 := by omega
          have x4 := (b4.cell (i / 4)).trans (vals_at V (i / 4) (by omega))
          have hb := hby i hlt
          have hst := part32_set T i _ hTl hb
          generalize V.list.getD (i / 4) 0 = x at *
          have f6 := b6.frozen i
          have x6 : wr.cell? ⟨g6, i, none⟩ = some (.int .u8 0) := (b6.cell i).trans (part32_at T i hTl hlt)
          have hq4 : (i : Int) / 4 = ((i / 4 : Nat) : Int) := by omega
          have hr4 : ((i : Int)).tmod 4 = ((i % 4 : Nat) : Int) := rfl
          have hi4 : i / 4 < 8 := by omega
          have hm4 : i % 4 < 4 := by omega
          have hpart := U_part x (24 - 8 * (i % 4))
          generalize i / 4 = p at *
          generalize i % 4 = m at *
          have hw24 : IntKind.u64.wrap (24 - 8 * (m : Int)) = 24 - 8 * (m : Int) := by rw [IntKind.wrap_u64]; omega
          simp [go_sem, IntWalk.iteOmega, IntWalk.toNatUp, e2, e4, e6, e7, hlt', hq4, hr4, hi4, x4, x6, f6, hw24, hpart]
          refine roundEnd.mk ⟨i + 1, by omega, by simp [go_sem, e2], by simp [go_sem, e4], by simp [go_sem, e6], by simp [go_sem], (Blk_set b6).as_ hst, b4.farCell (by omega) _, b2.farCell (by omega) _, hB.setCell (p := ⟨g6, i, none⟩) (show w.heap.size ≤ g6 by omega) _⟩ ?_
          simp [go_sem, intOf]; omega
        · obtain rfl : i = 32 := by omega
          rw [part32_end T hTl] at b6
          have x5 : (bl T).length = 32 := by rw [bl_length, hTl]
          have x1 : readCells wr ⟨g6, 0, none⟩ 0 32 = some (bl T) := readCells_all b6 32 (by simpa using x5)
          have x2 := canWrite_all b2 32 rfl
          have x3 := storeSeg_all b2 (bl T) (by rw [x5]; rfl)
          have x4 : readCells (wr.setRow w.heap.size (bl T).toArray) ⟨w.heap.size, 0, none⟩ 0 32 = some (bl T) := readCells_all (Blk_setRow b2) 32 (by simpa using x5)
          have x6 := bl_one T
          simp [go_sem, IntWalk.iteOmega, IntWalk.toNatUp, e2, e4, e6, e7, x1, x2, x3, x4, x5, x6]
          exact below_setRow hB (Nat.le_refl _) _
end Go.Proofs.YtmcbcoafodmbjaaGreatDoor
