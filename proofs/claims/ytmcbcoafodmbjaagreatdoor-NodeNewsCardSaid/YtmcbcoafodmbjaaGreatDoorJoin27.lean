/-
  Texts joined: NMean, NCheck, Runes.
-/
import Derived.Test.YtmcbcoafodmbjaaGreatDoorJoin26
import Derived.KernelRfl
import GoSem.Core.Utf8

/-
  Means, books, benches, alarms at first: the program's and the document's.
-/
namespace Go.Proofs.YtmcbcoafodmbjaaGreatDoor
open Go.RowKit
set_option linter.unusedVariables false
set_option linter.unusedSimpArgs false
set_option maxRecDepth 10000
def pastE (now : Int) : Int := if 0 ≤ now ∧ now ≤ 4611686018427387903 then 0 else 131
set_option maxHeartbeats 3200000 in
theorem mnew_any {f m x h q : Int} (hr : ruleOk f m x h q) (now : Int) (w : World) : callE Tryz.prog 65 #[.agg #[.int .i64 f, .int .i64 m, .int .i64 x, .int .i64 h, .int .i64 q], .int .i64 now] w fun v w' => (∃ a b, v = .tuple #[.agg #[.int .i64 a, .int .i64 b], .int .i64 (pastE now)]) ∧ Below w.heap.size w w' := by
  have i1 := fun r hr w k => callE_eq noinit_in (in_runs 0 now 4611686018427387903 (by omega) r hr w) k
  have k1 := ext_alloc w (.cells #[.int .i64 f, .int .i64 m, .int .i64 x, .int .i64 h, .int .i64 q] 27)
  have k2 := k1.alloc k1.size (.cells #[.int .i64 0, .int .i64 0] 139)
  have hX : Blk ((w.alloc (.cells #[.int .i64 f, .int .i64 m, .int .i64 x, .int .i64 h, .int .i64 q] 27)).alloc (.cells #[.int .i64 0, .int .i64 0] 139)) w.heap.size 27 #[.int .i64 f, .int .i64 m, .int .i64 x, .int .i64 h, .int .i64 q] := (Blk.self_ rfl).more _
  have hY : Blk ((w.alloc (.cells #[.int .i64 f, .int .i64 m, .int .i64 x, .int .i64 h, .int .i64 q] 27)).alloc (.cells #[.int .i64 0, .int .i64 0] 139)) (w.heap.size + 1) 139 #[.int .i64 0, .int .i64 0] := Blk.self_ (by simp)
  refine calls_E Tryz.func65 rfl rfl rfl (Nat.le_of_ble_eq_true rfl) ?_
  simp [go_sem, IntWalk.iteOmega, IntWalk.toNatUp]
  generalize (w.alloc (.cells #[.int .i64 f, .int .i64 m, .int .i64 x, .int .i64 h, .int .i64 q] 27)).alloc (.cells #[.int .i64 0, .int .i64 0] 139) = w1 at *
  refine callE_of (mcheck_any f m x h q w1) ?_
  rintro _ w2 ⟨rfl, k3⟩
  have kk := k2.trans (k3.mono k2.size)
  have hX2 := hX.keep k3
  have hY2 := hY.keep k3
  have hs2 : w.heap.size + 2 ≤ w2.heap.size := by have := hY2.lt; omega
  rw [if_pos hr]
  unfold ruleOk at hr
  obtain ⟨r1, r2, r3, r4, r5, r6, r7, r8⟩ := hr
  by_cases hn : 0 ≤ now ∧ now ≤ 4611686018427387903
  · have hp : pastE now = 0 := if_pos hn
    rw [hp]
    have k4 := kk.alloc kk.size (.cells #[.int .i64 0, .int .i64 now] 139)
    have hX3 := hX2.more (.cells #[.int .i64 0, .int .i64 now] 139)
    have hY3 := hY2.more (.cells #[.int .i64 0, .int .i64 now] 139)
    have hZ3 : Blk (w2.alloc (.cells #[.int .i64 0, .int .i64 now] 139)) w2.heap.size 139 #[.int .i64 0, .int .i64 now] := Blk.self_ rfl
    by_cases hfm : m < f
    · obtain ⟨D, hD, hD1, hD2⟩ : ∃ D, (64 * (f - 1)).tdiv q = D ∧ 0 ≤ D ∧ D ≤ 70368744177664 := by
        refine ⟨_, rfl, Int.tdiv_nonneg (by omega) (by omega), ?_⟩
        rw [Int.tdiv_eq_ediv_of_nonneg (by omega)]
        exact Int.le_trans (Int.ediv_le_self _ (by omega)) (by omega)
      simp [go_sem, IntWalk.iteOmega, IntWalk.toNatUp, i1 true (by simp [hn]), hX2.cell, hX2.lt, hfm]
      generalize w2.alloc (.cells #[.int .i64 0, .int .i64 now] 139) = w3 at *
      refine W_flow (fun g => g = w.heap.size) (.pure 0 (.pure 1 (.pure 2 (.pure 3 (.pure 4 (.pure 5 (.pure 6 (.pure 7 (.pure 8 (.pure 9 (.pure 10 (.pure 11 (.pure 12 (.one 13 (.done))))))))))))))) follows (by kernel_rfl) ?_
      have xd := hX3.drew
      have zd := hZ3.drew
      obtain ⟨M, hM⟩ : ∃ M : Int, min (D + 1) (16 * x) = M := ⟨_, rfl⟩
      have hZ4 := Blk_set (o := 0) (v := .int .i64 M) hZ3
      have z1 := hZ3.cell 1
      have hY4 : Blk (w3.setCell ⟨w2.heap.size, 0, none⟩ (.int .i64 M)).drew (w.heap.size + 1) 139 #[.int .i64 0, .int .i64 0] := (hY3.farCell (by omega) _).drew
      have hst := storeSeg_all hY4 [.int .i64 M, .int .i64 now] rfl
      have hcw := canWrite_all hY4 2 rfl
      have hY5 := Blk_setRow (cs' := #[.int .i64 M, .int .i64 now]) hY4
      have hrd := readCells_all hY5 2 rfl
      have hh : heldE (fun g => g = w.heap.size) w3.drew (w3.setCell ⟨w2.heap.size, 0, none⟩ (.int .i64 M)).drew := (held_refl (fun g => g = w.heap.size) w3).set (g := w2.heap.size) (o := 0) (.int .i64 M) (by omega)
      simp [go_sem, IntWalk.iteOmega, IntWalk.toNatUp, xd.cell, xd.lt, zd.cell, zd.lt, zd.frozen, hD, hM, hh, hZ4.cell, z1, hcw, hst, hrd, hX3.lt]
      exact below_setRow ((k4.setCell (p := ⟨w2.heap.size, 0, none⟩) kk.size (.int .i64 M)).drew) (g := w.heap.size + 1) (by omega) _
    · have hst := storeSeg_all hY3 [.int .i64 0, .int .i64 now] rfl
      have hcw := canWrite_all hY3 2 rfl
      have hY5 := Blk_setRow (cs' := #[.int .i64 0, .int .i64 now]) hY3
      have hrd := readCells_all hY5 2 rfl
      simp [go_sem, IntWalk.iteOmega, IntWalk.toNatUp, i1 true (by simp [hn]), hX2.cell, hX2.lt, hfm, hcw, hst, hrd]
      exact below_setRow k4 (by omega) _
  · have hp : pastE now = 131 := if_neg hn
    rw [hp]
    have hst := storeSeg_all hY2 [.int .i64 0, .int .i64 0] rfl
    have hcw := canWrite_all hY2 2 rfl
    have hY5 := Blk_setRow (cs' := #[.int .i64 0, .int .i64 0]) hY2
    have hrd := readCells_all hY5 2 rfl
    simp [go_sem, IntWalk.iteOmega, IntWalk.toNatUp, i1 false (by simp [hn]), hst, hrd, hcw]
    exact below_setRow kk (by omega) _
theorem raw_any {f m x h q : Int} (hq : 1 ≤ q ∧ q ≤ 64) (v : Int) (hv : 0 ≤ v ∧ v ≤ 17592186044416) (w : World) : callE Tryz.prog 139 #[.agg #[.int .i64 f, .int .i64 m, .int .i64 x, .int .i64 h, .int .i64 q], .int .i64 v] w fun u w' => (∃ a, u = .int .i64 a) ∧ Below w.heap.size w w' := by
  have hb : v * q ≤ 17592186044416 * 64 := Int.mul_le_mul hv.2 hq.2 (by omega) (by omega)
  have hb0 : 0 ≤ v * q := Int.mul_nonneg hv.1 (by omega)
  generalize hN : v * q = N at *
  have hX : Blk (w.alloc (.cells #[.int .i64 f, .int .i64 m, .int .i64 x, .int .i64 h, .int .i64 q] 27)) w.heap.size 27 #[.int .i64 f, .int .i64 m, .int .i64 x, .int .i64 h, .int .i64 q] := Blk.self_ rfl
  refine calls_E Tryz.func139 rfl rfl rfl (Nat.le_of_ble_eq_true rfl) ?_
  by_cases hr : N.tmod 64 = 0
  · simp [go_sem, IntWalk.iteOmega, IntWalk.toNatUp, hN, hr]
    exact ext_alloc _ _
  · have hr' : (N.tmod 64 != 0) = true := by simpa using hr
    simp [go_sem, IntWalk.iteOmega, IntWalk.toNatUp, hN, hr, hr']
    exact ext_alloc _ _
set_option maxHeartbeats 3200000 in
theorem rmnew_any {f m x h q : Int} (hr : ruleOk f m x h q) (now : Int) (hn : 0 ≤ now ∧ now ≤ 4611686018427387903) (w : World) : callE Tryz.prog 84 #[.agg #[.int .i64 f, .int .i64 m, .int .i64 x, .int .i64 h, .int .i64 q], .int .i64 now] w fun v w' => (∃ a b e, v = .tuple #[.agg #[.int .i64 a, .int .i64 b], e]) ∧ Below w.heap.size w w' := by
  have k1 := ext_alloc w (.cells #[.int .i64 f, .int .i64 m, .int .i64 x, .int .i64 h, .int .i64 q] 27)
  have k2 := k1.alloc k1.size (.cells #[.int .i64 0, .int .i64 0] 139)
  have hX : Blk ((w.alloc (.cells #[.int .i64 f, .int .i64 m, .int .i64 x, .int .i64 h, .int .i64 q] 27)).alloc (.cells #[.int .i64 0, .int .i64 0] 139)) w.heap.size 27 #[.int .i64 f, .int .i64 m, .int .i64 x, .int .i64 h, .int .i64 q] := (Blk.self_ rfl).more _
  have hY : Blk ((w.alloc (.cells #[.int .i64 f, .int .i64 m, .int .i64 x, .int .i64 h, .int .i64 q] 27)).alloc (.cells #[.int .i64 0, .int .i64 0] 139)) (w.heap.size + 1) 139 #[.int .i64 0, .int .i64 0] := Blk.self_ (by simp)
  refine calls_E Tryz.func84 rfl rfl rfl (Nat.le_of_ble_eq_true rfl) ?_
  simp [go_sem, IntWalk.iteOmega, IntWalk.toNatUp]
  generalize (w.alloc (.cells #[.int .i64 f, .int .i64 m, .int .i64 x, .int .i64 h, .int .i64 q] 27)).alloc (.cells #[.int .i64 0, .int .i64 0] 139) = w1 at *
  refine callE_of (rmcheck_any f m x h q w1) ?_
  rintro _ w2 ⟨rfl, k3⟩
  have kk := k2.trans (k3.mono k2.size)
  have hX2 := hX.keep k3
  have hY2 := hY.keep k3
  rw [if_pos hr]
  unfold ruleOk at hr
  obtain ⟨r1, r2, r3, r4, r5, r6, r7, r8⟩ := hr
  have n1 : ¬ now < 0 := by omega
  have n2 : ¬ 4611686018427387903 < now := by omega
  simp [go_sem, IntWalk.iteOmega, IntWalk.toNatUp, n1, n2]
  refine W_still follows (by kernel_rfl) ?_
  have xd := hX2.drew
  have yd := hY2.drew
  simp [go_sem, IntWalk.iteOmega, IntWalk.toNatUp, xd.cell, xd.lt]
  have kd := kk.drew
  generalize w2.drew = w3 at *
  refine W_loop (fun s wr => ∃ lo hi : Int, 0 ≤ lo ∧ lo ≤ hi ∧ hi ≤ 17592186044416 ∧ s 1 = .int .i64 now ∧ s 2 = .pointer (some ⟨w.heap.size, 0, none⟩) ∧ s 4 = .pointer (some ⟨w.heap.size + 1, 0, none⟩) ∧ s 7 = .int .i64 lo ∧ s 8 = .int .i64 hi ∧ Below w3.heap.size w3 wr) (fun s _ => (intOf (s 8) - intOf (s 7)).toNat) ?_ ?_
  · exact ⟨0, 16 * x, by omega, by omega, by omega, by simp [go_sem], by simp [go_sem], by simp [go_sem], by simp [go_sem], by simp [go_sem], Below.refl _ _⟩
  rintro s wr ⟨lo, hi, b1, b2, b3, e1, e2, e4, e7, e8, hb⟩
  have hXr := xd.keep hb
  have hYr := yd.keep hb
  have kr := kd.trans (hb.mono kd.size)
  by_cases hlt : lo < hi
  · have hmid : (lo + hi).tdiv 2 = (lo + hi) / 2 := Int.tdiv_eq_ediv_of_nonneg (by omega)
    obtain ⟨mid, hm⟩ : ∃ mid, (lo + hi) / 2 = mid := ⟨_, rfl⟩
    have c1 : lo ≤ mid := by omega
    have c2 : mid < hi := by omega
    rw [hm] at hmid
    simp [go_sem, IntWalk.iteOmega, IntWalk.toNatUp, e1, e2, e4, e7, e8, hlt, hmid]
    refine W_flow (fun g => g = w.heap.size) (.pure 0 (.pure 1 (.pure 3 (.pure 4 (.pure 6 (.pure 7 (.one 2 (.pure 5 (.pure 8 (.done)))))))))) follows (by kernel_rfl) ?_
    have hXd := hXr.drew
    have hrd := readCells_all hXd 5 rfl
    simp [go_sem, IntWalk.iteOmega, IntWalk.toNatUp, e1, e2, e4, e7, e8, hXd.cell, hXd.lt, hrd]
    refine ⟨hXd.lt, callE_of (raw_any ⟨r7, r8⟩ mid ⟨by omega, by omega⟩ wr.drew) ?_⟩
    rintro _ w5 ⟨⟨a, rfl⟩, k5⟩
    have hh : heldE (fun g => g = w.heap.size) wr.drew w5 := (held_refl _ _).below k5
    have kb : Below w3.heap.size w3 w5 := (hb.drew).trans (k5.mono hb.size)
    by_cases hc : f ≤ (if a < m then m else a)
    · simp [go_sem, IntWalk.iteOmega, IntWalk.toNatUp, hh, hc]
      refine roundEnd.mk ⟨lo, mid, by omega, by omega, by omega, by simp [go_sem, e1], by simp [go_sem, e2], by simp [go_sem, e4], by simp [go_sem, e7], by simp [go_sem], kb⟩ ?_
      simp [go_sem, intOf, e7, e8]
      omega
    · simp [go_sem, IntWalk.iteOmega, IntWalk.toNatUp, hh, hc]
      refine roundEnd.mk ⟨mid + 1, hi, by omega, by omega, by omega, by simp [go_sem, e1], by simp [go_sem, e2], by simp [go_sem, e4], by simp [go_sem], by simp [go_sem, e8], kb⟩ ?_
      simp [go_sem, intOf, e7, e8]
      omega
  · have hst := storeSeg_all hYr [.int .i64 lo, .int .i64 now] rfl
    have hcw := canWrite_all hYr 2 rfl
    have hY5 := Blk_setRow (cs' := #[.int .i64 lo, .int .i64 now]) hYr
    have hrd := readCells_all hY5 2 rfl
    simp [go_sem, IntWalk.iteOmega, IntWalk.toNatUp, e1, e2, e4, e7, e8, hlt, hst, hcw, hrd]
    exact below_setRow kr (by omega) _
theorem run_makeN {P : Program} {t e : TypeId} {z : Value} {size bytes : Nat} (ht : P.underlying t = some (.slice e)) (hi : (P.info? e).map (fun i => (i.zero, i.size, i.bytes)) = some (some z, size, bytes)) (n : Nat) (hn : n ≤ 9223372036854775807) (hb : n * bytes ≤ 281474976710656) (hs : n * size ≤ 9223372036854775807) (W : World) :
    (Instr.makeSlice t (.int .i64 n) (.int .i64 n)).run P W = .ok (.slice (some ⟨W.heap.size, 0, none⟩) n n) (W.alloc (.cells (madeCells z.cells (n * size)) e)) := by
  obtain ⟨i, h1, h2⟩ := Option.map_eq_some_iff.1 hi
  injection h2 with e1 h3
  injection h3 with e2 e3
  have := run_make (P := P) W t e i _ ht h1 e1 .i64 .i64 n n (by omega) (by omega) (by rw [e3, ← Int.natCast_mul, Nat.mul_comm]; omega) (by omega)
  rw [this, e2, Int.toNat_natCast]
theorem benchnew_any (n : Nat) (hn : 1 ≤ n ∧ n ≤ 32) (w : World) : callE Tryz.prog 67 #[.int .i64 n] w fun v w' => (∃ A, v = .tuple #[.slice A n n, .int .i64 0]) ∧ Below w.heap.size w w' := by
  have hm := run_makeN (P := Tryz.prog) (t := 140) (e := 505) (z := .agg #[.int .i64 0, .int .i64 0, .int .i64 0]) (size := 3) (bytes := 24) Tryz.underlying140 (by kernel_rfl) n (by omega) (by omega) (by omega) w
  refine calls_E Tryz.func67 rfl rfl rfl (Nat.le_of_ble_eq_true rfl) ?_
  have h1 : ¬ (n : Int) < 1 := by omega
  have h2 : ¬ (32 : Int) < n := by omega
  simp [go_sem, IntWalk.iteOmega, IntWalk.toNatUp, h1, h2, hm]
  exact ext_alloc _ _
theorem rbenchnew_any (n : Nat) (hn : 1 ≤ n ∧ n ≤ 32) (w : World) : callE Tryz.prog 85 #[.int .i64 n] w fun v w' => (∃ A, v = .tuple #[.slice A n n, .int .i64 0]) ∧ Below w.heap.size w w' := by
  have hm := run_makeN (P := Tryz.prog) (t := 140) (e := 505) (z := .agg #[.int .i64 0, .int .i64 0, .int .i64 0]) (size := 3) (bytes := 24) Tryz.underlying140 (by kernel_rfl) n (by omega) (by omega) (by omega) w
  refine calls_E Tryz.func85 rfl rfl rfl (Nat.le_of_ble_eq_true rfl) ?_
  have h1 : ¬ (n : Int) < 1 := by omega
  have h2 : ¬ (32 : Int) < n := by omega
  simp [go_sem, IntWalk.iteOmega, IntWalk.toNatUp, h1, h2, hm]
  exact ext_alloc _ _
theorem asksnew_any (room : Int) (h : 1 ≤ room ∧ room ≤ 1024) (w : World) : callE Tryz.prog 66 #[.int .i64 room, .int .i64 0] w fun v w' => (∃ g m, v = .tuple #[.pointer (some ⟨g, 0, none⟩), .int .i64 0] ∧ Blk w' g 270 #[.int .i64 room, .int .i64 0, .map (some m), .int .i64 0, .int .i64 0, .int .i64 0] ∧ w.heap.size ≤ g) ∧ Below w.heap.size w w' := by
  refine calls_E Tryz.func66 rfl rfl rfl (Nat.le_of_ble_eq_true rfl) ?_
  have h1 : ¬ room < 1 := by omega
  have h2 : ¬ 1024 < room := by omega
  simp [go_sem, IntWalk.iteOmega, IntWalk.toNatUp, h1, h2]
  exact ext_trans (ext_alloc _ _) (ext_alloc _ _)
theorem rasksnew_any (room : Int) (h : 1 ≤ room ∧ room ≤ 1024) (w : World) : callE Tryz.prog 83 #[.int .i64 room, .int .i64 0] w fun v w' => (∃ g, v = .tuple #[.pointer (some ⟨g, 0, none⟩), .int .i64 0] ∧ Blk w' g 150 #[.int .i64 room, .int .i64 0, .slice none 0 0, .int .i64 0, .int .i64 0, .int .i64 0] ∧ w.heap.size ≤ g) ∧ Below w.heap.size w w' := by
  refine calls_E Tryz.func83 rfl rfl rfl (Nat.le_of_ble_eq_true rfl) ?_
  have h1 : ¬ room < 1 := by omega
  have h2 : ¬ 1024 < room := by omega
  simp [go_sem, IntWalk.iteOmega, IntWalk.toNatUp, h1, h2]
  exact ext_alloc _ _
theorem alarmnew_any (w : World) : callE Tryz.prog 68 #[] w fun v w' => (∃ g, v = .pointer (some ⟨g, 0, none⟩)) ∧ Below w.heap.size w w' := by
  refine calls_E Tryz.func68 rfl rfl rfl (Nat.le_of_ble_eq_true rfl) ?_
  simp [go_sem, IntWalk.iteOmega, IntWalk.toNatUp]
  exact ext_trans (ext_alloc _ _) (ext_alloc _ _)
end Go.Proofs.YtmcbcoafodmbjaaGreatDoor

/-
  Which configurations of a peer, of a node may be: the program's checks and the document's.
-/
namespace Go.Proofs.YtmcbcoafodmbjaaGreatDoor
open Go.RowKit
set_option linter.unusedVariables false
set_option linter.unusedSimpArgs false
set_option maxRecDepth 10000
def cfL (c : Nat → Int) : List Value := [.int .i64 (c 0), .int .i64 (c 1), .int .i64 (c 2), .int .i64 (c 3), .int .i64 (c 4), .int .i64 (c 5), .int .i64 (c 6), .int .i64 (c 7), .int .i64 (c 8), .int .i64 (c 9), .int .i64 (c 10), .int .i64 (c 11), .int .i64 (c 12), .int .i64 (c 13), .int .i64 (c 14), .int .i64 (c 15), .int .i64 (c 16), .int .i64 (c 17), .int .i64 (c 18), .int .i64 (c 19), .int .i64 (c 20), .int .i64 (c 21), .int .i64 (c 22), .int .i64 (c 23), .int .i64 (c 24), .int .i64 (c 25), .int .i64 (c 26), .int .i64 (c 27)]
def pcL (c : Nat → Int) : List Value := [.int .i64 (c 17), .int .i64 (c 18), .int .i64 (c 19), .int .i64 (c 20), .int .i64 (c 21), .int .i64 (c 22), .int .i64 (c 23), .int .i64 (c 24), .int .i64 (c 25), .int .i64 (c 26), .int .i64 (c 27)]
def gcf (c : Nat → Int) : GCfg := ⟨c 12, c 13, c 14, c 15, c 16⟩
def pcE (c : Nat → Int) : Int := if 1 ≤ c 17 ∧ c 17 ≤ 1024 then (if ruleOk (c 18) (c 19) (c 20) (c 21) (c 22) then (if benchOk (c 23) (c 24) (c 25) (c 26) (c 27) then 0 else 150) else 130) else 1
def pcOk (c : Nat → Int) : Prop := (1 ≤ c 17 ∧ c 17 ≤ 1024) ∧ ruleOk (c 18) (c 19) (c 20) (c 21) (c 22) ∧ benchOk (c 23) (c 24) (c 25) (c 26) (c 27)
instance (c : Nat → Int) : Decidable (pcOk c) := by unfold pcOk; infer_instance
theorem pcE_ok {c : Nat → Int} (h : pcOk c) : pcE c = 0 := by
  obtain ⟨h1, h2, h3⟩ := h
  unfold pcE
  rw [if_pos h1, if_pos h2, if_pos h3]
theorem pcE_bad {c : Nat → Int} (h : ¬ pcOk c) : (pcE c == 0) = false := by
  unfold pcE
  split
  · split
    · split
      · rename_i h1 h2 h3
        exact absurd ⟨h1, h2, h3⟩ h
      · rfl
    · rfl
  · rfl
def inB (a n b : Int) : Prop := a ≤ n ∧ n ≤ b
instance (a n b : Int) : Decidable (inB a n b) := by unfold inB; infer_instance
def confOk (c : Nat → Int) : Prop := (parOk (c 0) (c 1) (c 2) (c 3) ∧ cfgOk (gcf c) ∧ pcOk c) ∧ inB 1 (c 6) 256 ∧ inB 1 (c 7) 256 ∧ inB 1 (c 8) 256 ∧ inB 1 (c 9) 4096 ∧ inB 1 (c 10) 16 ∧ 1 ≤ c 4 ∧ inB 1 (c 5) 64 ∧ 0 ≤ c 11 ∧ c 11 ≤ 1099511627776
instance (c : Nat → Int) : Decidable (confOk c) := by unfold confOk; infer_instance
theorem cfgE_ok {c : GCfg} (h : cfgOk c) : cfgE c = 0 := if_pos h
theorem cfgE_bad {c : GCfg} (h : ¬ cfgOk c) : (cfgE c == 0) = false := by unfold cfgE; rw [if_neg h]; rfl
set_option maxHeartbeats 3200000 in
theorem pcheck_any (c : Nat → Int) (w : World) : callE Tryz.prog 37 #[.agg (pcL c).toArray] w fun u w' => u = .int .i64 (pcE c) ∧ Below w.heap.size w w' := by
  have k1 := ext_alloc w (.cells (pcL c).toArray 31)
  have hX : Blk (w.alloc (.cells (pcL c).toArray 31)) w.heap.size 31 (pcL c).toArray := Blk.self_ rfl
  unfold pcL at *
  refine calls_E Tryz.func37 rfl rfl rfl (Nat.le_of_ble_eq_true rfl) ?_
  by_cases g1 : c 17 < 1
  · simp [go_sem, IntWalk.iteOmega, IntWalk.toNatUp, g1]
    exact ⟨by unfold pcE; rw [if_neg (by omega)], k1⟩
  by_cases g2 : 1024 < c 17
  · simp [go_sem, IntWalk.iteOmega, IntWalk.toNatUp, g1, g2]
    exact ⟨by unfold pcE; rw [if_neg (by omega)], k1⟩
  simp [go_sem, IntWalk.iteOmega, IntWalk.toNatUp, g1, g2]
  generalize w.alloc (.cells (#[.int .i64 (c 17), .int .i64 (c 18), .int .i64 (c 19), .int .i64 (c 20), .int .i64 (c 21), .int .i64 (c 22), .int .i64 (c 23), .int .i64 (c 24), .int .i64 (c 25), .int .i64 (c 26), .int .i64 (c 27)]) 31) = w1 at *
  refine callE_of (mcheck_any (c 18) (c 19) (c 20) (c 21) (c 22) w1) ?_
  rintro _ w2 ⟨rfl, k2⟩
  by_cases g3 : ruleOk (c 18) (c 19) (c 20) (c 21) (c 22)
  · rw [if_pos g3]
    have hX2 := hX.keep k2
    simp [go_sem, IntWalk.iteOmega, IntWalk.toNatUp, hX2.cell, hX2.lt]
    refine callE_of (bncheck_any (c 23) (c 24) (c 25) (c 26) (c 27) w2) ?_
    rintro _ w3 ⟨rfl, k3⟩
    simp [go_sem, IntWalk.iteOmega, IntWalk.toNatUp]
    have q : 1 ≤ c 17 ∧ c 17 ≤ 1024 := ⟨by omega, by omega⟩
    exact ⟨by unfold pcE; rw [if_pos q, if_pos g3], ext_trans k1 (ext_trans k2 k3)⟩
  · rw [if_neg g3]
    simp [go_sem, IntWalk.iteOmega, IntWalk.toNatUp]
    have q : 1 ≤ c 17 ∧ c 17 ≤ 1024 := ⟨by omega, by omega⟩
    exact ⟨by unfold pcE; rw [if_pos q, if_neg g3], ext_trans k1 k2⟩
set_option maxHeartbeats 3200000 in
theorem rpcheck_any (c : Nat → Int) (w : World) : callE Tryz.prog 41 #[.agg (pcL c).toArray] w fun u w' => u = .int .i64 (pcE c) ∧ Below w.heap.size w w' := by
  have k1 := ext_alloc w (.cells (pcL c).toArray 31)
  have hX : Blk (w.alloc (.cells (pcL c).toArray 31)) w.heap.size 31 (pcL c).toArray := Blk.self_ rfl
  unfold pcL at *
  refine calls_E Tryz.func41 rfl rfl rfl (Nat.le_of_ble_eq_true rfl) ?_
  by_cases g1 : c 17 < 1
  · simp [go_sem, IntWalk.iteOmega, IntWalk.toNatUp, g1]
    exact ⟨by unfold pcE; rw [if_neg (by omega)], k1⟩
  by_cases g2 : 1024 < c 17
  · simp [go_sem, IntWalk.iteOmega, IntWalk.toNatUp, g1, g2]
    exact ⟨by unfold pcE; rw [if_neg (by omega)], k1⟩
  simp [go_sem, IntWalk.iteOmega, IntWalk.toNatUp, g1, g2]
  generalize w.alloc (.cells (#[.int .i64 (c 17), .int .i64 (c 18), .int .i64 (c 19), .int .i64 (c 20), .int .i64 (c 21), .int .i64 (c 22), .int .i64 (c 23), .int .i64 (c 24), .int .i64 (c 25), .int .i64 (c 26), .int .i64 (c 27)]) 31) = w1 at *
  refine callE_of (rmcheck_any (c 18) (c 19) (c 20) (c 21) (c 22) w1) ?_
  rintro _ w2 ⟨rfl, k2⟩
  by_cases g3 : ruleOk (c 18) (c 19) (c 20) (c 21) (c 22)
  · rw [if_pos g3]
    have hX2 := hX.keep k2
    simp [go_sem, IntWalk.iteOmega, IntWalk.toNatUp, hX2.cell, hX2.lt]
    refine callE_of (rbncheck_any (c 23) (c 24) (c 25) (c 26) (c 27) w2) ?_
    rintro _ w3 ⟨rfl, k3⟩
    simp [go_sem, IntWalk.iteOmega, IntWalk.toNatUp]
    have q : 1 ≤ c 17 ∧ c 17 ≤ 1024 := ⟨by omega, by omega⟩
    exact ⟨by unfold pcE; rw [if_pos q, if_pos g3], ext_trans k1 (ext_trans k2 k3)⟩
  · rw [if_neg g3]
    simp [go_sem, IntWalk.iteOmega, IntWalk.toNatUp]
    have q : 1 ≤ c 17 ∧ c 17 ≤ 1024 := ⟨by omega, by omega⟩
    exact ⟨by unfold pcE; rw [if_pos q, if_neg g3], ext_trans k1 k2⟩
theorem within_runs (n a b : Int) (w : World) : Runs Tryz.prog 38 #[.int .i64 n, .int .i64 a, .int .i64 b] w (.bool (decide (inB a n b))) w := by
  refine runs_of_callE ?_
  refine calls_E Tryz.func38 rfl rfl rfl (Nat.le_of_ble_eq_true rfl) ?_
  unfold inB
  by_cases h1 : a ≤ n <;> by_cases h2 : n ≤ b <;> simp [go_sem, IntWalk.iteOmega, IntWalk.toNatUp, h1, h2]
theorem noinit_within : Tryz.prog.inits.idxOf? 38 = none := by kernel_rfl
theorem rwithin_runs (n a b : Int) (w : World) : Runs Tryz.prog 42 #[.int .i64 n, .int .i64 a, .int .i64 b] w (.bool (decide (inB a n b))) w := by
  refine runs_of_callE ?_
  refine calls_E Tryz.func42 rfl rfl rfl (Nat.le_of_ble_eq_true rfl) ?_
  unfold inB
  by_cases h1 : a ≤ n <;> by_cases h2 : n ≤ b <;> simp [go_sem, IntWalk.iteOmega, IntWalk.toNatUp, h1, h2]
theorem noinit_rwithin : Tryz.prog.inits.idxOf? 42 = none := by kernel_rfl
set_option maxHeartbeats 12800000 in
theorem ncheck_any (c : Nat → Int) (w : World) : callE Tryz.prog 12 #[.agg (cfL c).toArray] w fun u w' => u = .int .i64 (if confOk c then 0 else 240) ∧ Below w.heap.size w w' := by
  obtain ⟨E, hE⟩ : ∃ E : Int, (if confOk c then 0 else 240) = E := ⟨_, rfl⟩
  rw [hE]
  have k1 := ext_alloc w (.cells (cfL c).toArray 33)
  have hX : Blk (w.alloc (.cells (cfL c).toArray 33)) w.heap.size 33 (cfL c).toArray := Blk.self_ rfl
  have i1 := fun n a b w k => callE_eq noinit_within (within_runs n a b w) k
  have d1 := params_any (c 0) (c 1) (c 2) (c 3)
  have d2 := check_any (gcf c)
  have d3 := pcheck_any c
  unfold cfL at *
  unfold pcL at d3
  refine calls_E Tryz.func12 rfl rfl rfl (Nat.le_of_ble_eq_true rfl) ?_
  simp [go_sem, IntWalk.iteOmega, IntWalk.toNatUp]
  generalize w.alloc (.cells (#[.int .i64 (c 0), .int .i64 (c 1), .int .i64 (c 2), .int .i64 (c 3), .int .i64 (c 4), .int .i64 (c 5), .int .i64 (c 6), .int .i64 (c 7), .int .i64 (c 8), .int .i64 (c 9), .int .i64 (c 10), .int .i64 (c 11), .int .i64 (c 12), .int .i64 (c 13), .int .i64 (c 14), .int .i64 (c 15), .int .i64 (c 16), .int .i64 (c 17), .int .i64 (c 18), .int .i64 (c 19), .int .i64 (c 20), .int .i64 (c 21), .int .i64 (c 22), .int .i64 (c 23), .int .i64 (c 24), .int .i64 (c 25), .int .i64 (c 26), .int .i64 (c 27)]) 33) = w1 at *
  refine callE_of (d1 w1) ?_
  rintro _ w2 ⟨rfl, k2⟩
  have hX2 := hX.keep k2
  have kk2 := ext_trans k1 k2
  by_cases p1 : parOk (c 0) (c 1) (c 2) (c 3)
  rotate_left
  · have hE2 : E = 240 := by rw [← hE, if_neg (by unfold confOk; exact fun h => p1 h.1.1)]
    rw [if_neg p1]
    have x0 := hX2.cell
    have l0 := hX2.lt
    simp [go_sem, IntWalk.iteOmega, IntWalk.toNatUp, x0, l0, i1, hE2]
    try (repeat' (split <;> simp [go_sem, IntWalk.iteOmega, IntWalk.toNatUp, *]))
    all_goals exact kk2
  rw [if_pos p1]
  simp [go_sem, IntWalk.iteOmega, IntWalk.toNatUp, hX2.cell, hX2.lt]
  refine callE_of (d2 w2) ?_
  rintro _ w3 ⟨rfl, k3⟩
  have hX3 := hX2.keep k3
  have kk3 := ext_trans kk2 k3
  by_cases p2 : cfgOk (gcf c)
  rotate_left
  · have hE2 : E = 240 := by rw [← hE, if_neg (by unfold confOk; exact fun h => p2 h.1.2.1)]
    have hb := cfgE_bad p2
    have hb' : ¬ cfgE (gcf c) = 0 := by simpa using hb
    have hb2 : (cfgE (gcf c) != 0) = true := by simpa using hb'
    have x0 := hX3.cell
    have l0 := hX3.lt
    simp [go_sem, IntWalk.iteOmega, IntWalk.toNatUp, x0, l0, i1, hE2, hb, hb', hb2]
    try (repeat' (split <;> simp [go_sem, IntWalk.iteOmega, IntWalk.toNatUp, *]))
    all_goals exact kk3
  rw [cfgE_ok p2]
  simp [go_sem, IntWalk.iteOmega, IntWalk.toNatUp, hX3.cell, hX3.lt]
  refine callE_of (d3 w3) ?_
  rintro _ w4 ⟨rfl, k4⟩
  have hX4 := hX3.keep k4
  have kk4 := ext_trans kk3 k4
  by_cases p3 : pcOk c
  rotate_left
  · have hE2 : E = 240 := by rw [← hE, if_neg (by unfold confOk; exact fun h => p3 h.1.2.2)]
    have hb := pcE_bad p3
    have hb' : ¬ pcE c = 0 := by simpa using hb
    have hb2 : (pcE c != 0) = true := by simpa using hb'
    have x0 := hX4.cell
    have l0 := hX4.lt
    simp [go_sem, IntWalk.iteOmega, IntWalk.toNatUp, x0, l0, i1, hE2, hb, hb', hb2]
    try (repeat' (split <;> simp [go_sem, IntWalk.iteOmega, IntWalk.toNatUp, *]))
    all_goals exact kk4
  rw [pcE_ok p3]
  clear d1 d2 d3 hX hX2 hX3
  have x0 := hX4.cell
  have l0 := hX4.lt
  clear hX4
  simp [go_sem, IntWalk.iteOmega, IntWalk.toNatUp, x0, l0, i1]
  repeat' (split <;> simp [go_sem, IntWalk.iteOmega, IntWalk.toNatUp, *])
  all_goals (rw [← hE]; first | rw [if_neg (fun h => by unfold confOk at h; have h := h.2; unfold inB at *; omega)] | rw [if_pos (by unfold confOk; refine ⟨⟨p1, p2, p3⟩, ?_⟩; unfold inB at *; omega)])
set_option maxHeartbeats 12800000 in
theorem rncheck_any (c : Nat → Int) (w : World) : callE Tryz.prog 13 #[.agg (cfL c).toArray] w fun u w' => u = .int .i64 (if confOk c then 0 else 240) ∧ Below w.heap.size w w' := by
  obtain ⟨E, hE⟩ : ∃ E : Int, (if confOk c then 0 else 240) = E := ⟨_, rfl⟩
  rw [hE]
  have k1 := ext_alloc w (.cells (cfL c).toArray 33)
  have hX : Blk (w.alloc (.cells (cfL c).toArray 33)) w.heap.size 33 (cfL c).toArray := Blk.self_ rfl
  have i1 := fun n a b w k => callE_eq noinit_rwithin (rwithin_runs n a b w) k
  have d1 := rparams_any (c 0) (c 1) (c 2) (c 3)
  have d2 := rcheck_any (gcf c)
  have d3 := rpcheck_any c
  unfold cfL at *
  unfold pcL at d3
  refine calls_E Tryz.func13 rfl rfl rfl (Nat.le_of_ble_eq_true rfl) ?_
  simp [go_sem, IntWalk.iteOmega, IntWalk.toNatUp]
  generalize w.alloc (.cells (#[.int .i64 (c 0), .int .i64 (c 1), .int .i64 (c 2), .int .i64 (c 3), .int .i64 (c 4), .int .i64 (c 5), .int .i64 (c 6), .int .i64 (c 7), .int .i64 (c 8), .int .i64 (c 9), .int .i64 (c 10), .int .i64 (c 11), .int .i64 (c 12), .int .i64 (c 13), .int .i64 (c 14), .int .i64 (c 15), .int .i64 (c 16), .int .i64 (c 17), .int .i64 (c 18), .int .i64 (c 19), .int .i64 (c 20), .int .i64 (c 21), .int .i64 (c 22), .int .i64 (c 23), .int .i64 (c 24), .int .i64 (c 25), .int .i64 (c 26), .int .i64 (c 27)]) 33) = w1 at *
  refine callE_of (d1 w1) ?_
  rintro _ w2 ⟨rfl, k2⟩
  have hX2 := hX.keep k2
  have kk2 := ext_trans k1 k2
  by_cases p1 : parOk (c 0) (c 1) (c 2) (c 3)
  rotate_left
  · have hE2 : E = 240 := by rw [← hE, if_neg (by unfold confOk; exact fun h => p1 h.1.1)]
    rw [if_neg p1]
    have x0 := hX2.cell
    have l0 := hX2.lt
    simp [go_sem, IntWalk.iteOmega, IntWalk.toNatUp, x0, l0, i1, hE2]
    try (repeat' (split <;> simp [go_sem, IntWalk.iteOmega, IntWalk.toNatUp, *]))
    all_goals exact kk2
  rw [if_pos p1]
  simp [go_sem, IntWalk.iteOmega, IntWalk.toNatUp, hX2.cell, hX2.lt]
  refine callE_of (d2 w2) ?_
  rintro _ w3 ⟨rfl, k3⟩
  have hX3 := hX2.keep k3
  have kk3 := ext_trans kk2 k3
  by_cases p2 : cfgOk (gcf c)
  rotate_left
  · have hE2 : E = 240 := by rw [← hE, if_neg (by unfold confOk; exact fun h => p2 h.1.2.1)]
    have hb := cfgE_bad p2
    have hb' : ¬ cfgE (gcf c) = 0 := by simpa using hb
    have hb2 : (cfgE (gcf c) != 0) = true := by simpa using hb'
    have x0 := hX3.cell
    have l0 := hX3.lt
    simp [go_sem, IntWalk.iteOmega, IntWalk.toNatUp, x0, l0, i1, hE2, hb, hb', hb2]
    try (repeat' (split <;> simp [go_sem, IntWalk.iteOmega, IntWalk.toNatUp, *]))
    all_goals exact kk3
  rw [cfgE_ok p2]
  simp [go_sem, IntWalk.iteOmega, IntWalk.toNatUp, hX3.cell, hX3.lt]
  refine callE_of (d3 w3) ?_
  rintro _ w4 ⟨rfl, k4⟩
  have hX4 := hX3.keep k4
  have kk4 := ext_trans kk3 k4
  by_cases p3 : pcOk c
  rotate_left
  · have hE2 : E = 240 := by rw [← hE, if_neg (by unfold confOk; exact fun h => p3 h.1.2.2)]
    have hb := pcE_bad p3
    have hb' : ¬ pcE c = 0 := by simpa using hb
    have hb2 : (pcE c != 0) = true := by simpa using hb'
    have x0 := hX4.cell
    have l0 := hX4.lt
    simp [go_sem, IntWalk.iteOmega, IntWalk.toNatUp, x0, l0, i1, hE2, hb, hb', hb2]
    try (repeat' (split <;> simp [go_sem, IntWalk.iteOmega, IntWalk.toNatUp, *]))
    all_goals exact kk4
  rw [pcE_ok p3]
  clear d1 d2 d3 hX hX2 hX3
  have x0 := hX4.cell
  have l0 := hX4.lt
  clear hX4
  simp [go_sem, IntWalk.iteOmega, IntWalk.toNatUp, x0, l0, i1]
  repeat' (split <;> simp [go_sem, IntWalk.iteOmega, IntWalk.toNatUp, *])
  all_goals (rw [← hE]; first | rw [if_neg (fun h => by unfold confOk at h; have h := h.2; unfold inB at *; omega)] | rw [if_pos (by unfold confOk; refine ⟨⟨p1, p2, p3⟩, ?_⟩; unfold inB at *; omega)])
end Go.Proofs.YtmcbcoafodmbjaaGreatDoor
namespace Go.Proofs.YtmcbcoafodmbjaaGreatDoor
open Go.RowKit
set_option linter.unusedVariables false
set_option linter.unusedSimpArgs false
theorem width_pos (s : ByteArray) (i : Nat) : 1 ≤ (Utf8.decode s i).2 := by
  unfold Utf8.decode
  simp only
  repeat' split
  all_goals simp
def runesF (s : ByteArray) : Nat → Nat → List Int
  | 0, _ => []
  | f + 1, i => if i < s.size then ((Utf8.decode s i).1 : Int) :: runesF s f (i + (Utf8.decode s i).2) else []
def runesAt (s : ByteArray) (i : Nat) : List Int := runesF s s.size i
def runes (s : ByteArray) : List Int := runesAt s 0
theorem runesF_more (s : ByteArray) : ∀ (f g i : Nat), s.size ≤ f + i → s.size ≤ g + i → runesF s f i = runesF s g i
  | 0, 0, _, _, _ => rfl
  | 0, g + 1, i, h, _ => by simp [runesF]; omega
  | f + 1, 0, i, _, h => by simp [runesF]; omega
  | f + 1, g + 1, i, h1, h2 => by
    have := width_pos s i
    simp only [runesF]
    split
    · rw [runesF_more s f g _ (by omega) (by omega)]
    · rfl
theorem runesAt_next {s : ByteArray} {i : Nat} (h : i < s.size) : runesAt s i = ((Utf8.decode s i).1 : Int) :: runesAt s (i + (Utf8.decode s i).2) := by
  have hw := width_pos s i
  unfold runesAt
  obtain ⟨n, hn⟩ : ∃ n, s.size = n + 1 := ⟨s.size - 1, by omega⟩
  have : runesF s s.size i = runesF s (n + 1) i := by rw [hn]
  rw [this]
  simp only [runesF, h, if_true]
  rw [runesF_more s n s.size _ (by omega) (by omega)]
theorem runesAt_end {s : ByteArray} {i : Nat} (h : ¬ i < s.size) : runesAt s i = [] := by
  unfold runesAt
  cases s.size with
  | zero => rfl
  | succ n => simp [runesF, h]
def It (w : World) (r : Nat) (s : ByteArray) (i : Nat) : Prop := w.heap[r]? = some (.stringIter s i)
def itPut (w : World) (r : Nat) (o : Obj) : World := { w with heap := w.heap.setIfInBounds r o }
section
variable {P : Program} {w : World} {r : Nat} {s : ByteArray} {i : Nat}
theorem It.lt (h : It w r s i) : r < w.heap.size := (Array.getElem?_eq_some_iff.1 h).1
theorem It.keep {w' : World} (h : It w r s i) (hb : Below w.heap.size w w') : It w' r s i := (hb.block r h.lt).trans h
theorem It_made (w : World) (s : ByteArray) : It (w.alloc (.stringIter s 0)) w.heap.size s 0 := heap_alloc_new w _
theorem It.put (h : It w r s i) (j : Nat) : It (itPut w r (.stringIter s j)) r s j := by
  have := h.lt
  unfold It itPut
  simp [this]
theorem itPut_far (w : World) (r : Nat) (o : Obj) {k : Nat} (h : k ≠ r) : (itPut w r o).heap[k]? = w.heap[k]? := by
  simp [itPut, Array.getElem?_setIfInBounds_ne (Ne.symm h)]
@[go_sem] theorem itPut_size (w : World) (r : Nat) (o : Obj) : (itPut w r o).heap.size = w.heap.size := by simp [itPut]
theorem Below.itPut {B : Nat} {a w : World} (h : Below B a w) {r : Nat} (hr : B ≤ r) (o : Obj) : Below B a (itPut w r o) :=
  ⟨h.os, h.tape, h.output, by rw [itPut_size]; exact h.size, fun k hk => by rw [itPut_far _ _ _ (by omega)]; exact h.block k hk⟩
theorem run_range_str {t : TypeId} (ht : P.underlying t = some .string) (s : ByteArray) : (Instr.range t (.string s)).run P w = .ok (.pointer (some ⟨w.heap.size, 0, none⟩)) (w.alloc (.stringIter s 0)) := by
  simp [Instr.range, run_underlying ht, Result.andThen]
theorem run_next_str (h : It w r s i) (ty : TypeId) (hlt : i < s.size) :
    (Instr.next (.pointer (some ⟨r, 0, none⟩)) true ty).run P w = .ok (.tuple #[.bool true, goInt i, .int .i32 ((Utf8.decode s i).1 : Int)]) (itPut w r (.stringIter s (i + (Utf8.decode s i).2))) := by
  unfold It at h
  simp [Instr.next, getObj, setObj, Sem.run, h, hlt, Result.andThen, itPut]
theorem run_next_end (h : It w r s i) (ty : TypeId) (hlt : ¬ i < s.size) :
    (Instr.next (.pointer (some ⟨r, 0, none⟩)) true ty).run P w = .ok (.tuple #[.bool false]) w := by
  unfold It at h
  simp [Instr.next, getObj, Sem.run, h, hlt, Result.andThen]
end
end Go.Proofs.YtmcbcoafodmbjaaGreatDoor
