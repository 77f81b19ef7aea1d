/-
  Texts joined: NGet, NRNew.
-/
import Derived.Test.YtmcbcoafodmbjaaGreatDoorJoin35

/-
  What a node that has not begun tells.
-/
namespace Go.Proofs.YtmcbcoafodmbjaaGreatDoor
open Go.RowKit
set_option linter.unusedVariables false
set_option linter.unusedSimpArgs false
set_option maxRecDepth 10000
variable {w : World} {n : Nat} {c : Nat → Int} {l : List Vd} {b : Bk} {now : Int}
theorem NodeAt.cells (h : NodeAt w n c l b now) : n < w.heap.size ∧ w.cell? ⟨n, 33, none⟩ = some (.int .i64 1) ∧ w.cell? ⟨n, 32, none⟩ = some (.slice none 0 0) ∧ w.cell? ⟨n, 45, none⟩ = some (.slice none 0 0) ∧ ∃ i ch p g B, w.cell? ⟨n, 0, none⟩ = some (pt i) ∧ w.cell? ⟨n, 31, none⟩ = some (pt g) ∧ i < w.heap.size ∧ w.cell? ⟨i, 0, none⟩ = some (pt ch) ∧ w.cell? ⟨i, 1, none⟩ = some (pt p) ∧ ChainAt w ch b ∧ PeerAt w p c now ∧ GateIn w B g (GS.new (gcf c) (weights l)) := by
  obtain ⟨i, ch, p, lv, wv, g, ab, gt, B, h1, h2, h3, h4, h5⟩ := h
  exact ⟨h1.lt, (h1.cell 33).trans rfl, (h1.cell 32).trans rfl, (h1.cell 45).trans rfl, i, ch, p, g, B, (h1.cell 0).trans rfl, (h1.cell 31).trans rfl, h2.lt, (h2.cell 0).trans rfl, (h2.cell 1).trans rfl, h3, h4, h5⟩
theorem nnone_runs (h : NodeAt w n c l b now) : Runs Tryz.prog 57 #[pt n] w (.bool false) w := by
  obtain ⟨hn, -, -, -, i, ch, p, g, B, h0, -⟩ := h.cells
  refine runs_of_callE ?_
  refine calls_E Tryz.func57 rfl rfl rfl (Nat.le_of_ble_eq_true rfl) ?_
  simp [go_sem, IntWalk.iteOmega, IntWalk.toNatUp, hn, h0]
theorem noinit_nnone : Tryz.prog.inits.idxOf? 57 = none := by kernel_rfl
theorem nphase_any (h : NodeAt w n c l b now) : callE Tryz.prog 18 #[pt n] w fun v w' => v = .int .i64 1 ∧ w' = w := by
  have m := fun k => callE_eq noinit_nnone (nnone_runs h) k
  obtain ⟨hn, h33, -⟩ := h.cells
  refine calls_E Tryz.func18 rfl rfl rfl (Nat.le_of_ble_eq_true rfl) ?_
  simp [go_sem, IntWalk.iteOmega, IntWalk.toNatUp, m, hn, h33]
theorem nqueue_any (h : NodeAt w n c l b now) : callE Tryz.prog 47 #[pt n] w fun v w' => v = .int .i64 0 ∧ w' = w := by
  have m := fun k => callE_eq noinit_nnone (nnone_runs h) k
  obtain ⟨hn, h33, h32, -⟩ := h.cells
  refine calls_E Tryz.func47 rfl rfl rfl (Nat.le_of_ble_eq_true rfl) ?_
  simp [go_sem, IntWalk.iteOmega, IntWalk.toNatUp, m, hn, h32]
theorem npolls_any (h : NodeAt w n c l b now) : callE Tryz.prog 53 #[pt n] w fun v w' => v = .int .i64 0 ∧ w' = w := by
  have m := fun k => callE_eq noinit_nnone (nnone_runs h) k
  obtain ⟨hn, h33, -⟩ := h.cells
  refine calls_E Tryz.func53 rfl rfl rfl (Nat.le_of_ble_eq_true rfl) ?_
  simp [go_sem, IntWalk.iteOmega, IntWalk.toNatUp, m, hn, h33]
theorem nblocks_any (h : NodeAt w n c l b now) : callE Tryz.prog 54 #[pt n] w fun v w' => v = .int .i64 0 ∧ w' = w := by
  have m := fun k => callE_eq noinit_nnone (nnone_runs h) k
  obtain ⟨hn, h33, -⟩ := h.cells
  refine calls_E Tryz.func54 rfl rfl rfl (Nat.le_of_ble_eq_true rfl) ?_
  simp [go_sem, IntWalk.iteOmega, IntWalk.toNatUp, m, hn, h33]
theorem nheld_any (h : NodeAt w n c l b now) : callE Tryz.prog 51 #[pt n] w fun v w' => v = .tuple #[.int .i64 0, .int .i64 0] ∧ w' = w := by
  have m := fun k => callE_eq noinit_nnone (nnone_runs h) k
  obtain ⟨hn, h33, -⟩ := h.cells
  refine calls_E Tryz.func51 rfl rfl rfl (Nat.le_of_ble_eq_true rfl) ?_
  simp [go_sem, IntWalk.iteOmega, IntWalk.toNatUp, m, hn, h33]
theorem nnotes_any (h : NodeAt w n c l b now) : callE Tryz.prog 50 #[pt n] w fun v w' => v = .slice none 0 0 ∧ w' = w := by
  have m := fun k => callE_eq noinit_nnone (nnone_runs h) k
  obtain ⟨hn, h33, h32, h45, -⟩ := h.cells
  refine calls_E Tryz.func50 rfl rfl rfl (Nat.le_of_ble_eq_true rfl) ?_
  simp [go_sem, IntWalk.iteOmega, IntWalk.toNatUp, m, hn, h45]
  refine W_loop (fun st wr => st 3 = .slice none 0 0 ∧ st 12 = .int .i64 0 ∧ st 13 = .int .i64 0 ∧ wr = w) (fun _ _ => 0) ?_ ?_
  · exact ⟨by simp [go_sem], by simp [go_sem], by simp [go_sem], rfl⟩
  · rintro st _ ⟨e3, e12, e13, rfl⟩
    simp [go_sem, IntWalk.iteOmega, IntWalk.toNatUp, e3, e12, e13]
theorem rsamenotes_any (w : World) : callE Tryz.prog 49 #[.slice none 0 0, .slice none 0 0] w fun v w' => v = .bool true ∧ w' = w := by
  refine calls_E Tryz.func49 rfl rfl rfl (Nat.le_of_ble_eq_true rfl) ?_
  simp [go_sem, IntWalk.iteOmega, IntWalk.toNatUp]
  refine W_loop (fun st wr => st 0 = .slice none 0 0 ∧ st 5 = .int .i64 0 ∧ wr = w) (fun _ _ => 0) ?_ ?_
  · exact ⟨by simp [go_sem], by simp [go_sem], rfl⟩
  · rintro st _ ⟨e3, e12, rfl⟩
    simp [go_sem, IntWalk.iteOmega, IntWalk.toNatUp, e3, e12]
theorem PeerAt.cells {p : Nat} (h : PeerAt w p c now) : p < w.heap.size ∧ w.cell? ⟨p, 13, none⟩ = some (.int .i64 now) ∧ ∃ i a, w.cell? ⟨p, 0, none⟩ = some (pt i) ∧ i < w.heap.size ∧ w.cell? ⟨i, 0, none⟩ = some (pt a) ∧ ∃ mm, Blk w a 270 #[.int .i64 (c 17), .int .i64 0, .map (some mm), .int .i64 0, .int .i64 0, .int .i64 0] := by
  obtain ⟨i, a, h, own, m0, m1, seats, m, mm, h1, h2, h3⟩ := h
  exact ⟨h1.lt, (h1.cell 13).trans rfl, i, a, (h1.cell 0).trans rfl, h2.lt, (h2.cell 0).trans rfl, mm, h3⟩
theorem pnone_runs {p : Nat} (h : PeerAt w p c now) : Runs Tryz.prog 145 #[pt p] w (.bool false) w := by
  obtain ⟨hn, -, i, a, h0, -⟩ := h.cells
  refine runs_of_callE ?_
  refine calls_E Tryz.func145 rfl rfl rfl (Nat.le_of_ble_eq_true rfl) ?_
  simp [go_sem, IntWalk.iteOmega, IntWalk.toNatUp, hn, h0]
theorem noinit_pnone : Tryz.prog.inits.idxOf? 145 = none := by kernel_rfl
theorem pnow_any {p : Nat} (h : PeerAt w p c now) : callE Tryz.prog 99 #[pt p] w fun v w' => v = .int .i64 now ∧ w' = w := by
  have m := fun k => callE_eq noinit_pnone (pnone_runs h) k
  obtain ⟨hn, h13, -⟩ := h.cells
  refine calls_E Tryz.func99 rfl rfl rfl (Nat.le_of_ble_eq_true rfl) ?_
  simp [go_sem, IntWalk.iteOmega, IntWalk.toNatUp, m, hn, h13]
theorem nnow_any (h : NodeAt w n c l b now) : callE Tryz.prog 44 #[pt n] w fun v w' => v = .int .i64 now ∧ w' = w := by
  have m := fun k => callE_eq noinit_nnone (nnone_runs h) k
  obtain ⟨hn, -, -, -, i, ch, p, g, B, h0, -, hi, -, hp, -, hP, -⟩ := h.cells
  refine calls_E Tryz.func44 rfl rfl rfl (Nat.le_of_ble_eq_true rfl) ?_
  simp [go_sem, IntWalk.iteOmega, IntWalk.toNatUp, m, hn, h0, hi, hp]
  refine callE_of (pnow_any hP) ?_
  rintro _ _ ⟨rfl, rfl⟩
  simp [go_sem, IntWalk.iteOmega, IntWalk.toNatUp]
theorem ngate_any (h : NodeAt w n c l b now) (v : Int) : callE Tryz.prog 55 #[pt n, .int .i64 v] w fun u w' => u = .tuple #[zStat, .int .i64 (ofE l.length v)] ∧ Below w.heap.size w w' := by
  have kA := ext_alloc w (.cells #[.int .i64 0, .int .i64 0, .int .i64 0, .int .i64 0] 168)
  have hX : Blk (w.alloc (.cells #[.int .i64 0, .int .i64 0, .int .i64 0, .int .i64 0] 168)) w.heap.size 168 #[.int .i64 0, .int .i64 0, .int .i64 0, .int .i64 0] := Blk.self_ rfl
  have h1 := h.keep kA
  refine calls_E Tryz.func55 rfl rfl rfl (Nat.le_of_ble_eq_true rfl) ?_
  simp [go_sem, IntWalk.iteOmega, IntWalk.toNatUp]
  generalize w.alloc (.cells #[.int .i64 0, .int .i64 0, .int .i64 0, .int .i64 0] 168) = w1 at *
  have m := fun k => callE_eq noinit_nnone (nnone_runs h1) k
  obtain ⟨hn, -, -, -, i, ch, p, g, B, h0, h31, hi, -, -, -, -, hG⟩ := h1.cells
  simp [go_sem, IntWalk.iteOmega, IntWalk.toNatUp, m, hn, h31]
  refine callE_of (gof_new B g (gcf c) (weights l) w1 hG v) ?_
  rintro _ w2 ⟨rfl, k2⟩
  rw [wk_len]
  have x2 := hX.keep k2
  have x3 := Blk_setRow (cs' := #[.int .i64 0, .int .i64 0, .int .i64 0, .int .i64 0]) x2
  have hst := storeSeg_all x2 [.int .i64 0, .int .i64 0, .int .i64 0, .int .i64 0] rfl
  have hcw := canWrite_all x2 4 rfl
  have r3 := readCells_all x3 4 rfl
  simp [go_sem, IntWalk.iteOmega, IntWalk.toNatUp, zStat, hst, hcw, r3]
  exact below_setRow (kA.trans (k2.mono kA.size)) (Nat.le_refl _) _
theorem eql_asks {w : World} (r : Nat) : (binOp .eql 268 (.map (some r)) (.map none)).run Tryz.prog w = .ok (.bool false) w := by
  have hu : Tryz.prog.underlying 268 = some (.map 2 318) := by kernel_rfl
  unfold binOp Op.equal
  rw [show Op.maxDepth = 9999 + 1 from rfl]
  unfold Op.equalIn
  simp [run_underlying hu, Result.andThen]
theorem asnone_runs {a mm : Nat} {x : Int} (h : Blk w a 270 #[.int .i64 x, .int .i64 0, .map (some mm), .int .i64 0, .int .i64 0, .int .i64 0]) : Runs Tryz.prog 208 #[pt a] w (.bool false) w := by
  have hc := h.cell
  have hl := h.lt
  refine runs_of_callE ?_
  refine calls_E Tryz.func208 rfl rfl rfl (Nat.le_of_ble_eq_true rfl) ?_
  simp [go_sem, IntWalk.iteOmega, IntWalk.toNatUp, hc, hl, eql_asks]
theorem noinit_asnone : Tryz.prog.inits.idxOf? 208 = none := by kernel_rfl
def zAsk : Value := .agg #[.int .i64 0, .int .i64 0, .int .i64 0]
theorem asstat_any {a mm : Nat} {x : Int} (h : Blk w a 270 #[.int .i64 x, .int .i64 0, .map (some mm), .int .i64 0, .int .i64 0, .int .i64 0]) : callE Tryz.prog 151 #[pt a] w fun v w' => v = zAsk ∧ Below w.heap.size w w' := by
  have kA := ext_alloc w (.cells #[.int .i64 0, .int .i64 0, .int .i64 0] 146)
  have hX : Blk (w.alloc (.cells #[.int .i64 0, .int .i64 0, .int .i64 0] 146)) w.heap.size 146 #[.int .i64 0, .int .i64 0, .int .i64 0] := Blk.self_ rfl
  have h1 := h.keep kA
  refine calls_E Tryz.func151 rfl rfl rfl (Nat.le_of_ble_eq_true rfl) ?_
  simp [go_sem, IntWalk.iteOmega, IntWalk.toNatUp]
  generalize w.alloc (.cells #[.int .i64 0, .int .i64 0, .int .i64 0] 146) = w1 at *
  have m := fun k => callE_eq noinit_asnone (asnone_runs h1) k
  have hc := h1.cell
  have hl := h1.lt
  have x3 := Blk_setRow (cs' := #[.int .i64 0, .int .i64 0, .int .i64 0]) hX
  have hst := storeSeg_all hX [.int .i64 0, .int .i64 0, .int .i64 0] rfl
  have hcw := canWrite_all hX 3 rfl
  have r3 := readCells_all x3 3 rfl
  simp [go_sem, IntWalk.iteOmega, IntWalk.toNatUp, m, hc, hl, hst, hcw, r3]
  exact ⟨rfl, below_setRow kA (Nat.le_refl _) _⟩
theorem pstat_any {p : Nat} (h : PeerAt w p c now) : callE Tryz.prog 104 #[pt p] w fun v w' => v = zAsk ∧ Below w.heap.size w w' := by
  have kA := ext_alloc w (.cells #[.int .i64 0, .int .i64 0, .int .i64 0] 146)
  have hX : Blk (w.alloc (.cells #[.int .i64 0, .int .i64 0, .int .i64 0] 146)) w.heap.size 146 #[.int .i64 0, .int .i64 0, .int .i64 0] := Blk.self_ rfl
  have h1 := h.keep kA
  refine calls_E Tryz.func104 rfl rfl rfl (Nat.le_of_ble_eq_true rfl) ?_
  simp [go_sem, IntWalk.iteOmega, IntWalk.toNatUp]
  generalize w.alloc (.cells #[.int .i64 0, .int .i64 0, .int .i64 0] 146) = w1 at *
  have m := fun k => callE_eq noinit_pnone (pnone_runs h1) k
  obtain ⟨hn, -, i, a, h0, hi, ha, mm, hA⟩ := h1.cells
  simp [go_sem, IntWalk.iteOmega, IntWalk.toNatUp, m, hn, h0, hi, ha]
  refine callE_of (asstat_any hA) ?_
  rintro _ w2 ⟨rfl, k2⟩
  have x2 := hX.keep k2
  have x3 := Blk_setRow (cs' := #[.int .i64 0, .int .i64 0, .int .i64 0]) x2
  have hst := storeSeg_all x2 [.int .i64 0, .int .i64 0, .int .i64 0] rfl
  have hcw := canWrite_all x2 3 rfl
  have r3 := readCells_all x3 3 rfl
  simp [go_sem, IntWalk.iteOmega, IntWalk.toNatUp, zAsk, hst, hcw, r3]
  exact below_setRow (kA.trans (k2.mono kA.size)) (Nat.le_refl _) _
theorem nasks_any (h : NodeAt w n c l b now) : callE Tryz.prog 48 #[pt n] w fun v w' => v = zAsk ∧ Below w.heap.size w w' := by
  have kA := ext_alloc w (.cells #[.int .i64 0, .int .i64 0, .int .i64 0] 146)
  have hX : Blk (w.alloc (.cells #[.int .i64 0, .int .i64 0, .int .i64 0] 146)) w.heap.size 146 #[.int .i64 0, .int .i64 0, .int .i64 0] := Blk.self_ rfl
  have h1 := h.keep kA
  refine calls_E Tryz.func48 rfl rfl rfl (Nat.le_of_ble_eq_true rfl) ?_
  simp [go_sem, IntWalk.iteOmega, IntWalk.toNatUp]
  generalize w.alloc (.cells #[.int .i64 0, .int .i64 0, .int .i64 0] 146) = w1 at *
  have m := fun k => callE_eq noinit_nnone (nnone_runs h1) k
  obtain ⟨hn, -, -, -, i, ch, p, g, B, h0, -, hi, -, hp, -, hP, -⟩ := h1.cells
  simp [go_sem, IntWalk.iteOmega, IntWalk.toNatUp, m, hn, h0, hi, hp]
  refine callE_of (pstat_any hP) ?_
  rintro _ w2 ⟨rfl, k2⟩
  have x2 := hX.keep k2
  have x3 := Blk_setRow (cs' := #[.int .i64 0, .int .i64 0, .int .i64 0]) x2
  have hst := storeSeg_all x2 [.int .i64 0, .int .i64 0, .int .i64 0] rfl
  have hcw := canWrite_all x2 3 rfl
  have r3 := readCells_all x3 3 rfl
  simp [go_sem, IntWalk.iteOmega, IntWalk.toNatUp, zAsk, hst, hcw, r3]
  exact below_setRow (kA.trans (k2.mono kA.size)) (Nat.le_refl _) _
def zIdA : Array Value := #[.int .u8 0, .int .u8 0, .int .u8 0, .int .u8 0, .int .u8 0, .int .u8 0, .int .u8 0, .int .u8 0, .int .u8 0, .int .u8 0, .int .u8 0, .int .u8 0, .int .u8 0, .int .u8 0, .int .u8 0, .int .u8 0, .int .u8 0, .int .u8 0, .int .u8 0, .int .u8 0, .int .u8 0, .int .u8 0, .int .u8 0, .int .u8 0, .int .u8 0, .int .u8 0, .int .u8 0, .int .u8 0, .int .u8 0, .int .u8 0, .int .u8 0, .int .u8 0]
theorem nlast_any (h : NodeAt w n c l b now) (hok : BkOk b) : callE Tryz.prog 19 #[pt n] w fun v w' => v = .tuple #[.agg (bl (idB b).1).toArray, .int .i64 b.height] ∧ Below w.heap.size w w' := by
  have hls : (bl (idB b).1).length = 32 := by simp [bl, idB_len b]
  have ho1 := bl_one (idB b).1
  have kA := ext_alloc w (.cells zIdA 36)
  have hX : Blk (w.alloc (.cells zIdA 36)) w.heap.size 36 zIdA := Blk.self_ rfl
  have h1 := h.keep kA
  unfold zIdA at kA hX h1
  refine calls_E Tryz.func19 rfl rfl rfl (Nat.le_of_ble_eq_true rfl) ?_
  simp [go_sem, IntWalk.iteOmega, IntWalk.toNatUp]
  generalize w.alloc (.cells #[.int .u8 0, .int .u8 0, .int .u8 0, .int .u8 0, .int .u8 0, .int .u8 0, .int .u8 0, .int .u8 0, .int .u8 0, .int .u8 0, .int .u8 0, .int .u8 0, .int .u8 0, .int .u8 0, .int .u8 0, .int .u8 0, .int .u8 0, .int .u8 0, .int .u8 0, .int .u8 0, .int .u8 0, .int .u8 0, .int .u8 0, .int .u8 0, .int .u8 0, .int .u8 0, .int .u8 0, .int .u8 0, .int .u8 0, .int .u8 0, .int .u8 0, .int .u8 0] 36) = w1 at *
  have m := fun k => callE_eq noinit_nnone (nnone_runs h1) k
  obtain ⟨hn, -, -, -, i, ch, p, g, B, h0, -, hi, hc, -, hC, -⟩ := h1.cells
  simp [go_sem, IntWalk.iteOmega, IntWalk.toNatUp, m, hn, h0, hi, hc]
  refine callE_of (chlast_any hC hok) ?_
  rintro _ w2 ⟨rfl, k2⟩
  have x2 := hX.keep k2
  have x3 := Blk_setRow (cs' := (bl (idB b).1).toArray) x2
  have hst := storeSeg_all x2 (bl (idB b).1) (by rw [hls]; rfl)
  have hcw := canWrite_all x2 32 rfl
  have r3 := readCells_all x3 32 (by simpa using hls)
  simp [go_sem, IntWalk.iteOmega, IntWalk.toNatUp, hst, hcw, r3, hls, ho1]
  exact below_setRow (kA.trans (k2.mono kA.size)) (Nat.le_refl _) _
end Go.Proofs.YtmcbcoafodmbjaaGreatDoor

/-
  A node at first: the document's.
-/
namespace Go.Proofs.YtmcbcoafodmbjaaGreatDoor
open Go.RowKit
set_option linter.unusedVariables false
set_option linter.unusedSimpArgs false
set_option maxRecDepth 10000
set_option maxHeartbeats 1600000 in
theorem rweights_any (l : List Vd) (hl : l.length ≤ 32) {A : Option Addr} {cap : Nat} (w : World) (hrd : Rd w 2 A l.length (vdrs l)) :
    callE Tryz.prog 34 #[.slice A l.length cap] w fun v w' => w'.ownsRow w.heap.size 2 1 v l.length (ints .i64 (weights l)) ∧ Below w.heap.size w w' := by
  refine calls_E Tryz.func34 rfl rfl rfl (Nat.le_of_ble_eq_true rfl) ?_
  simp [go_sem, IntWalk.iteOmega, IntWalk.toNatUp]
  refine W_loop (fun st wr => ∃ (j : Nat) (sv : Value), j ≤ l.length ∧ st 0 = .slice A l.length cap ∧ st 3 = sv ∧ st 4 = .int .i64 j ∧ wr.ownsRow w.heap.size 2 1 sv j (ints .i64 ((weights l).take j)) ∧ Below w.heap.size w wr) (fun st _ => l.length - (intOf (st 4)).toNat) ?_ ?_
  · exact ⟨0, .slice none 0 0, by omega, by simp [go_sem], by simp [go_sem], by simp [go_sem], World.ownsRow_nil _ _ _ _, Below.refl _ _⟩
  · rintro st wr ⟨j, sv, hj, g0, g3, g4, hown, hbw⟩
    by_cases hlt : j < l.length
    · obtain ⟨bk, o, rfl, hb, hcl⟩ := hrd.cells (by omega)
      have x1 := hcl _ _ (vdrs_at l j hlt).2
      rw [← hbw.cell hb] at x1
      rw [← Nat.add_assoc] at x1
      have hlt' : (j : Int) < l.length := by omega
      have htk : (weights l).take (j + 1) = (weights l).take j ++ [l[j].weight] := by rw [List.take_add_one]; simp [weights, hlt]
      generalize l[j] = x at *
      simp [go_sem, IntWalk.iteOmega, IntWalk.toNatUp, g0, g3, g4, hlt, hlt', x1]
      have kN := ext_alloc wr (.cells #[.int .i64 x.weight] 2)
      have hNew : Blk (wr.alloc (.cells #[.int .i64 x.weight] 2)) wr.heap.size 2 #[.int .i64 x.weight] := Blk.self_ rfl
      have hown10 := own_far hown fun k cs hk => kN.block _ (Blk.lt (t := 2) hk)
      have kk10 := hbw.alloc hbw.size (.cells #[.int .i64 x.weight] 2)
      have hRd : Rd (wr.alloc (.cells #[.int .i64 x.weight] 2)) 1 (some ⟨wr.heap.size, 0, none⟩) 1 [.int .i64 x.weight] := ⟨by simp, fun _ => ⟨_, 0, rfl, hNew.lt, fun j u hu => by rw [hNew.cell]; simpa using hu⟩⟩
      refine appendE w.heap.size 2 1 8 Tryz.underlying94 el2 hown10 hRd rfl (by unfold maxLen; omega) (by omega) kk10.size ?_
      intro v' w11 hown11 hgr hor
      simp [go_sem, IntWalk.iteOmega, IntWalk.toNatUp, g0, g4]
      refine roundEnd.mk ⟨j + 1, v', by omega, by simp [go_sem, g0], by simp [go_sem], by simp [go_sem], ?_, kk10.grown hgr kk10.size fun k hk => (hown10.lt k hk).1⟩ ?_
      · rw [htk]; simpa [ints] using hown11
      · simp [go_sem, intOf]; omega
    · obtain rfl : j = l.length := by omega
      have htk : (weights l).take l.length = weights l := List.take_of_length_le (by rw [wk_len]; omega)
      rw [htk] at hown
      simp [go_sem, IntWalk.iteOmega, IntWalk.toNatUp, g0, g3, g4]
      exact ⟨hown, hbw⟩
def rnodeL (c : Nat → Int) (lv cv gv pv : Value) : List Value := cfL c ++ [lv, cv, gv, pv, .slice none 0 0, .int .i64 1, .int .i64 0, .slice none 0 0, .slice none 0 0, .slice none 0 0, .pointer none, .pointer none, .pointer none, .pointer none, .int .i64 0, .slice none 0 0, .slice none 0 0, .slice none 0 0, .slice none 0 0, .slice none 0 0, .slice none 0 0, .int .i64 0]
def RNodeAt (w : World) (n : Nat) (c : Nat → Int) (l : List Vd) (b : Bk) (now : Int) : Prop := ∃ ch p A cp g, Blk w n 127 (rnodeL c (.slice A l.length cp) (pt ch) (pt g) (pt p)).toArray ∧ RChainAt w ch b ∧ RPeerAt w p c now ∧ RGateNew w g l.length
theorem RNodeAt.keep {w w' : World} {n : Nat} {c : Nat → Int} {l : List Vd} {b : Bk} {now : Int} (h : RNodeAt w n c l b now) (hb : Below w.heap.size w w') : RNodeAt w' n c l b now := by
  obtain ⟨ch, p, A, cp, g, h1, h2, h3, h4⟩ := h
  exact ⟨ch, p, A, cp, g, h1.keep hb, h2.keep hb, h3.keep hb, h4.keep hb⟩
def RNewPost (c : Nat → Int) (l : List Vd) (me : Int) (off : Bool) (b : Bk) (now : Int) (v : Value) (w' : World) : Prop := if newE c l me (some off) b now = 0 then ∃ n, v = .tuple #[pt n, .int .i64 0] ∧ RNodeAt w' n c l b now else v = .tuple #[.pointer none, .int .i64 (newE c l me (some off) b now)]
theorem rnewPost_bad {c : Nat → Int} {l : List Vd} {me : Int} {off : Bool} {b : Bk} {now E : Int} (w' : World) (h : newE c l me (some off) b now = E) (hE : E ≠ 0) : RNewPost c l me off b now (.tuple #[.pointer none, .int .i64 E]) w' := by
  unfold RNewPost
  rw [h, if_neg hE]
def RNCells (c : Nat → Int) (n ch p : Nat) : Vow := fun v _ => ∃ A cp, v = .agg (rnodeL c (.slice A n cp) (pt ch) (.pointer none) (pt p)).toArray
def RNBox (c : Nat → Int) (n ch p B : Nat) : Vow := fun v w => ∃ A cp r, v = pt r ∧ B ≤ r ∧ Blk w r 127 (rnodeL c (.slice A n cp) (pt ch) (.pointer none) (pt p)).toArray
theorem firm_rncells (c : Nat → Int) (n ch p : Nat) : (RNCells c n ch p).Firm := ⟨fun h _ => h⟩
theorem firm_rnbox (c : Nat → Int) (n ch p B : Nat) : (RNBox c n ch p B).Firm := ⟨fun ⟨A, cp, r, h1, h0, h2⟩ hb => ⟨A, cp, r, h1, h0, h2.keep hb⟩⟩
set_option maxHeartbeats 3200000 in
theorem rnodebuild {ty : TypeId} {pos : String} {after : Array Edge} {s : Slots} {w : World} {c : Nat → Int} {n cp ch p : Nat} {A : Option Addr} (h1 : s 64 = .agg (cfL c).toArray) (h2 : s 66 = .slice A n cp) (h3 : s 67 = pt ch) (h4 : s 68 = pt p) :
    opR Tryz.prog ⟨some 69, .build 127 #[(0, .tmp 64), (1, .tmp 66), (2, .tmp 67), (4, .tmp 68), (6, .const (.int .i64 1))], ty, pos, after, none⟩ s w = .ok (.value (.agg (rnodeL c (.slice A n cp) (pt ch) (.pointer none) (pt p)).toArray)) w := by
  unfold cfL at h1
  simp [go_sem, h1, h2, h3, h4]
  rfl
set_option maxHeartbeats 3200000 in
theorem rnodenew_any (c : Nat → Int) (l : List Vd) (vl : Value) (me : Int) (t : Nat) (off : Bool) (b : Bk) (A : Option Addr) (n k : Nat) (now : Int) (w : World) (hs : Sl w 2 vl l.length (vdrs l)) (hN : ∀ x ∈ l, x.name.size ≤ 9223372036854775807) (hW : ∀ x ∈ l, -9223372036854775808 ≤ x.weight ∧ x.weight ≤ 9223372036854775807)
    (ht : RTapeIn w t off) (hok : BkOk b) (hd : RdB w (.slice A n k) b.data) (hl : b.data.length ≤ 100000) :
    callE Tryz.prog 11 #[.agg (cfL c).toArray, vl, .int .i64 me, pt t, .agg (bkv b (.slice A n k)).toArray, .int .i64 now] w fun v w' => RNewPost c l me off b now v w' ∧ Below w.heap.size w w' := by
  have hlen : (bkv b (.slice A n k)).length = 34 := bkv_len hok.len
  have k1 := (ext_alloc w (.cells (cfL c).toArray 33))
  have k2 := k1.alloc k1.size (.cells (bkv b (.slice A n k)).toArray 39)
  have hX : Blk ((w.alloc (.cells (cfL c).toArray 33)).alloc (.cells (bkv b (.slice A n k)).toArray 39)) w.heap.size 33 (cfL c).toArray := (Blk.self_ rfl).more _
  have hB : Blk ((w.alloc (.cells (cfL c).toArray 33)).alloc (.cells (bkv b (.slice A n k)).toArray 39)) (w.heap.size + 1) 39 (bkv b (.slice A n k)).toArray := Blk.self_ (by simp)
  obtain ⟨CC, hCC⟩ : ∃ CC, (cfL c).toArray = CC := ⟨_, rfl⟩
  have hCs : CC.size = 28 := by rw [← hCC]; rfl
  have d1 := rncheck_any c
  rw [hCC] at hX hB k1 k2 d1 ⊢
  refine calls_E Tryz.func11 rfl rfl rfl (Nat.le_of_ble_eq_true rfl) ?_
  simp [go_sem, IntWalk.iteOmega, IntWalk.toNatUp]
  generalize (w.alloc (.cells CC 33)).alloc (.cells (bkv b (.slice A n k)).toArray 39) = w1 at *
  have r1 := readCells_all hX 28 hCs
  simp [go_sem, IntWalk.iteOmega, IntWalk.toNatUp, r1, hX.lt]
  refine callE_of (d1 w1) ?_
  rintro _ w2 ⟨rfl, k3⟩
  have kk := k2.trans (k3.mono k2.size)
  have hX2 := hX.keep k3
  have hB2 := hB.keep k3
  by_cases hc : confOk c
  rotate_left
  · rw [if_neg hc]
    simp [go_sem, IntWalk.iteOmega, IntWalk.toNatUp]
    exact ⟨rnewPost_bad _ (by unfold newE; rw [if_pos hc]) (by omega), kk⟩
  rw [if_pos hc]
  simp [go_sem, IntWalk.iteOmega, IntWalk.toNatUp]
  refine callE_of (rvcheck_any l vl w2 (Sl_on hs kk) hN hW) ?_
  rintro _ w3 ⟨rfl, k4⟩
  have kk3 := kk.trans (k4.mono kk.size)
  have hX3 := hX2.keep k4
  have hB3 := hB2.keep k4
  have hnn : ¬ ¬ confOk c := fun h => h hc
  by_cases hv : checkV l = 0
  rotate_left
  · have e1 : (checkV l != 0) = true := by simpa using hv
    simp [go_sem, IntWalk.iteOmega, IntWalk.toNatUp, e1, hv]
    exact ⟨rnewPost_bad _ (by unfold newE; rw [if_neg hnn, if_pos hv]) hv, kk3⟩
  have hvn : ¬ checkV l ≠ 0 := fun h => h hv
  obtain ⟨hl1, hl2⟩ := check_len hv
  obtain ⟨A0, cap, rfl, hrd, hA0, hcap⟩ := id hs
  rw [hv]
  by_cases m1 : me < 0
  · simp [go_sem, IntWalk.iteOmega, IntWalk.toNatUp, m1]
    exact ⟨rnewPost_bad _ (by unfold newE; rw [if_neg hnn, if_neg hvn, if_pos (.inl m1)]) (by omega), kk3⟩
  by_cases m2 : (l.length : Int) ≤ me
  · simp [go_sem, IntWalk.iteOmega, IntWalk.toNatUp, m1, m2]
    exact ⟨rnewPost_bad _ (by unfold newE; rw [if_neg hnn, if_neg hvn, if_pos (.inr m2)]) (by omega), kk3⟩
  have mn : ¬ (me < 0 ∨ (l.length : Int) ≤ me) := by omega
  simp [go_sem, IntWalk.iteOmega, IntWalk.toNatUp, m1, m2]
  have tt : vdrs l = vdrs l := rfl
  refine W_rely [isV (.slice A0 l.length cap), isV (.int .i64 (totalV l)), isV (pt w.heap.size), isV (pt w.heap.size), isV (.int .i64 (c 0)), isV (.bool (decide (totalV l < c 0)))] follows (by kernel_rfl) ?_ ?_ ?_
  · intro f hf
    simp only [List.mem_cons, List.not_mem_nil, or_false] at hf
    rcases hf with rfl | rfl | rfl | rfl | rfl | rfl
    all_goals exact firm_is _
  · have b0 := hX3.drew
    refine ⟨?_, ?_, ?_, ?_, ?_, ?_, trivial⟩ <;> intro _ s' w' hb hd ho
    all_goals
      have e1 := ho 1 rfl
      have e6 := ho 6 rfl
      clear ho
      simp [go_sem] at e1 e6
      simp [relyDeps, Region.binds, vowOf, vowAt, isV] at hd
      dsimp only
    · simp [go_sem, IntWalk.iteOmega, IntWalk.toNatUp, e1, isV]
      exact Below.refl _ _
    · simp [go_sem, IntWalk.iteOmega, IntWalk.toNatUp, hd]
      refine callE_of (rtotal_any l _ w' (Sl_on hs (kk3.drew.trans (hb.mono kk3.drew.size))) hN hW) ?_
      rintro _ w9 ⟨rfl, k9⟩
      simp [go_sem, IntWalk.iteOmega, IntWalk.toNatUp, isV]
      exact k9
    · simp [go_sem, IntWalk.iteOmega, IntWalk.toNatUp, e6, isV]
      exact Below.refl _ _
    · simp [go_sem, IntWalk.iteOmega, IntWalk.toNatUp, hd, isV]
      exact Below.refl _ _
    · have x0 := (b0.keep hb).cell
      rw [← hCC] at x0
      have y0 : (cfL c)[0]? = some (.int .i64 (c 0)) := rfl
      simp [go_sem, IntWalk.iteOmega, IntWalk.toNatUp, hd, isV, x0, y0]
      exact Below.refl _ _
    · simp [go_sem, IntWalk.iteOmega, IntWalk.toNatUp, hd, isV]
      exact Below.refl _ _
  · intro s4 w4 hb4 hq ho
    simp [relyQ, vowAt, isV] at hq
    have kk4 := kk3.drew.trans (hb4.mono kk3.drew.size)
    have hX4 := hX3.drew.keep hb4
    have hB4 := hB3.drew.keep hb4
    have hq := hq.2.2.2.2.2
    have e1 := ho 1 rfl
    have e3 := ho 3 rfl
    have e5 := ho 5 rfl
    have e6 := ho 6 rfl
    have e10 := ho 10 rfl
    clear ho
    simp [go_sem] at e1 e3 e5 e6 e10
    by_cases hK : totalV l < c 0
    · simp [go_sem, IntWalk.iteOmega, IntWalk.toNatUp, hq, hK]
      exact ⟨rnewPost_bad _ (by unfold newE; rw [if_neg hnn, if_neg hvn, if_neg mn, if_pos hK]) (by omega), kk4⟩
    have hX4' := hX4.cell
    rw [← hCC] at hX4'
    have y17 : ∀ i, i < 11 → (cfL c)[17 + i]? = (pcL c)[i]? := fun i hi => by
      match i, hi with
      | 0, _ | 1, _ | 2, _ | 3, _ | 4, _ | 5, _ | 6, _ | 7, _ | 8, _ | 9, _ | 10, _ => rfl
    have r17 : readCells w4 ⟨w.heap.size, 17, none⟩ 0 11 = some (pcL c) := readCells_blk hX4 11 17 0 (pcL c) rfl fun j v hj => by
      rw [← hCC]
      have : j < 11 := (List.getElem?_eq_some_iff.1 hj).1
      simpa using (y17 j this).trans hj
    have l4 := hX4.lt
    simp [go_sem, IntWalk.iteOmega, IntWalk.toNatUp, hq, hK, e1, e5, e6, r17, l4]
    refine callE_of (rpeernew_any c hc.1.2.2 l _ now w4 (Sl_on hs kk4) hN hW hv ⟨hl1, hl2⟩) ?_
    rintro v5 w5 ⟨hP, k5⟩
    have kk5 := kk4.trans (k5.mono kk4.size)
    unfold RPeerPost at hP
    by_cases hw : 0 ≤ now ∧ now ≤ 4611686018427387903
    rotate_left
    · rw [if_neg hw] at hP
      subst hP
      simp [go_sem, IntWalk.iteOmega, IntWalk.toNatUp, e6]
      exact ⟨rnewPost_bad _ (by unfold newE; rw [if_neg hnn, if_neg hvn, if_neg mn, if_neg hK, if_pos hw]) (by omega), kk5⟩
    rw [if_pos hw] at hP
    obtain ⟨p, rfl, hP⟩ := hP
    have hX5 := hX4.keep k5
    have hB5 := hB4.keep k5
    have rB := readCells_all hB5 34 (by simpa using hlen)
    have lB := hB5.lt
    simp [go_sem, IntWalk.iteOmega, IntWalk.toNatUp, e3, e10, rB, lB]
    refine callE_of (rchopen_any (Blk.keep ht kk5) hok (hd.keep kk5) hl) ?_
    rintro v6 w6 ⟨hO, k6⟩
    have kk6 := kk5.trans (k6.mono kk5.size)
    have hX6 := hX5.keep k6
    have hP6 := hP.keep k6
    unfold ROpenPost at hO
    by_cases hop : openE (some off) b = 0
    rotate_left
    · rw [if_neg hop] at hO
      subst hO
      have hop' : (openE (some off) b != 0) = true := by simpa using hop
      simp [go_sem, IntWalk.iteOmega, IntWalk.toNatUp, hop']
      exact ⟨rnewPost_bad _ (by unfold newE; rw [if_neg hnn, if_neg hvn, if_neg mn, if_neg hK, if_neg (by simpa using hw)]) hop, kk6⟩
    rw [if_pos hop] at hO
    obtain ⟨ch, rfl, hO⟩ := hO
    simp [go_sem, IntWalk.iteOmega, IntWalk.toNatUp]
    clear rB lB r17 y17 hq hX4' d1
    refine W_rely [isV (.agg (cfL c).toArray), isV (.slice A0 l.length cap), aSl l.length, isV (pt ch), isV (pt p), RNCells c l.length ch p, RNBox c l.length ch p w6.heap.size, RNBox c l.length ch p w6.heap.size] follows (by kernel_rfl) ?_ ?_ ?_
    · intro f hf
      simp only [List.mem_cons, List.not_mem_nil, or_false] at hf
      rcases hf with rfl | rfl | rfl | rfl | rfl | rfl | rfl | rfl
      all_goals first | exact firm_is _ | exact firm_sl _ | exact firm_rncells _ _ _ _ | exact firm_rnbox _ _ _ _ _
    · have b0 := hX6.drew
      refine ⟨?_, ?_, ?_, ?_, ?_, ?_, ?_, ?_, trivial⟩ <;> intro _ s' w' hb hd ho
      all_goals
        have f1 := ho 1 rfl
        have f6 := ho 6 rfl
        have f16 := ho 16 rfl
        have f18 := ho 18 rfl
        clear ho
        simp [go_sem, e1, e6] at f1 f6 f16 f18
        simp [relyDeps, Region.binds, vowOf, vowAt] at hd
        dsimp only
      · have x0 := b0.keep hb
        have r0 := readCells_all x0 28 hCs
        have l0 := x0.lt
        simp [go_sem, IntWalk.iteOmega, IntWalk.toNatUp, f6, r0, l0, isV, hCC]
        exact Below.refl _ _
      · simp [go_sem, IntWalk.iteOmega, IntWalk.toNatUp, f1, isV]
        exact Below.refl _ _
      · simp only [isV] at hd
        simp [go_sem, IntWalk.iteOmega, IntWalk.toNatUp, hd]
        refine apvdr l hl2 (hrd.keep kk6.drew) hb ?_
        intro A' c' w2 k hr
        exact ⟨k, A', c', rfl⟩
      · simp [go_sem, IntWalk.iteOmega, IntWalk.toNatUp, f18, isV]
        exact Below.refl _ _
      · simp [go_sem, IntWalk.iteOmega, IntWalk.toNatUp, f16, isV]
        exact Below.refl _ _
      · obtain ⟨q1, ⟨A', cp, q2⟩, q3, q4⟩ := hd
        simp only [isV] at q1 q3 q4
        rw [rnodebuild q1 q2 q3 q4]
        exact ⟨Below.refl _ _, A', cp, rfl⟩
      · obtain ⟨A', cp, q1⟩ := hd
        simp [go_sem, IntWalk.iteOmega, IntWalk.toNatUp, q1]
        exact ⟨ext_alloc _ _, A', cp, _, rfl, hb.size, Blk.self_ rfl⟩
      · obtain ⟨⟨A', cp, r, q1, q2, q3⟩, -⟩ := hd
        simp [go_sem, IntWalk.iteOmega, IntWalk.toNatUp, q1]
        exact ⟨Below.refl _ _, A', cp, r, rfl, q2, q3⟩
    · intro s7 w7 hb7 hq ho
      simp [relyQ, vowAt] at hq
      obtain ⟨A', cp, r, q19, hrB, hR⟩ := hq.2.2.2.2.2.2.2
      have kk7 := kk6.drew.trans (hb7.mono kk6.drew.size)
      have f1 := ho 1 rfl
      have f6 := ho 6 rfl
      clear ho hq
      simp [go_sem, e1, e6] at f1 f6
      have hbw := (ext_drew w6).trans hb7
      have hX8 := hX6.keep hbw
      have hr := held_refl (fun q => q = w.heap.size) w7.drew
      have hX9 := hX8.drew
      have hR9 := hR.drew
      have kw9 := hbw.drew
      have kk9 := kk7.drew
      refine W_flow (fun q => q = w.heap.size) (.pure 0 (.pure 1 (.pure 2 (.pure 3 (.one 4 (.one 5 (.pure 6 (.pure 7 (.pure 8 (.pure 9 (.pure 10 (.one 11 (.done))))))))))))) follows (by kernel_rfl) ?_
      generalize w7.drew = w9 at *
      have r12 : readCells w9 ⟨w.heap.size, 12, none⟩ 0 5 = some [.int .i64 (c 12), .int .i64 (c 13), .int .i64 (c 14), .int .i64 (c 15), .int .i64 (c 16)] := readCells_blk hX9 5 12 0 _ rfl fun j v hj => by
        have : j < 5 := (List.getElem?_eq_some_iff.1 hj).1
        rw [← hCC, ← hj]
        match j, this with
        | 0, _ | 1, _ | 2, _ | 3, _ | 4, _ => rfl
      have lX := hX9.lt
      have lR := hR9.lt
      simp [go_sem, IntWalk.iteOmega, IntWalk.toNatUp, q19, f1, f6, hr, r12, lX, lR]
      refine callE_of (rweights_any l hl2 w9 (hrd.keep kk9)) ?_
      rintro vw w10 ⟨hown, k10⟩
      have hr10 := hr.below k10
      obtain ⟨hsl, Ag, cg, rfl⟩ := own_sl hown
      simp [go_sem, IntWalk.iteOmega, IntWalk.toNatUp, hr10]
      refine callE_of (rgnew_any (gcf c) (weights l) (.slice Ag l.length cg) w10 (by rw [wk_len]; exact hsl) hc.1.2.1 (wk_okW hv)) ?_
      rintro _ w11 ⟨g, rfl, hG, k11⟩
      rw [wk_len] at hG
      have hr11 := hr10.below k11
      have kw11 := (kw9.trans (k10.mono kw9.size)).trans (k11.mono (Nat.le_trans kw9.size k10.size))
      have hR11 := (hR9.keep k10).keep k11
      have hrX : ¬ r = w.heap.size := by have := hX6.lt; omega
      have hr12 := hr11.set (g := r) (o := 30) (pt g) hrX
      have f11 := hR11.frozen 30
      have c11 := hR11.cell 30
      have hRn' : (rnodeL c (.slice A' l.length cp) (pt ch) (.pointer none) (pt p)).toArray[30]? = some (.pointer none) := rfl
      rw [hRn'] at c11
      have hR12 : Blk (w11.setCell ⟨r, 30, none⟩ (pt g)) r 127 (rnodeL c (.slice A' l.length cp) (pt ch) (pt g) (pt p)).toArray := Blk_set (o := 30) (v := pt g) hR11
      have hG12 : RGateNew (w11.setCell ⟨r, 30, none⟩ (pt g)) g l.length := by
        obtain ⟨c0, c1, c2, c3, c4, A1, cp1, d, h1, h2⟩ := hG
        have f : ∀ k, k ≠ r → (w11.setCell ⟨r, 30, none⟩ (pt g)).heap[k]? = w11.heap[k]? := fun k hk => Below.heap_setCell _ _ _ _ hk
        exact ⟨c0, c1, c2, c3, c4, A1, cp1, d, Blk_farh h1 (f _ (Blk_ne h1 hR11 (by decide))), Blk_farh h2 (f _ (Blk_ne h2 hR11 (by decide)))⟩
      have kw12 := kw11.setCell (p := ⟨r, 30, none⟩) hrB (pt g)
      simp [go_sem, IntWalk.iteOmega, IntWalk.toNatUp, hr11, q19, f11, c11, hr12]
      refine ⟨?_, kk6.trans (kw12.mono kk6.size)⟩
      unfold RNewPost
      rw [if_pos (by unfold newE; rw [if_neg hnn, if_neg hvn, if_neg mn, if_neg hK, if_neg (by simpa using hw)]; exact hop)]
      exact ⟨r, by simp [go_sem, q19], ch, p, _, _, g, hR12, hO.keep kw12, (hP.keep k6).keep kw12, hG12⟩
end Go.Proofs.YtmcbcoafodmbjaaGreatDoor
