/-
  Texts joined: NGet2, NAlike, NFew.
-/
import Derived.Test.YtmcbcoafodmbjaaGreatDoorJoin36

/-
  What nodes that have not begun tell: the last block; the document's.
-/
namespace Go.Proofs.YtmcbcoafodmbjaaGreatDoor
open Go.RowKit
set_option linter.unusedVariables false
set_option linter.unusedSimpArgs false
set_option maxRecDepth 10000
variable {w : World} {n : Nat} {c : Nat → Int} {l : List Vd} {b : Bk} {now : Int}
theorem nlast0_any (h : NodeAt w n c l b now) (hok : BkOk b) : callE Tryz.prog 101 #[pt n] w fun v w' => v = .agg (bl (idB b).1).toArray ∧ Below w.heap.size w w' := by
  have hls : (bl (idB b).1).length = 32 := by simp [bl, idB_len b]
  have ho1 := bl_one (idB b).1
  have kA := ext_alloc w (.cells zIdA 36)
  have hX : Blk (w.alloc (.cells zIdA 36)) w.heap.size 36 zIdA := Blk.self_ rfl
  have h1 := h.keep kA
  unfold zIdA at kA hX h1
  refine calls_E Tryz.func101 rfl rfl rfl (Nat.le_of_ble_eq_true rfl) ?_
  simp [go_sem, IntWalk.iteOmega, IntWalk.toNatUp]
  generalize w.alloc (.cells #[.int .u8 0, .int .u8 0, .int .u8 0, .int .u8 0, .int .u8 0, .int .u8 0, .int .u8 0, .int .u8 0, .int .u8 0, .int .u8 0, .int .u8 0, .int .u8 0, .int .u8 0, .int .u8 0, .int .u8 0, .int .u8 0, .int .u8 0, .int .u8 0, .int .u8 0, .int .u8 0, .int .u8 0, .int .u8 0, .int .u8 0, .int .u8 0, .int .u8 0, .int .u8 0, .int .u8 0, .int .u8 0, .int .u8 0, .int .u8 0, .int .u8 0, .int .u8 0] 36) = w1 at *
  obtain ⟨hn, -, -, -, i, ch, p, g, B, h0, -, hi, hc, -, hC, -⟩ := h1.cells
  simp [go_sem, IntWalk.iteOmega, IntWalk.toNatUp, hn, h0, hi, hc]
  refine callE_of (chlast_any hC hok) ?_
  rintro _ w2 ⟨rfl, k2⟩
  have k3 := k2.alloc k2.size (.cells #[.int .u8 0, .int .u8 0, .int .u8 0, .int .u8 0, .int .u8 0, .int .u8 0, .int .u8 0, .int .u8 0, .int .u8 0, .int .u8 0, .int .u8 0, .int .u8 0, .int .u8 0, .int .u8 0, .int .u8 0, .int .u8 0, .int .u8 0, .int .u8 0, .int .u8 0, .int .u8 0, .int .u8 0, .int .u8 0, .int .u8 0, .int .u8 0, .int .u8 0, .int .u8 0, .int .u8 0, .int .u8 0, .int .u8 0, .int .u8 0, .int .u8 0, .int .u8 0] 36)
  have y2 : Blk (w2.alloc (.cells #[.int .u8 0, .int .u8 0, .int .u8 0, .int .u8 0, .int .u8 0, .int .u8 0, .int .u8 0, .int .u8 0, .int .u8 0, .int .u8 0, .int .u8 0, .int .u8 0, .int .u8 0, .int .u8 0, .int .u8 0, .int .u8 0, .int .u8 0, .int .u8 0, .int .u8 0, .int .u8 0, .int .u8 0, .int .u8 0, .int .u8 0, .int .u8 0, .int .u8 0, .int .u8 0, .int .u8 0, .int .u8 0, .int .u8 0, .int .u8 0, .int .u8 0, .int .u8 0] 36)) w2.heap.size 36 #[.int .u8 0, .int .u8 0, .int .u8 0, .int .u8 0, .int .u8 0, .int .u8 0, .int .u8 0, .int .u8 0, .int .u8 0, .int .u8 0, .int .u8 0, .int .u8 0, .int .u8 0, .int .u8 0, .int .u8 0, .int .u8 0, .int .u8 0, .int .u8 0, .int .u8 0, .int .u8 0, .int .u8 0, .int .u8 0, .int .u8 0, .int .u8 0, .int .u8 0, .int .u8 0, .int .u8 0, .int .u8 0, .int .u8 0, .int .u8 0, .int .u8 0, .int .u8 0] := Blk.self_ rfl
  have x2 := hX.keep k3
  have y3 := Blk_setRow (cs' := (bl (idB b).1).toArray) y2
  have hst := storeSeg_all y2 (bl (idB b).1) (by rw [hls]; rfl)
  have hcw := canWrite_all y2 32 rfl
  have r3 := readCells_all y3 32 (by simpa using hls)
  have hne : w.heap.size ≠ w2.heap.size := by have := hX.lt; have := k2.size; omega
  have x3 : Blk ((w2.alloc (.cells #[.int .u8 0, .int .u8 0, .int .u8 0, .int .u8 0, .int .u8 0, .int .u8 0, .int .u8 0, .int .u8 0, .int .u8 0, .int .u8 0, .int .u8 0, .int .u8 0, .int .u8 0, .int .u8 0, .int .u8 0, .int .u8 0, .int .u8 0, .int .u8 0, .int .u8 0, .int .u8 0, .int .u8 0, .int .u8 0, .int .u8 0, .int .u8 0, .int .u8 0, .int .u8 0, .int .u8 0, .int .u8 0, .int .u8 0, .int .u8 0, .int .u8 0, .int .u8 0] 36)).setRow w2.heap.size (bl (idB b).1).toArray) w.heap.size 36 #[.int .u8 0, .int .u8 0, .int .u8 0, .int .u8 0, .int .u8 0, .int .u8 0, .int .u8 0, .int .u8 0, .int .u8 0, .int .u8 0, .int .u8 0, .int .u8 0, .int .u8 0, .int .u8 0, .int .u8 0, .int .u8 0, .int .u8 0, .int .u8 0, .int .u8 0, .int .u8 0, .int .u8 0, .int .u8 0, .int .u8 0, .int .u8 0, .int .u8 0, .int .u8 0, .int .u8 0, .int .u8 0, .int .u8 0, .int .u8 0, .int .u8 0, .int .u8 0] := x2.farRow hne _
  have x4 := Blk_setRow (cs' := (bl (idB b).1).toArray) x3
  have hst4 := storeSeg_all x3 (bl (idB b).1) (by rw [hls]; rfl)
  have hcw4 := canWrite_all x3 32 rfl
  have r4 := readCells_all x4 32 (by simpa using hls)
  have l3 := y3.lt
  simp [go_sem, IntWalk.iteOmega, IntWalk.toNatUp, hst, hcw, r3, hls, ho1, hst4, hcw4, r4, l3]
  exact below_setRow (below_setRow (kA.trans (k3.mono kA.size)) (by have := k2.size; have := kA.size; omega) _) (Nat.le_refl _) _
theorem npref_any (h : NodeAt w n c l b now) (hok : BkOk b) : callE Tryz.prog 45 #[pt n] w fun v w' => v = .agg (bl (idB b).1).toArray ∧ Below w.heap.size w w' := by
  have hls : (bl (idB b).1).length = 32 := by simp [bl, idB_len b]
  have ho1 := bl_one (idB b).1
  have kA := ext_alloc w (.cells zIdA 36)
  have hX : Blk (w.alloc (.cells zIdA 36)) w.heap.size 36 zIdA := Blk.self_ rfl
  have h1 := h.keep kA
  unfold zIdA at kA hX h1
  refine calls_E Tryz.func45 rfl rfl rfl (Nat.le_of_ble_eq_true rfl) ?_
  simp [go_sem, IntWalk.iteOmega, IntWalk.toNatUp]
  generalize w.alloc (.cells #[.int .u8 0, .int .u8 0, .int .u8 0, .int .u8 0, .int .u8 0, .int .u8 0, .int .u8 0, .int .u8 0, .int .u8 0, .int .u8 0, .int .u8 0, .int .u8 0, .int .u8 0, .int .u8 0, .int .u8 0, .int .u8 0, .int .u8 0, .int .u8 0, .int .u8 0, .int .u8 0, .int .u8 0, .int .u8 0, .int .u8 0, .int .u8 0, .int .u8 0, .int .u8 0, .int .u8 0, .int .u8 0, .int .u8 0, .int .u8 0, .int .u8 0, .int .u8 0] 36) = w1 at *
  have m := fun k => callE_eq noinit_nnone (nnone_runs h1) k
  obtain ⟨hn, h33, -⟩ := h1.cells
  simp [go_sem, IntWalk.iteOmega, IntWalk.toNatUp, m, hn, h33]
  refine callE_of (nlast0_any h1 hok) ?_
  rintro _ w2 ⟨rfl, k2⟩
  have x2 := hX.keep k2
  have x3 := Blk_setRow (cs' := (bl (idB b).1).toArray) x2
  have hst := storeSeg_all x2 (bl (idB b).1) (by rw [hls]; rfl)
  have hcw := canWrite_all x2 32 rfl
  have r3 := readCells_all x3 32 (by simpa using hls)
  simp [go_sem, IntWalk.iteOmega, IntWalk.toNatUp, hst, hcw, r3, hls, ho1]
  exact below_setRow (kA.trans (k2.mono kA.size)) (Nat.le_refl _) _
theorem RNodeAt.cells (h : RNodeAt w n c l b now) : n < w.heap.size ∧ w.cell? ⟨n, 33, none⟩ = some (.int .i64 1) ∧ w.cell? ⟨n, 32, none⟩ = some (.slice none 0 0) ∧ w.cell? ⟨n, 45, none⟩ = some (.slice none 0 0) ∧ ∃ ch p g A cp, w.cell? ⟨n, 28, none⟩ = some (.slice A l.length cp) ∧ w.cell? ⟨n, 29, none⟩ = some (pt ch) ∧ w.cell? ⟨n, 30, none⟩ = some (pt g) ∧ w.cell? ⟨n, 31, none⟩ = some (pt p) ∧ RChainAt w ch b ∧ RPeerAt w p c now ∧ RGateNew w g l.length := by
  obtain ⟨ch, p, A, cp, g, h1, h2, h3, h4⟩ := h
  exact ⟨h1.lt, (h1.cell 33).trans rfl, (h1.cell 32).trans rfl, (h1.cell 45).trans rfl, ch, p, g, A, cp, (h1.cell 28).trans rfl, (h1.cell 29).trans rfl, (h1.cell 30).trans rfl, (h1.cell 31).trans rfl, h2, h3, h4⟩
theorem rnlast_any (h : RNodeAt w n c l b now) (hok : BkOk b) : callE Tryz.prog 103 #[pt n] w fun v w' => v = .agg (bl (idB b).1).toArray ∧ Below w.heap.size w w' := by
  have hls : (bl (idB b).1).length = 32 := by simp [bl, idB_len b]
  have ho1 := bl_one (idB b).1
  have kA := ext_alloc w (.cells zIdA 36)
  have hX : Blk (w.alloc (.cells zIdA 36)) w.heap.size 36 zIdA := Blk.self_ rfl
  have h1 := h.keep kA
  unfold zIdA at kA hX h1
  refine calls_E Tryz.func103 rfl rfl rfl (Nat.le_of_ble_eq_true rfl) ?_
  simp [go_sem, IntWalk.iteOmega, IntWalk.toNatUp]
  generalize w.alloc (.cells #[.int .u8 0, .int .u8 0, .int .u8 0, .int .u8 0, .int .u8 0, .int .u8 0, .int .u8 0, .int .u8 0, .int .u8 0, .int .u8 0, .int .u8 0, .int .u8 0, .int .u8 0, .int .u8 0, .int .u8 0, .int .u8 0, .int .u8 0, .int .u8 0, .int .u8 0, .int .u8 0, .int .u8 0, .int .u8 0, .int .u8 0, .int .u8 0, .int .u8 0, .int .u8 0, .int .u8 0, .int .u8 0, .int .u8 0, .int .u8 0, .int .u8 0, .int .u8 0] 36) = w1 at *
  obtain ⟨hn, -, -, -, ch, p, g, A, cp, -, hc, -, -, hC, -⟩ := h1.cells
  simp [go_sem, IntWalk.iteOmega, IntWalk.toNatUp, hn, hc]
  refine callE_of (rchlast_any hC hok) ?_
  rintro _ w2 ⟨rfl, k2⟩
  have k3 := k2.alloc k2.size (.cells #[.int .u8 0, .int .u8 0, .int .u8 0, .int .u8 0, .int .u8 0, .int .u8 0, .int .u8 0, .int .u8 0, .int .u8 0, .int .u8 0, .int .u8 0, .int .u8 0, .int .u8 0, .int .u8 0, .int .u8 0, .int .u8 0, .int .u8 0, .int .u8 0, .int .u8 0, .int .u8 0, .int .u8 0, .int .u8 0, .int .u8 0, .int .u8 0, .int .u8 0, .int .u8 0, .int .u8 0, .int .u8 0, .int .u8 0, .int .u8 0, .int .u8 0, .int .u8 0] 36)
  have y2 : Blk (w2.alloc (.cells #[.int .u8 0, .int .u8 0, .int .u8 0, .int .u8 0, .int .u8 0, .int .u8 0, .int .u8 0, .int .u8 0, .int .u8 0, .int .u8 0, .int .u8 0, .int .u8 0, .int .u8 0, .int .u8 0, .int .u8 0, .int .u8 0, .int .u8 0, .int .u8 0, .int .u8 0, .int .u8 0, .int .u8 0, .int .u8 0, .int .u8 0, .int .u8 0, .int .u8 0, .int .u8 0, .int .u8 0, .int .u8 0, .int .u8 0, .int .u8 0, .int .u8 0, .int .u8 0] 36)) w2.heap.size 36 #[.int .u8 0, .int .u8 0, .int .u8 0, .int .u8 0, .int .u8 0, .int .u8 0, .int .u8 0, .int .u8 0, .int .u8 0, .int .u8 0, .int .u8 0, .int .u8 0, .int .u8 0, .int .u8 0, .int .u8 0, .int .u8 0, .int .u8 0, .int .u8 0, .int .u8 0, .int .u8 0, .int .u8 0, .int .u8 0, .int .u8 0, .int .u8 0, .int .u8 0, .int .u8 0, .int .u8 0, .int .u8 0, .int .u8 0, .int .u8 0, .int .u8 0, .int .u8 0] := Blk.self_ rfl
  have x2 := hX.keep k3
  have y3 := Blk_setRow (cs' := (bl (idB b).1).toArray) y2
  have hst := storeSeg_all y2 (bl (idB b).1) (by rw [hls]; rfl)
  have hcw := canWrite_all y2 32 rfl
  have r3 := readCells_all y3 32 (by simpa using hls)
  have hne : w.heap.size ≠ w2.heap.size := by have := hX.lt; have := k2.size; omega
  have x3 : Blk ((w2.alloc (.cells #[.int .u8 0, .int .u8 0, .int .u8 0, .int .u8 0, .int .u8 0, .int .u8 0, .int .u8 0, .int .u8 0, .int .u8 0, .int .u8 0, .int .u8 0, .int .u8 0, .int .u8 0, .int .u8 0, .int .u8 0, .int .u8 0, .int .u8 0, .int .u8 0, .int .u8 0, .int .u8 0, .int .u8 0, .int .u8 0, .int .u8 0, .int .u8 0, .int .u8 0, .int .u8 0, .int .u8 0, .int .u8 0, .int .u8 0, .int .u8 0, .int .u8 0, .int .u8 0] 36)).setRow w2.heap.size (bl (idB b).1).toArray) w.heap.size 36 #[.int .u8 0, .int .u8 0, .int .u8 0, .int .u8 0, .int .u8 0, .int .u8 0, .int .u8 0, .int .u8 0, .int .u8 0, .int .u8 0, .int .u8 0, .int .u8 0, .int .u8 0, .int .u8 0, .int .u8 0, .int .u8 0, .int .u8 0, .int .u8 0, .int .u8 0, .int .u8 0, .int .u8 0, .int .u8 0, .int .u8 0, .int .u8 0, .int .u8 0, .int .u8 0, .int .u8 0, .int .u8 0, .int .u8 0, .int .u8 0, .int .u8 0, .int .u8 0] := x2.farRow hne _
  have x4 := Blk_setRow (cs' := (bl (idB b).1).toArray) x3
  have hst4 := storeSeg_all x3 (bl (idB b).1) (by rw [hls]; rfl)
  have hcw4 := canWrite_all x3 32 rfl
  have r4 := readCells_all x4 32 (by simpa using hls)
  have l3 := y3.lt
  simp [go_sem, IntWalk.iteOmega, IntWalk.toNatUp, hst, hcw, r3, hls, ho1, hst4, hcw4, r4, l3]
  exact below_setRow (below_setRow (kA.trans (k3.mono kA.size)) (by have := k2.size; have := kA.size; omega) _) (Nat.le_refl _) _
theorem rnpref_any (h : RNodeAt w n c l b now) (hok : BkOk b) : callE Tryz.prog 46 #[pt n] w fun v w' => v = .agg (bl (idB b).1).toArray ∧ Below w.heap.size w w' := by
  have hls : (bl (idB b).1).length = 32 := by simp [bl, idB_len b]
  have ho1 := bl_one (idB b).1
  have kA := ext_alloc w (.cells zIdA 36)
  have hX : Blk (w.alloc (.cells zIdA 36)) w.heap.size 36 zIdA := Blk.self_ rfl
  have h1 := h.keep kA
  unfold zIdA at kA hX h1
  refine calls_E Tryz.func46 rfl rfl rfl (Nat.le_of_ble_eq_true rfl) ?_
  simp [go_sem, IntWalk.iteOmega, IntWalk.toNatUp]
  generalize w.alloc (.cells #[.int .u8 0, .int .u8 0, .int .u8 0, .int .u8 0, .int .u8 0, .int .u8 0, .int .u8 0, .int .u8 0, .int .u8 0, .int .u8 0, .int .u8 0, .int .u8 0, .int .u8 0, .int .u8 0, .int .u8 0, .int .u8 0, .int .u8 0, .int .u8 0, .int .u8 0, .int .u8 0, .int .u8 0, .int .u8 0, .int .u8 0, .int .u8 0, .int .u8 0, .int .u8 0, .int .u8 0, .int .u8 0, .int .u8 0, .int .u8 0, .int .u8 0, .int .u8 0] 36) = w1 at *
  obtain ⟨hn, h33, -⟩ := h1.cells
  simp [go_sem, IntWalk.iteOmega, IntWalk.toNatUp, hn, h33]
  refine callE_of (rnlast_any h1 hok) ?_
  rintro _ w2 ⟨rfl, k2⟩
  have x2 := hX.keep k2
  have x3 := Blk_setRow (cs' := (bl (idB b).1).toArray) x2
  have hst := storeSeg_all x2 (bl (idB b).1) (by rw [hls]; rfl)
  have hcw := canWrite_all x2 32 rfl
  have r3 := readCells_all x3 32 (by simpa using hls)
  simp [go_sem, IntWalk.iteOmega, IntWalk.toNatUp, hst, hcw, r3, hls, ho1]
  exact below_setRow (kA.trans (k2.mono kA.size)) (Nat.le_refl _) _
end Go.Proofs.YtmcbcoafodmbjaaGreatDoor

/-
  Two nodes that have not begun are alike.
-/
namespace Go.Proofs.YtmcbcoafodmbjaaGreatDoor
open Go.RowKit
set_option linter.unusedVariables false
set_option linter.unusedSimpArgs false
set_option maxRecDepth 10000
variable {w : World} {n r : Nat} {c : Nat → Int} {l : List Vd} {b : Bk} {now : Int}
theorem RPeerAt.cells {p : Nat} (h : RPeerAt w p c now) : p < w.heap.size ∧ w.cell? ⟨p, 17, none⟩ = some (.int .i64 now) ∧ ∃ a, w.cell? ⟨p, 12, none⟩ = some (pt a) ∧ a < w.heap.size ∧ ∀ j, w.cell? ⟨a, j, none⟩ = (#[.int .i64 (c 17), .int .i64 0, .slice none 0 0, .int .i64 0, .int .i64 0, .int .i64 0] : Array Value)[j]? := by
  obtain ⟨own, a, h, m0, m1, s, h1, h2⟩ := h
  exact ⟨h1.lt, (h1.cell 17).trans rfl, a, (h1.cell 12).trans rfl, h2.lt, h2.cell⟩
theorem can_newA (W : World) : canWrite (W.alloc (.cells zIdA 36)) ⟨W.heap.size, 0, none⟩ 0 32 = true := canWrite_all (Blk.self_ (t := 36) rfl) 32 rfl
theorem store_newA (W : World) (l : List UInt8) (h : l.length = 32) : storeSeg (W.alloc (.cells zIdA 36)) ⟨W.heap.size, 0, none⟩ 0 (bl l) = W.alloc (.cells (bl l).toArray 36) :=
  storeSeg_new rfl (by simp [bl, h, zIdA])
set_option maxHeartbeats 3200000 in
theorem alike_any (hok : BkOk b) (hl : l.length ≤ 32) (hN : NodeAt w n c l b now) (hR : RNodeAt w r c l b now) : callE Tryz.prog 14 #[pt n, pt r] w fun v w' => v = .bool true ∧ Below w.heap.size w w' := by
  have hls : (bl (idB b).1).length = 32 := by simp [bl, idB_len b]
  have ho1 := bl_one (idB b).1
  refine calls_E Tryz.func14 rfl rfl rfl (Nat.le_of_ble_eq_true rfl) ?_
  simp [go_sem, IntWalk.iteOmega, IntWalk.toNatUp]
  refine callE_of (nlast_any hN hok) ?_
  rintro _ w1 ⟨rfl, k1⟩
  have hN1 := hN.keep k1
  have hR1 := hR.keep k1
  have y1 := can_newA
  have y2 := fun W => store_newA W _ (idB_len b)
  unfold zIdA at y1 y2
  have kA := k1.alloc k1.size (.cells (bl (idB b).1).toArray 36)
  have hA : Blk (w1.alloc (.cells (bl (idB b).1).toArray 36)) w1.heap.size 36 (bl (idB b).1).toArray := Blk.self_ rfl
  have hRA := hR1.keep (ext_alloc w1 (.cells (bl (idB b).1).toArray 36))
  have hNA := hN1.keep (ext_alloc w1 (.cells (bl (idB b).1).toArray 36))
  obtain ⟨hn, -, -, -, ch, p, g, A, cp, -, hc, -, -, hC, -⟩ := hRA.cells
  simp [go_sem, IntWalk.iteOmega, IntWalk.toNatUp, ho1, hls, y1, y2, hn, hc]
  generalize hw2 : w1.alloc (.cells (bl (idB b).1).toArray 36) = w2 at *
  refine callE_of (rchlast_any hC hok) ?_
  rintro _ w3 ⟨rfl, k3⟩
  have hN3 := hNA.keep k3
  have hR3 := hRA.keep k3
  have hA3 := hA.keep k3
  have k3' := kA.trans (k3.mono kA.size)
  have kB := k3'.alloc k3'.size (.cells (bl (idB b).1).toArray 36)
  have hB : Blk (w3.alloc (.cells (bl (idB b).1).toArray 36)) w3.heap.size 36 (bl (idB b).1).toArray := Blk.self_ rfl
  have hRB := hR3.keep (ext_alloc w3 (.cells (bl (idB b).1).toArray 36))
  have hNB := hN3.keep (ext_alloc w3 (.cells (bl (idB b).1).toArray 36))
  have hAB := hA3.keep (ext_alloc w3 (.cells (bl (idB b).1).toArray 36))
  simp [go_sem, IntWalk.iteOmega, IntWalk.toNatUp, ho1, hls, y1, y2]
  generalize w3.alloc (.cells (bl (idB b).1).toArray 36) = w4 at *
  clear y1 y2 hw2
  refine W_flow (fun g => g < w4.drew.heap.size) (.pure 0 (.pure 2 (.pure 3 (.pure 4 (.pure 5 (.one 1 (.pure 6 (.pure 7 (.pure 8 (.pure 10 (.pure 11 (.pure 12 (.pure 13 (.pure 14 (.pure 15 (.pure 16 (.one 9 (.pure 17 (.pure 18 (.pure 19 (.pure 20 (.pure 21 (.pure 22 (.pure 23 (.pure 24 (.pure 25 (.pure 26 (.pure 27 (.pure 28 (.pure 29 (.pure 30 (.pure 32 (.one 31 (.one 33 (.pure 34 (.pure 35 (.pure 36 (.pure 37 (.pure 39 (.pure 40 (.pure 41 (.pure 42 (.pure 43 (.one 38 (.pure 44 (.pure 45 (.pure 46 (.pure 47 (.pure 49 (.pure 50 (.pure 51 (.pure 52 (.pure 53 (.pure 54 (.pure 55 (.pure 56 (.pure 57 (.pure 58 (.one 48 (.pure 59 (.pure 60 (.done)))))))))))))))))))))))))))))))))))))))))))))))))))))))))))))) follows (by kernel_rfl) ?_
  have hR5 := hRB.keep (ext_drew w4)
  have hN5 := hNB.keep (ext_drew w4)
  have hA5 := hAB.drew
  have hB5 := hB.drew
  have k5 := kB.drew
  generalize w4.drew = w5 at *
  have hr := held_refl (fun g => g < w5.heap.size) w5
  obtain ⟨rn, r33, r32, r45, rch, rp, rg, A', cp', r28, r29, r30, r31, -, hP, -⟩ := hR5.cells
  obtain ⟨pl, p17, a, p12, al, acell⟩ := hP.cells
  have r3 : readCells w5 ⟨a, 3, none⟩ 0 3 = some [.int .i64 0, .int .i64 0, .int .i64 0] := readCells_cells 3 0 _ rfl fun j v hj => by
    have : j < 3 := (List.getElem?_eq_some_iff.1 hj).1
    rw [acell, ← hj]
    match j, this with
    | 0, _ | 1, _ | 2, _ => rfl
  have rA := readCells_all hA5 32 (by simpa using hls)
  have rB := readCells_all hB5 32 (by simpa using hls)
  have lA := hA5.lt
  have lB := hB5.lt
  have hq := fun W => run_neq_id (idB b).1 (idB b).1 (idB_len b) (idB_len b) W
  simp [go_sem, IntWalk.iteOmega, IntWalk.toNatUp, hr, rn, r33]
  refine callE_of (nphase_any hN5) ?_
  rintro _ _ ⟨rfl, rfl⟩
  simp [go_sem, IntWalk.iteOmega, IntWalk.toNatUp, hr, rn, r31, pl, p17]
  refine callE_of (nnow_any hN5) ?_
  rintro _ _ ⟨rfl, rfl⟩
  simp [go_sem, IntWalk.iteOmega, IntWalk.toNatUp, hr, rA, rB, lA, lB, hls, ho1, hq]
  refine callE_of (npref_any hN5 hok) ?_
  rintro _ w6 ⟨rfl, k6⟩
  have hr6 := hr.below k6
  simp [go_sem, IntWalk.iteOmega, IntWalk.toNatUp, hr6]
  refine callE_of (rnpref_any (hR5.keep k6) hok) ?_
  rintro _ w7 ⟨rfl, k7⟩
  have k57 := k6.trans (k7.mono k6.size)
  have hr7 := hr.below k57
  have hN7 := hN5.keep k57
  simp [go_sem, IntWalk.iteOmega, IntWalk.toNatUp, hr7, hq, rn, r32]
  refine callE_of (nqueue_any hN7) ?_
  rintro _ _ ⟨rfl, rfl⟩
  simp [go_sem, IntWalk.iteOmega, IntWalk.toNatUp, hr7, rn, r31, pl, p12, al, r3]
  refine callE_of (nasks_any hN7) ?_
  rintro _ w8 ⟨rfl, k8⟩
  have k58 := k57.trans (k8.mono k57.size)
  have hr8 := hr.below k58
  simp [go_sem, IntWalk.iteOmega, IntWalk.toNatUp, hr8, zAsk]
  clear hr hr6 hr7 hr8 rA rB lA lB acell r3 hA5 hB5 hAB hA3 hA hB
  have k8' := k5.trans (k58.mono k5.size)
  have hN8 := hN5.keep (k58.trans ((ext_drew w8).mono k58.size))
  have hR8 := hR5.keep (k58.trans ((ext_drew w8).mono k58.size))
  have k9 := k8'.drew
  refine W_flow (fun g => g < w8.drew.heap.size) (.pure 0 (.pure 2 (.pure 3 (.pure 4 (.pure 5 (.one 1 (.one 6 (.pure 7 (.done))))))))) follows (by kernel_rfl) ?_
  generalize w8.drew = w9 at *
  have hr := held_refl (fun g => g < w9.heap.size) w9
  obtain ⟨rn, r33, r32, r45, rch, rp, rg, A9, cp9, r28, r29, r30, r31, -, -, hG⟩ := hR8.cells
  simp [go_sem, IntWalk.iteOmega, IntWalk.toNatUp, hr, rn, r45]
  refine callE_of (nnotes_any hN8) ?_
  rintro _ _ ⟨rfl, rfl⟩
  simp [go_sem, IntWalk.iteOmega, IntWalk.toNatUp, hr]
  refine callE_of (rsamenotes_any _) ?_
  rintro _ _ ⟨rfl, rfl⟩
  simp [go_sem, IntWalk.iteOmega, IntWalk.toNatUp, hr]
  refine callE_of (nheld_any hN8) ?_
  rintro _ _ ⟨rfl, rfl⟩
  simp [go_sem, IntWalk.iteOmega, IntWalk.toNatUp, rn, r33]
  refine callE_of (npolls_any hN8) ?_
  rintro _ _ ⟨rfl, rfl⟩
  simp [go_sem, IntWalk.iteOmega, IntWalk.toNatUp]
  refine callE_of (nblocks_any hN8) ?_
  rintro _ _ ⟨rfl, rfl⟩
  simp [go_sem, IntWalk.iteOmega, IntWalk.toNatUp]
  refine W_loop (fun st wr => ∃ j : Int, -1 ≤ j ∧ j ≤ l.length + 1 ∧ st 0 = pt n ∧ st 1 = pt r ∧ st 15 = .int .i64 j ∧ NodeAt wr n c l b now ∧ RNodeAt wr r c l b now ∧ Below w.heap.size w wr) (fun st _ => (l.length + 1 - intOf (st 15)).toNat) ?_ ?_
  · exact ⟨-1, by omega, by omega, by simp [go_sem], by simp [go_sem], by simp [go_sem], hN8, hR8, k9⟩
  · rintro st wr ⟨j, h1, h2, g0, g1, g15, hN, hR, hb⟩
    obtain ⟨rn, r33, r32, r45, rch, rp, rg, A9, cp9, r28, r29, r30, r31, -, -, hG⟩ := hR.cells
    by_cases hj : j ≤ l.length
    · simp [go_sem, IntWalk.iteOmega, IntWalk.toNatUp, g0, g1, g15, rn, r28, hj]
      refine callE_of (ngate_any hN j) ?_
      rintro _ wa ⟨rfl, ka⟩
      have z1 : ∀ W : World, canWrite (W.alloc (.cells #[.int .i64 0, .int .i64 0, .int .i64 0, .int .i64 0] 168)) ⟨W.heap.size, 0, none⟩ 0 4 = true := fun W => canWrite_all (Blk.self_ (t := 168) rfl) 4 rfl
      have z2 : ∀ W : World, storeSeg (W.alloc (.cells #[.int .i64 0, .int .i64 0, .int .i64 0, .int .i64 0] 168)) ⟨W.heap.size, 0, none⟩ 0 [.int .i64 0, .int .i64 0, .int .i64 0, .int .i64 0] = W.alloc (.cells #[.int .i64 0, .int .i64 0, .int .i64 0, .int .i64 0] 168) := fun W => storeSeg_new rfl rfl
      have kB := ext_alloc wa (.cells #[.int .i64 0, .int .i64 0, .int .i64 0, .int .i64 0] 168)
      have hX : Blk (wa.alloc (.cells #[.int .i64 0, .int .i64 0, .int .i64 0, .int .i64 0] 168)) wa.heap.size 168 #[.int .i64 0, .int .i64 0, .int .i64 0, .int .i64 0] := Blk.self_ rfl
      have hNb := (hN.keep ka).keep kB
      have hRb := (hR.keep ka).keep kB
      have kb := (hb.trans (ka.mono hb.size)).trans (kB.mono (Nat.le_trans hb.size ka.size))
      obtain ⟨rn, r33, r32, r45, rch, rp, rg, A9, cp9, r28, r29, r30, r31, -, -, hG⟩ := hRb.cells
      simp [go_sem, IntWalk.iteOmega, IntWalk.toNatUp, g0, g1, g15, zStat, z1, z2, rn, r30]
      generalize wa.alloc (.cells #[.int .i64 0, .int .i64 0, .int .i64 0, .int .i64 0] 168) = wb at *
      refine callE_of (rgof_new hG hl j) ?_
      rintro _ wc ⟨rfl, kc⟩
      have kD := ext_alloc wc (.cells #[.int .i64 0, .int .i64 0, .int .i64 0, .int .i64 0] 168)
      have hY : Blk (wc.alloc (.cells #[.int .i64 0, .int .i64 0, .int .i64 0, .int .i64 0] 168)) wc.heap.size 168 #[.int .i64 0, .int .i64 0, .int .i64 0, .int .i64 0] := Blk.self_ rfl
      have hX2 := (hX.keep kc).keep kD
      have hNd := (hNb.keep kc).keep kD
      have hRd := (hRb.keep kc).keep kD
      have kd := (kb.trans (kc.mono kb.size)).trans (kD.mono (Nat.le_trans kb.size kc.size))
      have rX := readCells_all hX2 4 rfl
      have rY := readCells_all hY 4 rfl
      have lX := hX2.lt
      have lY := hY.lt
      simp [go_sem, IntWalk.iteOmega, IntWalk.toNatUp, g0, g1, g15, zStat, z1, z2, rX, rY, lX, lY]
      generalize wc.alloc (.cells #[.int .i64 0, .int .i64 0, .int .i64 0, .int .i64 0] 168) = wd at *
      refine roundEnd.mk ⟨j + 1, by omega, by omega, by simp [go_sem, g0], by simp [go_sem, g1], ?_, hNd, hRd, kd⟩ ?_
      · simp [go_sem]
      · simp [go_sem, intOf]; omega
    · simp [go_sem, IntWalk.iteOmega, IntWalk.toNatUp, g0, g1, g15, rn, r28, hj]
      exact hb
end Go.Proofs.YtmcbcoafodmbjaaGreatDoor

/-
  few: it answers, whatever the validators.
-/
namespace Go.Proofs.YtmcbcoafodmbjaaGreatDoor
open Go.RowKit
set_option linter.unusedVariables false
set_option linter.unusedSimpArgs false
set_option maxRecDepth 10000
set_option maxHeartbeats 1600000 in
theorem few_any (l : List Vd) (vl : Value) (w : World) (hs : Sl w 2 vl l.length (vdrs l)) :
    callE Tryz.prog 5 #[vl, .slice none 0 0] w fun v w' => (∃ t, v = .bool t) ∧ Below w.heap.size w w' := by
  obtain ⟨A, cap, rfl, hrd, hA, hc1, hc2⟩ := id hs
  refine calls_E Tryz.func5 rfl rfl rfl (Nat.le_of_ble_eq_true rfl) ?_
  by_cases h40 : 40 < l.length
  · have h40' : (40 : Int) < l.length := by omega
    simp [go_sem, IntWalk.iteOmega, IntWalk.toNatUp, h40, h40']
    exact Below.refl _ _
  have h40' : ¬ (40 : Int) < l.length := by omega
  simp [go_sem, IntWalk.iteOmega, IntWalk.toNatUp, h40, h40']
  refine W_loop (fun st wr => ∃ (i : Nat), i ≤ l.length ∧ st 1 = .slice none 0 0 ∧ st 12 = .slice A l.length cap ∧ st 13 = .int .i64 l.length ∧ st 14 = .int .i64 i ∧ Below w.heap.size w wr) (fun st _ => l.length - (intOf (st 14)).toNat) ?_ ?_
  · exact ⟨0, by omega, by simp [go_sem], by simp [go_sem], by simp [go_sem], by simp [go_sem], Below.refl _ _⟩
  · rintro st wr ⟨i, hi, e1, e12, e13, e14, hbw⟩
    by_cases hlt : i < l.length
    · obtain ⟨bb, o, rfl, hb, hc⟩ := hrd.cells (by omega)
      obtain ⟨a0, a1⟩ := vdrs_at l i hlt
      have x0 := hc _ _ a0
      have x1 := hc _ _ a1
      rw [← hbw.cell hb] at x0 x1
      rw [← Nat.add_assoc] at x1
      have hlt' : (i : Int) < l.length := by omega
      generalize l[i] = x at *
      have kA := hbw.alloc hbw.size (.cells #[.string x.name, .int .i64 x.weight] 59)
      by_cases h100 : (100 : Int) < x.name.size
      · simp [go_sem, IntWalk.iteOmega, IntWalk.toNatUp, e1, e12, e13, e14, hlt, hlt', x0, x1, h100]
        exact kA
      · simp [go_sem, IntWalk.iteOmega, IntWalk.toNatUp, e1, e12, e13, e14, hlt, hlt', x0, x1, h100]
        refine roundEnd.mk ⟨i + 1, by omega, by simp [go_sem, e1], by simp [go_sem, e12], by simp [go_sem, e13], by simp [go_sem], kA⟩ ?_
        simp [go_sem, intOf]; omega
    · obtain rfl : i = l.length := by omega
      have hmm : (max (min (0 : Int) 70) 0) = 0 := by omega
      simp [go_sem, IntWalk.iteOmega, IntWalk.toNatUp, e1, e12, e13, e14, hmm]
      refine W_loop (fun st w2 => st 28 = .int .i64 0 ∧ st 29 = .int .i64 0 ∧ w2 = wr) (fun _ _ => 0) ?_ ?_
      · exact ⟨by simp [go_sem, hmm], by simp [go_sem], rfl⟩
      · rintro st _ ⟨d28, d29, rfl⟩
        simp [go_sem, IntWalk.iteOmega, IntWalk.toNatUp, d28, d29]
        exact hbw
end Go.Proofs.YtmcbcoafodmbjaaGreatDoor
