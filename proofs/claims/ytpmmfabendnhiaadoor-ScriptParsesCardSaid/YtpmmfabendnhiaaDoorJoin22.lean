/-
  Texts joined: PRWith4, PRWith5, PRHead.
-/
import Derived.Test.YtpmmfabendnhiaaDoorJoin21
namespace Go.Proofs.YtpmmfabendnhiaaDoor
open Go.RowKit
open Go.Lib (strCells byteCells decDigits)
set_option linter.unusedVariables false
set_option linter.unusedSimpArgs false
set_option maxRecDepth 10000
set_option maxHeartbeats 12800000 in
theorem with4 (c : Nat → Nat) (now : Nat) {vv vb vf : Value} (h1 : vv.oneCell' = true) (h2 : vb.oneCell' = true) (h3 : vf.oneCell' = true) (x0 x1 x2 x3 x4 : Nat) (A : Option Addr) (cap : Nat) (w : World) (hrd : Rd w 1 A 5 (intCells [x0, x1, x2, x3, x4])) (hcap : 5 ≤ cap) :
    callE Tryd.prog 37 #[.agg (planL c now vv vb vf).toArray, .int .i64 4, .slice A 5 cap] w fun v w' => v = .agg (planL (updL c 18 [x0, x1, x2, x3, x4]) now vv vb vf).toArray ∧ Below w.heap.size w w' := by
  obtain ⟨b, o, rfl, hb, hcell⟩ := hrd.cells (by omega)
  have y0 := hcell 0 (.int .i64 (x0 : Int)) rfl
  have y1 := hcell 1 (.int .i64 (x1 : Int)) rfl
  have y2 := hcell 2 (.int .i64 (x2 : Int)) rfl
  have y3 := hcell 3 (.int .i64 (x3 : Int)) rfl
  have y4 := hcell 4 (.int .i64 (x4 : Int)) rfl
  refine calls_E Tryd.func37 rfl rfl rfl (Nat.le_of_ble_eq_true rfl) ?_
  simp [go_sem, IntWalk.iteOmega, IntWalk.toNatUp]
  rw [planZ_lit]
  have hP0 : Blk ((w.alloc (.cells (planL c now vv vb vf).toArray 39)).alloc (.cells planZ.toArray 39)) w.heap.size 39 (planL c now vv vb vf).toArray := (Blk.self_ rfl).more _
  have hR0 : Blk ((w.alloc (.cells (planL c now vv vb vf).toArray 39)).alloc (.cells planZ.toArray 39)) (w.heap.size + 1) 39 planZ.toArray := Blk.self_ (by simp)
  have k0 : Below w.heap.size w ((w.alloc (.cells (planL c now vv vb vf).toArray 39)).alloc (.cells planZ.toArray 39)) := ext_trans (ext_alloc w _) (ext_alloc _ _)
  generalize (w.alloc (.cells (planL c now vv vb vf).toArray 39)).alloc (.cells planZ.toArray 39) = w0 at *
  have y0 := (k0.cell (p := ⟨b, o + 0, none⟩) hb).trans y0
  have y1 := (k0.cell (p := ⟨b, o + 1, none⟩) hb).trans y1
  have y2 := (k0.cell (p := ⟨b, o + 2, none⟩) hb).trans y2
  have y3 := (k0.cell (p := ⟨b, o + 3, none⟩) hb).trans y3
  have y4 := (k0.cell (p := ⟨b, o + 4, none⟩) hb).trans y4
  simp only [Nat.add_zero] at y0
  have hbP : b ≠ w.heap.size := by omega
  have hbl : b < w0.heap.size := by have := k0.size; omega
  have z0 := (hP0.cell 18).trans (pl_lo c now vv vb vf ⟨18, by omega⟩)
  have z1 := (hP0.cell 19).trans (pl_lo c now vv vb vf ⟨19, by omega⟩)
  have z2 := (hP0.cell 20).trans (pl_lo c now vv vb vf ⟨20, by omega⟩)
  have z3 := (hP0.cell 21).trans (pl_lo c now vv vb vf ⟨21, by omega⟩)
  have z4 := (hP0.cell 22).trans (pl_lo c now vv vb vf ⟨22, by omega⟩)
  have hf := hP0.frozen
  have dy0 : w0.drew.cell? _ = _ := y0
  have dz0 : w0.drew.cell? _ = _ := z0
  have dy1 : w0.drew.cell? _ = _ := y1
  have dz1 : w0.drew.cell? _ = _ := z1
  have dy2 : w0.drew.cell? _ = _ := y2
  have dz2 : w0.drew.cell? _ = _ := z2
  have dy3 : w0.drew.cell? _ = _ := y3
  have dz3 : w0.drew.cell? _ = _ := z3
  have dy4 : w0.drew.cell? _ = _ := y4
  have dz4 : w0.drew.cell? _ = _ := z4
  have dhf : ∀ i, w0.drew.frozen? ⟨w.heap.size, i, none⟩ = false := hf
  have hh0 : heldE (fun g => ¬ g = w.heap.size) w0.drew w0.drew := held_refl _ w0.drew
  have hh1 : heldE (fun g => ¬ g = w.heap.size) w0.drew ((w0).setCell ⟨w.heap.size, 18, none⟩ (.int .i64 (x0 : Int))).drew := hh0.setd (g := w.heap.size) (o := 18) (.int .i64 (x0 : Int)) (fun h => h rfl)
  have hh2 : heldE (fun g => ¬ g = w.heap.size) w0.drew (((w0).setCell ⟨w.heap.size, 18, none⟩ (.int .i64 (x0 : Int))).setCell ⟨w.heap.size, 19, none⟩ (.int .i64 (x1 : Int))).drew := hh1.setd (g := w.heap.size) (o := 19) (.int .i64 (x1 : Int)) (fun h => h rfl)
  have hh3 : heldE (fun g => ¬ g = w.heap.size) w0.drew ((((w0).setCell ⟨w.heap.size, 18, none⟩ (.int .i64 (x0 : Int))).setCell ⟨w.heap.size, 19, none⟩ (.int .i64 (x1 : Int))).setCell ⟨w.heap.size, 20, none⟩ (.int .i64 (x2 : Int))).drew := hh2.setd (g := w.heap.size) (o := 20) (.int .i64 (x2 : Int)) (fun h => h rfl)
  have hh4 : heldE (fun g => ¬ g = w.heap.size) w0.drew (((((w0).setCell ⟨w.heap.size, 18, none⟩ (.int .i64 (x0 : Int))).setCell ⟨w.heap.size, 19, none⟩ (.int .i64 (x1 : Int))).setCell ⟨w.heap.size, 20, none⟩ (.int .i64 (x2 : Int))).setCell ⟨w.heap.size, 21, none⟩ (.int .i64 (x3 : Int))).drew := hh3.setd (g := w.heap.size) (o := 21) (.int .i64 (x3 : Int)) (fun h => h rfl)
  have hh5 : heldE (fun g => ¬ g = w.heap.size) w0.drew ((((((w0).setCell ⟨w.heap.size, 18, none⟩ (.int .i64 (x0 : Int))).setCell ⟨w.heap.size, 19, none⟩ (.int .i64 (x1 : Int))).setCell ⟨w.heap.size, 20, none⟩ (.int .i64 (x2 : Int))).setCell ⟨w.heap.size, 21, none⟩ (.int .i64 (x3 : Int))).setCell ⟨w.heap.size, 22, none⟩ (.int .i64 (x4 : Int))).drew := hh4.setd (g := w.heap.size) (o := 22) (.int .i64 (x4 : Int)) (fun h => h rfl)
  have hQ0 := hP0
  have hS0 := hR0
  have kk0 := k0
  have hQ1 := Blk_set (o := 18) (v := .int .i64 (x0 : Int)) hQ0
  rw [pl_set _ now vv vb vf ⟨18, by omega⟩ x0] at hQ1
  have hS1 := hS0.farCell (b := w.heap.size) (o := 18) (by omega) (.int .i64 (x0 : Int))
  have kk1 := kk0.setCell (p := ⟨w.heap.size, 18, none⟩) (Nat.le_refl _) (.int .i64 (x0 : Int))
  have hQ2 := Blk_set (o := 19) (v := .int .i64 (x1 : Int)) hQ1
  rw [pl_set _ now vv vb vf ⟨19, by omega⟩ x1] at hQ2
  have hS2 := hS1.farCell (b := w.heap.size) (o := 19) (by omega) (.int .i64 (x1 : Int))
  have kk2 := kk1.setCell (p := ⟨w.heap.size, 19, none⟩) (Nat.le_refl _) (.int .i64 (x1 : Int))
  have hQ3 := Blk_set (o := 20) (v := .int .i64 (x2 : Int)) hQ2
  rw [pl_set _ now vv vb vf ⟨20, by omega⟩ x2] at hQ3
  have hS3 := hS2.farCell (b := w.heap.size) (o := 20) (by omega) (.int .i64 (x2 : Int))
  have kk3 := kk2.setCell (p := ⟨w.heap.size, 20, none⟩) (Nat.le_refl _) (.int .i64 (x2 : Int))
  have hQ4 := Blk_set (o := 21) (v := .int .i64 (x3 : Int)) hQ3
  rw [pl_set _ now vv vb vf ⟨21, by omega⟩ x3] at hQ4
  have hS4 := hS3.farCell (b := w.heap.size) (o := 21) (by omega) (.int .i64 (x3 : Int))
  have kk4 := kk3.setCell (p := ⟨w.heap.size, 21, none⟩) (Nat.le_refl _) (.int .i64 (x3 : Int))
  have hQ5 := Blk_set (o := 22) (v := .int .i64 (x4 : Int)) hQ4
  rw [pl_set _ now vv vb vf ⟨22, by omega⟩ x4] at hQ5
  have hS5 := hS4.farCell (b := w.heap.size) (o := 22) (by omega) (.int .i64 (x4 : Int))
  have kk5 := kk4.setCell (p := ⟨w.heap.size, 22, none⟩) (Nat.le_refl _) (.int .i64 (x4 : Int))
  have hQ5 := hQ5.drew
  have hS5 := hS5.drew
  have kk5 := kk5.drew
  have hrc := readCells_all hQ5 32 rfl
  have hwr := canWrite_all hS5 32 rfl
  have e : planL (set1 (set1 (set1 (set1 (set1 (c) 18 x0) 19 x1) 20 x2) 21 x3) 22 x4) now vv vb vf = planL (updL c 18 [x0, x1, x2, x3, x4]) now vv vb vf := rfl
  simp only [e] at hrc
  have hone : allOne (planL (updL c 18 [x0, x1, x2, x3, x4]) now vv vb vf) = true := planL_one h1 h2 h3
  have hlen := planL_len (updL c 18 [x0, x1, x2, x3, x4]) now vv vb vf
  generalize hL : planL (updL c 18 [x0, x1, x2, x3, x4]) now vv vb vf = L at *
  have hst := storeSeg_all hS5 L hlen
  have hrf := readCells_all (Blk_setRow hS5 (cs' := L.toArray)) 32 (by simpa using hlen)
  have hbf := below_setRow kk5 (g := w.heap.size + 1) (by omega) L.toArray
  clear hQ0 hS0 kk0 hQ1 hS1 kk1 hQ2 hS2 kk2 hQ3 hS3 kk3 hQ4 hS4 kk4 e hL hrd hcell hR0 hP0 k0 hcap
  refine W_flow (fun g => g ≠ w.heap.size) (.pure 0 (.pure 1 (.pure 2 (.pure 3 (.pure 4 (.pure 5 (.pure 6 (.pure 7 (.pure 8 (.pure 9 (.pure 10 (.pure 11 (.pure 12 (.pure 13 (.pure 14 (.pure 15 (.pure 16 (.pure 17 (.pure 18 (.pure 19 (.one 20 (.done)))))))))))))))))))))) follows (by kernel_rfl) ?_
  simp [go_sem, IntWalk.iteOmega, IntWalk.toNatUp, dy0, dy1, dy2, dy3, dy4, z0, z1, z2, z3, z4, hf, hbP, hbl, seg4o, seg5o, hh1, hh2, hh3, hh4, hh5, hrc, hwr, hone, hlen, hst, hrf]
  exact hbf
end Go.Proofs.YtpmmfabendnhiaaDoor
namespace Go.Proofs.YtpmmfabendnhiaaDoor
open Go.RowKit
open Go.Lib (strCells byteCells decDigits)
set_option linter.unusedVariables false
set_option linter.unusedSimpArgs false
set_option maxRecDepth 10000
set_option maxHeartbeats 12800000 in
theorem with5 (c : Nat → Nat) (now : Nat) {vv vb vf : Value} (h1 : vv.oneCell' = true) (h2 : vb.oneCell' = true) (h3 : vf.oneCell' = true) (x0 x1 x2 x3 x4 : Nat) (A : Option Addr) (cap : Nat) (w : World) (hrd : Rd w 1 A 5 (intCells [x0, x1, x2, x3, x4])) (hcap : 5 ≤ cap) :
    callE Tryd.prog 37 #[.agg (planL c now vv vb vf).toArray, .int .i64 5, .slice A 5 cap] w fun v w' => v = .agg (planL (updL c 23 [x0, x1, x2, x3, x4]) now vv vb vf).toArray ∧ Below w.heap.size w w' := by
  obtain ⟨b, o, rfl, hb, hcell⟩ := hrd.cells (by omega)
  have y0 := hcell 0 (.int .i64 (x0 : Int)) rfl
  have y1 := hcell 1 (.int .i64 (x1 : Int)) rfl
  have y2 := hcell 2 (.int .i64 (x2 : Int)) rfl
  have y3 := hcell 3 (.int .i64 (x3 : Int)) rfl
  have y4 := hcell 4 (.int .i64 (x4 : Int)) rfl
  refine calls_E Tryd.func37 rfl rfl rfl (Nat.le_of_ble_eq_true rfl) ?_
  simp [go_sem, IntWalk.iteOmega, IntWalk.toNatUp]
  rw [planZ_lit]
  have hP0 : Blk ((w.alloc (.cells (planL c now vv vb vf).toArray 39)).alloc (.cells planZ.toArray 39)) w.heap.size 39 (planL c now vv vb vf).toArray := (Blk.self_ rfl).more _
  have hR0 : Blk ((w.alloc (.cells (planL c now vv vb vf).toArray 39)).alloc (.cells planZ.toArray 39)) (w.heap.size + 1) 39 planZ.toArray := Blk.self_ (by simp)
  have k0 : Below w.heap.size w ((w.alloc (.cells (planL c now vv vb vf).toArray 39)).alloc (.cells planZ.toArray 39)) := ext_trans (ext_alloc w _) (ext_alloc _ _)
  generalize (w.alloc (.cells (planL c now vv vb vf).toArray 39)).alloc (.cells planZ.toArray 39) = w0 at *
  have y0 := (k0.cell (p := ⟨b, o + 0, none⟩) hb).trans y0
  have y1 := (k0.cell (p := ⟨b, o + 1, none⟩) hb).trans y1
  have y2 := (k0.cell (p := ⟨b, o + 2, none⟩) hb).trans y2
  have y3 := (k0.cell (p := ⟨b, o + 3, none⟩) hb).trans y3
  have y4 := (k0.cell (p := ⟨b, o + 4, none⟩) hb).trans y4
  simp only [Nat.add_zero] at y0
  have hbP : b ≠ w.heap.size := by omega
  have hbl : b < w0.heap.size := by have := k0.size; omega
  have z0 := (hP0.cell 23).trans (pl_lo c now vv vb vf ⟨23, by omega⟩)
  have z1 := (hP0.cell 24).trans (pl_lo c now vv vb vf ⟨24, by omega⟩)
  have z2 := (hP0.cell 25).trans (pl_lo c now vv vb vf ⟨25, by omega⟩)
  have z3 := (hP0.cell 26).trans (pl_lo c now vv vb vf ⟨26, by omega⟩)
  have z4 := (hP0.cell 27).trans (pl_lo c now vv vb vf ⟨27, by omega⟩)
  have hf := hP0.frozen
  have dy0 : w0.drew.cell? _ = _ := y0
  have dz0 : w0.drew.cell? _ = _ := z0
  have dy1 : w0.drew.cell? _ = _ := y1
  have dz1 : w0.drew.cell? _ = _ := z1
  have dy2 : w0.drew.cell? _ = _ := y2
  have dz2 : w0.drew.cell? _ = _ := z2
  have dy3 : w0.drew.cell? _ = _ := y3
  have dz3 : w0.drew.cell? _ = _ := z3
  have dy4 : w0.drew.cell? _ = _ := y4
  have dz4 : w0.drew.cell? _ = _ := z4
  have dhf : ∀ i, w0.drew.frozen? ⟨w.heap.size, i, none⟩ = false := hf
  have hh0 : heldE (fun g => ¬ g = w.heap.size) w0.drew w0.drew := held_refl _ w0.drew
  have hh1 : heldE (fun g => ¬ g = w.heap.size) w0.drew ((w0).setCell ⟨w.heap.size, 23, none⟩ (.int .i64 (x0 : Int))).drew := hh0.setd (g := w.heap.size) (o := 23) (.int .i64 (x0 : Int)) (fun h => h rfl)
  have hh2 : heldE (fun g => ¬ g = w.heap.size) w0.drew (((w0).setCell ⟨w.heap.size, 23, none⟩ (.int .i64 (x0 : Int))).setCell ⟨w.heap.size, 24, none⟩ (.int .i64 (x1 : Int))).drew := hh1.setd (g := w.heap.size) (o := 24) (.int .i64 (x1 : Int)) (fun h => h rfl)
  have hh3 : heldE (fun g => ¬ g = w.heap.size) w0.drew ((((w0).setCell ⟨w.heap.size, 23, none⟩ (.int .i64 (x0 : Int))).setCell ⟨w.heap.size, 24, none⟩ (.int .i64 (x1 : Int))).setCell ⟨w.heap.size, 25, none⟩ (.int .i64 (x2 : Int))).drew := hh2.setd (g := w.heap.size) (o := 25) (.int .i64 (x2 : Int)) (fun h => h rfl)
  have hh4 : heldE (fun g => ¬ g = w.heap.size) w0.drew (((((w0).setCell ⟨w.heap.size, 23, none⟩ (.int .i64 (x0 : Int))).setCell ⟨w.heap.size, 24, none⟩ (.int .i64 (x1 : Int))).setCell ⟨w.heap.size, 25, none⟩ (.int .i64 (x2 : Int))).setCell ⟨w.heap.size, 26, none⟩ (.int .i64 (x3 : Int))).drew := hh3.setd (g := w.heap.size) (o := 26) (.int .i64 (x3 : Int)) (fun h => h rfl)
  have hh5 : heldE (fun g => ¬ g = w.heap.size) w0.drew ((((((w0).setCell ⟨w.heap.size, 23, none⟩ (.int .i64 (x0 : Int))).setCell ⟨w.heap.size, 24, none⟩ (.int .i64 (x1 : Int))).setCell ⟨w.heap.size, 25, none⟩ (.int .i64 (x2 : Int))).setCell ⟨w.heap.size, 26, none⟩ (.int .i64 (x3 : Int))).setCell ⟨w.heap.size, 27, none⟩ (.int .i64 (x4 : Int))).drew := hh4.setd (g := w.heap.size) (o := 27) (.int .i64 (x4 : Int)) (fun h => h rfl)
  have hQ0 := hP0
  have hS0 := hR0
  have kk0 := k0
  have hQ1 := Blk_set (o := 23) (v := .int .i64 (x0 : Int)) hQ0
  rw [pl_set _ now vv vb vf ⟨23, by omega⟩ x0] at hQ1
  have hS1 := hS0.farCell (b := w.heap.size) (o := 23) (by omega) (.int .i64 (x0 : Int))
  have kk1 := kk0.setCell (p := ⟨w.heap.size, 23, none⟩) (Nat.le_refl _) (.int .i64 (x0 : Int))
  have hQ2 := Blk_set (o := 24) (v := .int .i64 (x1 : Int)) hQ1
  rw [pl_set _ now vv vb vf ⟨24, by omega⟩ x1] at hQ2
  have hS2 := hS1.farCell (b := w.heap.size) (o := 24) (by omega) (.int .i64 (x1 : Int))
  have kk2 := kk1.setCell (p := ⟨w.heap.size, 24, none⟩) (Nat.le_refl _) (.int .i64 (x1 : Int))
  have hQ3 := Blk_set (o := 25) (v := .int .i64 (x2 : Int)) hQ2
  rw [pl_set _ now vv vb vf ⟨25, by omega⟩ x2] at hQ3
  have hS3 := hS2.farCell (b := w.heap.size) (o := 25) (by omega) (.int .i64 (x2 : Int))
  have kk3 := kk2.setCell (p := ⟨w.heap.size, 25, none⟩) (Nat.le_refl _) (.int .i64 (x2 : Int))
  have hQ4 := Blk_set (o := 26) (v := .int .i64 (x3 : Int)) hQ3
  rw [pl_set _ now vv vb vf ⟨26, by omega⟩ x3] at hQ4
  have hS4 := hS3.farCell (b := w.heap.size) (o := 26) (by omega) (.int .i64 (x3 : Int))
  have kk4 := kk3.setCell (p := ⟨w.heap.size, 26, none⟩) (Nat.le_refl _) (.int .i64 (x3 : Int))
  have hQ5 := Blk_set (o := 27) (v := .int .i64 (x4 : Int)) hQ4
  rw [pl_set _ now vv vb vf ⟨27, by omega⟩ x4] at hQ5
  have hS5 := hS4.farCell (b := w.heap.size) (o := 27) (by omega) (.int .i64 (x4 : Int))
  have kk5 := kk4.setCell (p := ⟨w.heap.size, 27, none⟩) (Nat.le_refl _) (.int .i64 (x4 : Int))
  have hQ5 := hQ5.drew
  have hS5 := hS5.drew
  have kk5 := kk5.drew
  have hrc := readCells_all hQ5 32 rfl
  have hwr := canWrite_all hS5 32 rfl
  have e : planL (set1 (set1 (set1 (set1 (set1 (c) 23 x0) 24 x1) 25 x2) 26 x3) 27 x4) now vv vb vf = planL (updL c 23 [x0, x1, x2, x3, x4]) now vv vb vf := rfl
  simp only [e] at hrc
  have hone : allOne (planL (updL c 23 [x0, x1, x2, x3, x4]) now vv vb vf) = true := planL_one h1 h2 h3
  have hlen := planL_len (updL c 23 [x0, x1, x2, x3, x4]) now vv vb vf
  generalize hL : planL (updL c 23 [x0, x1, x2, x3, x4]) now vv vb vf = L at *
  have hst := storeSeg_all hS5 L hlen
  have hrf := readCells_all (Blk_setRow hS5 (cs' := L.toArray)) 32 (by simpa using hlen)
  have hbf := below_setRow kk5 (g := w.heap.size + 1) (by omega) L.toArray
  clear hQ0 hS0 kk0 hQ1 hS1 kk1 hQ2 hS2 kk2 hQ3 hS3 kk3 hQ4 hS4 kk4 e hL hrd hcell hR0 hP0 k0 hcap
  refine W_flow (fun g => g ≠ w.heap.size) (.pure 0 (.pure 1 (.pure 2 (.pure 3 (.pure 4 (.pure 5 (.pure 6 (.pure 7 (.pure 8 (.pure 9 (.pure 10 (.pure 11 (.pure 12 (.pure 13 (.pure 14 (.pure 15 (.pure 16 (.pure 17 (.pure 18 (.pure 19 (.one 20 (.done)))))))))))))))))))))) follows (by kernel_rfl) ?_
  simp [go_sem, IntWalk.iteOmega, IntWalk.toNatUp, dy0, dy1, dy2, dy3, dy4, z0, z1, z2, z3, z4, hf, hbP, hbl, seg4o, seg5o, hh1, hh2, hh3, hh4, hh5, hrc, hwr, hone, hlen, hst, hrf]
  exact hbf
end Go.Proofs.YtpmmfabendnhiaaDoor
namespace Go.Proofs.YtpmmfabendnhiaaDoor
open Go.RowKit
open Go.Lib (strCells byteCells decDigits)
set_option linter.unusedVariables false
set_option linter.unusedSimpArgs false
set_option maxRecDepth 10000
def valL (ws : Wds) : List Nat := ws.map fun x => (numT [x]).getD 0
theorem okN_iff : ∀ (n : Nat) (ws : Wds), okN n ws = true ↔ ws.length = n ∧ ∀ x ∈ ws, (numT [x]).isSome = true
  | 0, ws => by cases ws <;> simp [okN]
  | n + 1, [] => by simp [okN, numT]
  | n + 1, x :: r => by
    have ih := okN_iff n r
    show ((numT [x]).isSome && okN n r) = true ↔ _
    rw [Bool.and_eq_true, ih]
    simp
    constructor
    · rintro ⟨h1, h2, h3⟩; exact ⟨h2, h1, h3⟩
    · rintro ⟨h1, h2, h3⟩; exact ⟨h2, h1, h3⟩
theorem dropT_eq : ∀ (j : Nat) (ws : Wds), dropT j ws = ws.drop j
  | 0, ws => rfl
  | j + 1, [] => by show dropT j [] = _; rw [dropT_eq j []]; simp
  | j + 1, x :: r => dropT_eq j r
theorem nG_val {ws : Wds} {j : Nat} (h : j < ws.length) : nG ws j = (valL ws).getD j 0 := by
  unfold nG
  rw [dropT_eq, List.drop_eq_getElem_cons h]
  show (numT [ws[j]]).getD 0 = _
  simp [valL, h]
theorem upd_val (c : Nat → Nat) (off n : Nat) (ws : Wds) (h : ws.length = n) : updL c off (valL ws) = upd c off n ws := by
  funext i
  unfold updL upd
  have hl : (valL ws).length = n := by simp [valL, h]
  rw [hl]
  by_cases hi : off ≤ i ∧ i < off + n
  · rw [if_pos hi, if_pos hi, nG_val (by omega)]
  · rw [if_neg hi, if_neg hi]
theorem small_val (x : List UInt8) : ((numT [x]).isSome = true ∧ smallV x = ((numT [x]).getD 0 : Nat)) ∨ (numT [x]).isSome = false ∧ smallV x = -1 := by
  have e1 : numT [x] = (match numV x with | some n => if n ≤ maxStake then some n else none | none => none) := rfl
  rw [e1]
  unfold smallV
  cases hq : numV x with
  | none => right; simp
  | some n =>
    by_cases h : n ≤ maxStake
    · left; simp [h]
    · right; simp [h]
theorem rwith_any {n : Nat} (hn1 : 1 ≤ n) (hn : n ≤ 6) (c : Nat → Nat) (now : Nat) {vv vb vf : Value} (h1 : vv.oneCell' = true) (h2 : vb.oneCell' = true) (h3 : vf.oneCell' = true) (xs : List Nat) (hxs : xs.length = hcnt n) (A : Option Addr) (cap : Nat) (w : World) (hrd : Rd w 1 A xs.length (intCells xs)) (hcap : xs.length ≤ cap) :
    callE Tryd.prog 37 #[.agg (planL c now vv vb vf).toArray, .int .i64 ((n - 1 : Nat) : Int), .slice A xs.length cap] w fun v w' => v = .agg (planL (updL c (hoff n) xs) now vv vb vf).toArray ∧ Below w.heap.size w w' := by
  rcases (by omega : n = 1 ∨ n = 2 ∨ n = 3 ∨ n = 4 ∨ n = 5 ∨ n = 6) with rfl | rfl | rfl | rfl | rfl | rfl
  · obtain ⟨x0, x1, x2, x3, rfl⟩ : ∃ x0 x1 x2 x3, xs = [x0, x1, x2, x3] := by
      match xs, hxs with
      | [a, b, c, d], _ => exact ⟨a, b, c, d, rfl⟩
    exact with0 c now h1 h2 h3 x0 x1 x2 x3 A cap w hrd hcap
  · obtain ⟨x0, x1, x2, x3, x4, x5, x6, x7, rfl⟩ : ∃ x0 x1 x2 x3 x4 x5 x6 x7, xs = [x0, x1, x2, x3, x4, x5, x6, x7] := by
      match xs, hxs with
      | [a, b, c, d, e, f, g, h], _ => exact ⟨a, b, c, d, e, f, g, h, rfl⟩
    exact with1 c now h1 h2 h3 x0 x1 x2 x3 x4 x5 x6 x7 A cap w hrd hcap
  · obtain ⟨x0, x1, x2, x3, x4, rfl⟩ : ∃ x0 x1 x2 x3 x4, xs = [x0, x1, x2, x3, x4] := by
      match xs, hxs with
      | [a, b, c, d, e], _ => exact ⟨a, b, c, d, e, rfl⟩
    exact with2 c now h1 h2 h3 x0 x1 x2 x3 x4 A cap w hrd hcap
  · obtain ⟨x0, rfl⟩ : ∃ x0, xs = [x0] := by
      match xs, hxs with
      | [a], _ => exact ⟨a, rfl⟩
    exact with3 c now h1 h2 h3 x0 A cap w hrd hcap
  · obtain ⟨x0, x1, x2, x3, x4, rfl⟩ : ∃ x0 x1 x2 x3 x4, xs = [x0, x1, x2, x3, x4] := by
      match xs, hxs with
      | [a, b, c, d, e], _ => exact ⟨a, b, c, d, e, rfl⟩
    exact with4 c now h1 h2 h3 x0 x1 x2 x3 x4 A cap w hrd hcap
  · obtain ⟨x0, x1, x2, x3, x4, rfl⟩ : ∃ x0 x1 x2 x3 x4, xs = [x0, x1, x2, x3, x4] := by
      match xs, hxs with
      | [a, b, c, d, e], _ => exact ⟨a, b, c, d, e, rfl⟩
    exact with5 c now h1 h2 h3 x0 x1 x2 x3 x4 A cap w hrd hcap
/-- What the document's reading of a head's line tells. -/
def RHeadPost (w : World) (S : PS) (vv vb vf : Value) (n : Nat) (l : List UInt8) (v : Value) (w' : World) : Prop :=
  (match headV n l S with
    | some S' => ∃ vf', v = .tuple #[.agg (planL S'.c S'.now vv vb vf').toArray, .bool true] ∧ vf'.oneCell' = true ∧ (vf' = vf ∧ S'.first = S.first ∨ w'.ownsRow w.heap.size 5 1 vf' S'.first.length (byteCells S'.first))
    | none => ∃ L : List Value, v = .tuple #[.agg L.toArray, .bool false] ∧ L.length = 32 ∧ allOne L = true) ∧ Below w.heap.size w w'
set_option maxHeartbeats 12800000 in
theorem rhead_low {n : Nat} (hn1 : 1 ≤ n) (hn : n ≤ 6) (S : PS) {vv vb vf : Value} (h1 : vv.oneCell' = true) (h2 : vb.oneCell' = true) (h3 : vf.oneCell' = true) (l : List UInt8) (hl : l.length ≤ 20000) (w : World) :
    callE Tryd.prog 15 #[.agg (planL S.c S.now vv vb vf).toArray, .int .i64 ((n - 1 : Nat) : Int), .string (strOf l)] w (RHeadPost w S vv vb vf n l) := by
  obtain ⟨P, hP⟩ : ∃ P, RHeadPost w S vv vb vf n l = P := ⟨_, rfl⟩
  rw [hP]
  have hsm := fun s (h : s ∈ wordsV l) => words_small h
  have hwl := words_len l
  obtain ⟨x, ws, hws⟩ : ∃ x ws, wordsV l = x :: ws := by
    cases h : wordsV l with
    | nil => exact absurd h (go_ne l [])
    | cons x ws => exact ⟨x, ws, rfl⟩
  have hhd : headV n l S = if x = hname n ∧ okN (hcnt n) ws = true then some { S with c := upd S.c (hoff n) (hcnt n) ws } else none := by
    unfold headV
    rw [hws]
    simp only
    rw [if_pos hn]
    by_cases hx : x = hname n
    · rw [if_pos hx]
      by_cases ho : okN (hcnt n) ws = true
      · rw [if_pos ho, if_pos ⟨hx, ho⟩]
      · rw [if_neg ho, if_neg (fun h => ho h.2)]
    · rw [if_neg hx, if_neg (fun h => hx h.1)]
  rw [hws] at hsm hwl
  simp only [List.length_cons] at hwl
  obtain ⟨at_, hat⟩ : ∃ at_, n = at_ + 1 := ⟨n - 1, by omega⟩
  subst hat
  have hat5 : at_ ≤ 5 := by omega
  rw [show at_ + 1 - 1 = at_ by omega]
  have hone : allOne (planL S.c S.now vv vb vf) = true := planL_one h1 h2 h3
  have hlen := planL_len S.c S.now vv vb vf
  refine calls_E Tryd.func15 rfl rfl rfl (Nat.le_of_ble_eq_true rfl) ?_
  simp [go_sem, IntWalk.iteOmega, IntWalk.toNatUp]
  rw [planZ_lit]
  have hP0 : Blk ((w.alloc (.cells (planL S.c S.now vv vb vf).toArray 39)).alloc (.cells planZ.toArray 39)) w.heap.size 39 (planL S.c S.now vv vb vf).toArray := (Blk.self_ rfl).more _
  have hR0 : Blk ((w.alloc (.cells (planL S.c S.now vv vb vf).toArray 39)).alloc (.cells planZ.toArray 39)) (w.heap.size + 1) 39 planZ.toArray := Blk.self_ (by simp)
  have k0 : Below w.heap.size w ((w.alloc (.cells (planL S.c S.now vv vb vf).toArray 39)).alloc (.cells planZ.toArray 39)) := ext_trans (ext_alloc w _) (ext_alloc _ _)
  generalize (w.alloc (.cells (planL S.c S.now vv vb vf).toArray 39)).alloc (.cells planZ.toArray 39) = w0 at *
  refine callE_of (rwords_any l (by omega) w0) ?_
  rintro v1 w1 ⟨o1, k1⟩
  rw [hws] at o1
  obtain ⟨⟨A, cp, e1, hrd, hA, hc1, hc2⟩, A', c', e2⟩ := own_sl o1
  subst e1
  clear e2
  obtain ⟨g, o, rfl, hg, hcell⟩ := hrd.cells (by simp)
  have hx0 := hcell 0 (.string (strOf x)) (by simp [strs])
  rw [Nat.add_zero] at hx0
  have hP1 := hP0.keep k1
  have hR1 := hR0.keep k1
  have kk1 := ext_trans k0 k1
  have na6 : ((at_ : Int) == 6) = false := by simp; omega
  have na7 : ((at_ : Int) == 7) = false := by simp; omega
  have nge : ¬ (6 : Int) ≤ at_ := by omega
  clear hP0 hR0 k0 k1 hA o1
  have hPd := hP1.drew
  have hRd := hR1.drew
  have hx0d : w1.drew.cell? ⟨g, o, none⟩ = _ := hx0
  have hg' : g < w1.drew.heap.size := hg
  have hrc := readCells_all hPd 32 rfl
  simp only at hrc
  have hnm := names_any w1.drew
  have hhn : (#[.string (strOf (hname 1)), .string (strOf (hname 2)), .string (strOf (hname 3)), .string (strOf (hname 4)), .string (strOf (hname 5)), .string (strOf (hname 6))] : Array Value)[at_]? = some (.string (strOf (hname (at_ + 1)))) := by
    rcases (by omega : at_ = 0 ∨ at_ = 1 ∨ at_ = 2 ∨ at_ = 3 ∨ at_ = 4 ∨ at_ = 5) with rfl | rfl | rfl | rfl | rfl | rfl <;> rfl
  have hlt6 : (at_ : Int) < 6 := by omega
  have hPl := hPd.lt
  simp [go_sem, IntWalk.iteOmega, IntWalk.toNatUp, na6, na7, nge]
  refine W_flow (fun _ => True) (.pure 0 (.pure 1 (.pure 2 (.pure 3 (.pure 4 (.pure 5 (.pure 7 (.one 6 (.pure 8 (.one 9 (.pure 10 (.pure 11 (.pure 12 (.pure 13 (.pure 14 (.pure 15 (.pure 17 (.one 16 (.pure 18 (.one 19 (.pure 20 (.pure 21 (.pure 22 (.pure 23 (.pure 24 (.done)))))))))))))))))))))))))) follows (by kernel_rfl) ?_
  have hgl : (0 : Int) < (ws.length : Int) + 1 := by omega
  simp [go_sem, IntWalk.iteOmega, IntWalk.toNatUp, na6, na7, nge, hx0d, hg', hgl]
  refine ⟨hg, ?_⟩
  refine callE_of hnm ?_
  rintro _ w2 ⟨rfl, hNm, k2⟩
  have held2 : heldE (fun _ => True) w1.drew w2 := (held_refl _ _).below k2
  have hNc : w2.cell? ⟨w1.heap.size, at_, none⟩ = some (.string (strOf (hname (at_ + 1)))) := by
    have := hNm.cell at_
    rw [hhn] at this
    exact this
  have hNl : w1.heap.size < w2.heap.size := hNm.lt
  have hP2 := hPd.keep k2
  have hR2 := hRd.keep k2
  have kk2 : Below w.heap.size w w2 := kk1.drew.trans (k2.mono kk1.size)
  have hnum := numbers_any S.c S.now vv vb vf w2
  obtain ⟨L, hL⟩ : ∃ L, planL S.c S.now vv vb vf = L := ⟨_, rfl⟩
  rw [hL] at hP2 hlen hone hnum hrc
  have failP : ∀ w', Below w.heap.size w w' → headV (at_ + 1) l S = none → P (.tuple #[.agg L.toArray, .bool false]) w' := by
    intro w' hb hn
    rw [← hP]
    refine ⟨?_, hb⟩
    rw [hn]
    exact ⟨L, rfl, hlen, hone⟩
  clear hP1 hR1 hnm hPd hRd hNm
  by_cases hx : x = hname (at_ + 1)
  case neg =>
    have hb1 : ((strOf x).toList == (strOf (hname (at_ + 1))).toList) = false := beq_eq_false_iff_ne.2 fun e => hx (str_ext.1 e)
    have hnone : headV (at_ + 1) l S = none := by rw [hhd, if_neg (fun h => hx h.1)]
    have rc := readCells_all hP2 32 (by simpa using hlen)
    have cw := canWrite_all hR2 32 rfl
    have ss := storeSeg_all hR2 L (by rw [hlen]; rfl)
    have rf := readCells_all (Blk_setRow hR2 (cs' := L.toArray)) 32 (by simpa using hlen)
    have fp := failP _ (below_setRow kk2 (g := w.heap.size + 1) (by omega) L.toArray) hnone
    simp [go_sem, IntWalk.iteOmega, IntWalk.toNatUp, na6, na7, nge, held2, hNc, hNl, hlt6, hb1, rc, cw, ss, rf, hone, hlen]
    exact fp
  have hb1 : ((strOf x).toList == (strOf (hname (at_ + 1))).toList) = true := by rw [hx]; simp
  simp [go_sem, IntWalk.iteOmega, IntWalk.toNatUp, na6, na7, nge, held2, hNc, hNl, hlt6, hb1, hrc, hPl]
  refine ⟨hPl, ?_⟩
  refine callE_of hnum ?_
  rintro _ w3 ⟨ng, A0, A1, A2, A3, A4, A5, rfl, hNn, k3⟩
  have held3 : heldE (fun _ => True) w1.drew w3 := held2.below k3
  have kx : Below w1.drew.heap.size w1.drew w3 := ext_trans k2 k3
  obtain ⟨Ax, hAx⟩ : ∃ Ax, (#[.slice A0 4 4, .slice A1 8 8, .slice A2 5 5, .slice A3 1 1, .slice A4 5 5, .slice A5 5 5] : Array Value)[at_]? = some (.slice Ax (hcnt (at_ + 1)) (hcnt (at_ + 1))) := by
    rcases (by omega : at_ = 0 ∨ at_ = 1 ∨ at_ = 2 ∨ at_ = 3 ∨ at_ = 4 ∨ at_ = 5) with rfl | rfl | rfl | rfl | rfl | rfl
    · exact ⟨A0, rfl⟩
    · exact ⟨A1, rfl⟩
    · exact ⟨A2, rfl⟩
    · exact ⟨A3, rfl⟩
    · exact ⟨A4, rfl⟩
    · exact ⟨A5, rfl⟩
  have hNx := hNn.cell at_
  rw [hAx] at hNx
  have hNnl := hNn.lt
  have hP3 := hP2.keep k3
  have hR3 := hR2.keep k3
  have kk3 : Below w.heap.size w w3 := kk2.trans (k3.mono kk2.size)
  have hcn8 : hcnt (at_ + 1) ≤ 8 := by unfold hcnt; split <;> omega
  generalize hcq : hcnt (at_ + 1) = cnt at *
  have fadd : IntKind.i64.wrap (1 + (cnt : Int)) = (cnt : Int) + 1 := by rw [IntWalk.i64_in _ (by omega)]; omega
  clear hNc hNl hP2 hR2 hrc hAx hNn
  by_cases hcw : ws.length = cnt
  case neg =>
    have hb2 : (((ws.length : Int) + 1) != ((cnt : Int) + 1)) = true := by simp; omega
    have hnone : headV (at_ + 1) l S = none := by rw [hhd, if_neg (fun h => hcw ((okN_iff _ _).1 h.2).1)]
    have rc := readCells_all hP3 32 (by simpa using hlen)
    have cw := canWrite_all hR3 32 rfl
    have ss := storeSeg_all hR3 L (by rw [hlen]; rfl)
    have rf := readCells_all (Blk_setRow hR3 (cs' := L.toArray)) 32 (by simpa using hlen)
    have fp := failP _ (below_setRow kk3 (g := w.heap.size + 1) (by omega) L.toArray) hnone
    simp [go_sem, IntWalk.iteOmega, IntWalk.toNatUp, na6, na7, nge, held3, hNx, hNnl, hlt6, fadd, hb2, rc, cw, ss, rf, hone, hlen]
    exact fp
  have hb2 : (((ws.length : Int) + 1) != ((cnt : Int) + 1)) = false := by simp; omega
  simp [go_sem, IntWalk.iteOmega, IntWalk.toNatUp, na6, na7, nge, held3, hNx, hNnl, hlt6, fadd, hb2]
  clear held2 held3 hNx hNnl hnum fadd
  have hcell3 : ∀ j y, ws[j]? = some y → w3.cell? ⟨g, o + (j + 1), none⟩ = some (.string (strOf y)) := by
    intro j y hy
    have h1 := hcell (j + 1) (.string (strOf y)) (by simp [strs, hy])
    exact (kx.cell (p := ⟨g, o + (j + 1), none⟩) hg).trans h1
  refine W_loop (fun s wr => ∃ (j : Nat) (lv : Value), j ≤ ws.length ∧ s 1 = .int .i64 at_ ∧ s 3 = .pointer (some ⟨w.heap.size, 0, none⟩) ∧ s 6 = .pointer (some ⟨w.heap.size + 1, 0, none⟩) ∧ s 8 = .slice (some ⟨g, o, none⟩) (ws.length + 1) cp ∧ s 11 = lv ∧ s 12 = .int .i64 ((j : Int) + 1) ∧ (∀ y ∈ ws.take j, (numT [y]).isSome = true) ∧ wr.ownsRow w3.heap.size 2 1 lv j (intCells (valL (ws.take j))) ∧ Below w3.heap.size w3 wr) (fun s _ => ws.length + 1 - (intOf (s 12)).toNat) ?_ ?_
  · exact ⟨0, .slice none 0 0, by omega, by simp [go_sem], by simp [go_sem], by simp [go_sem], by simp [go_sem], by simp [go_sem], by simp [go_sem], by simp, World.ownsRow_nil _ _ _ _, Below.refl _ _⟩
  rintro s wr ⟨j, lv, hj, e1, e3, e6, e8, e11, e12, hall, hown, hbw⟩
  have hPr := hP3.keep hbw
  have hRr := hR3.keep hbw
  have kkr : Below w.heap.size w wr := kk3.trans (hbw.mono kk3.size)
  obtain ⟨-, Al, cl, rfl⟩ := own_sl hown
  by_cases hjl : j < ws.length
  · have hjl' : (j : Int) + 1 < (ws.length : Int) + 1 := by omega
    have hyl : (ws[j]).length ≤ 50000 := by have := hsm _ (List.mem_cons_of_mem _ (List.getElem_mem hjl)); omega
    have hc3 := hcell3 j ws[j] (List.getElem?_eq_getElem hjl)
    have hgl3 : g < w3.heap.size := Nat.lt_of_lt_of_le hg kx.size
    rw [← hbw.cell (p := ⟨g, o + (j + 1), none⟩) hgl3] at hc3
    have htk : ws.take (j + 1) = ws.take j ++ [ws[j]] := by rw [List.take_add_one, List.getElem?_eq_getElem hjl]; rfl
    have hym := List.getElem_mem hjl
    have hsv := small_val ws[j]
    generalize ws[j] = y at *
    simp [go_sem, IntWalk.iteOmega, IntWalk.toNatUp, e1, e3, e6, e8, e11, e12, hjl', hc3]
    refine callE_of (small_any y hyl wr) ?_
    rintro _ w4 ⟨rfl, k4⟩
    have hP4 := hPr.keep k4
    have hR4 := hRr.keep k4
    have hown4 := row_below hown k4
    have kk4 : Below w.heap.size w w4 := kkr.trans (k4.mono kkr.size)
    have hbw4 := ext_trans hbw k4
    rcases hsv with ⟨q1, q2⟩ | ⟨q1, q2⟩
    · rw [q2]
      generalize hv : (numT [y]).getD 0 = v at *
      have hneg : ¬ (v : Int) < 0 := by omega
      simp [go_sem, IntWalk.iteOmega, IntWalk.toNatUp, e1, e3, e6, e8, e11, e12, hneg]
      have hN : Blk (w4.alloc (.cells #[.int .i64 (v : Int)] 2)) w4.heap.size 2 #[.int .i64 (v : Int)] := Blk.self_ rfl
      have hbw5 := ext_trans hbw4 (ext_alloc w4 (.cells #[.int .i64 (v : Int)] 2))
      have hown5 := row_below hown4 (ext_alloc w4 (.cells #[.int .i64 (v : Int)] 2))
      generalize w4.alloc (.cells #[.int .i64 (v : Int)] 2) = w5 at *
      refine appendE w3.heap.size 2 1 8 Tryd.underlying88 el2 hown5 (m := 1) (news := [.int .i64 (v : Int)]) ⟨rfl, fun _ => ⟨_, 0, rfl, hN.lt, fun j u hu => by rw [hN.cell]; simpa using hu⟩⟩ rfl (by unfold maxLen; omega) (by omega) hbw5.size ?_
      intro v' w' own gr _
      obtain ⟨-, A5, c5, rfl⟩ := own_sl own
      simp [go_sem, IntWalk.iteOmega, IntWalk.toNatUp, e1, e3, e6, e8, e11, e12]
      refine roundEnd.mk ⟨j + 1, .slice A5 (j + 1) c5, by omega, by simp [go_sem, e1], by simp [go_sem, e3], by simp [go_sem, e6], by simp [go_sem, e8], by simp [go_sem], by simp [go_sem], ?_, ?_, hbw5.grown gr hbw5.size fun k hk => (hown5.lt k hk).1⟩ ?_
      · rw [htk]
        intro z hz
        rcases List.mem_append.1 hz with hz | hz
        · exact hall z hz
        · rw [List.mem_singleton.1 hz]; exact q1
      · rw [htk, show intCells (valL (ws.take j ++ [y])) = intCells (valL (ws.take j)) ++ [.int .i64 (v : Int)] by simp [intCells, valL, hv]]
        exact own
      · simp [go_sem, intOf]; omega
    · rw [q2]
      have hnone : headV (at_ + 1) l S = none := by
        rw [hhd, if_neg]
        rintro ⟨-, h⟩
        have := ((okN_iff _ _).1 h).2 y hym
        rw [q1] at this
        cases this
      have rc := readCells_all hP4 32 (by simpa using hlen)
      have cw := canWrite_all hR4 32 rfl
      have ss := storeSeg_all hR4 L (by rw [hlen]; rfl)
      have rf := readCells_all (Blk_setRow hR4 (cs' := L.toArray)) 32 (by simpa using hlen)
      have fp := failP _ (below_setRow kk4 (g := w.heap.size + 1) (by omega) L.toArray) hnone
      simp [go_sem, IntWalk.iteOmega, IntWalk.toNatUp, e1, e3, e6, e8, e11, e12, rc, cw, ss, rf, hone, hlen]
      exact fp
  · obtain rfl : j = ws.length := by omega
    have hjl' : ¬ (ws.length : Int) + 1 < (ws.length : Int) + 1 := by omega
    rw [List.take_of_length_le (Nat.le_refl _)] at hall hown
    have hok : okN cnt ws = true := (okN_iff _ _).2 ⟨hcw, hall⟩
    have hvl : (valL ws).length = cnt := by simp [valL, hcw]
    have hrl : Rd wr 1 Al (valL ws).length (intCells (valL ws)) := by
      rw [hvl, ← hcw]
      obtain ⟨A6, c6, e6', hr6, -⟩ := (own_sl hown).1
      cases e6'
      exact hr6
    have hcl : ws.length ≤ cl := by
      obtain ⟨A6, c6, e6', -, -, hc6, -⟩ := (own_sl hown).1
      cases e6'
      exact hc6
    have rc := readCells_all hPr 32 (by simpa using hlen)
    have hvw : (valL ws).length = ws.length := by simp [valL]
    have hwi := rwith_any hn1 hn S.c S.now h1 h2 h3 (valL ws) (by rw [hvl, hcq]) Al cl wr hrl (by rw [hvw]; exact hcl)
    rw [hL, show at_ + 1 - 1 = at_ by omega, hvw, upd_val _ _ _ _ hcw] at hwi
    simp [go_sem, IntWalk.iteOmega, IntWalk.toNatUp, e1, e3, e6, e8, e11, e12, hjl', rc]
    refine callE_of hwi ?_
    rintro _ w5 ⟨rfl, k5⟩
    have hR5 := hRr.keep k5
    have kk5 : Below w.heap.size w w5 := kkr.trans (k5.mono kkr.size)
    have hsome : headV (at_ + 1) l S = some { S with c := upd S.c (hoff (at_ + 1)) cnt ws } := by rw [hhd, if_pos ⟨hx, hok⟩]
    have hone2 : allOne (planL (upd S.c (hoff (at_ + 1)) cnt ws) S.now vv vb vf) = true := planL_one h1 h2 h3
    have hlen2 := planL_len (upd S.c (hoff (at_ + 1)) cnt ws) S.now vv vb vf
    have okP : ∀ w', Below w.heap.size w w' → P (.tuple #[.agg (planL (upd S.c (hoff (at_ + 1)) cnt ws) S.now vv vb vf).toArray, .bool true]) w' := by
      intro w' hb
      rw [← hP]
      refine ⟨?_, hb⟩
      rw [hsome]
      exact ⟨vf, rfl, h3, .inl ⟨rfl, rfl⟩⟩
    generalize planL (upd S.c (hoff (at_ + 1)) cnt ws) S.now vv vb vf = L2 at *
    have cw := canWrite_all hR5 32 rfl
    have ss := storeSeg_all hR5 L2 (by rw [hlen2]; rfl)
    have rf := readCells_all (Blk_setRow hR5 (cs' := L2.toArray)) 32 (by simpa using hlen2)
    have fp := okP _ (below_setRow kk5 (g := w.heap.size + 1) (by omega) L2.toArray)
    simp [go_sem, IntWalk.iteOmega, IntWalk.toNatUp, e1, e3, e6, e8, e11, e12, cw, ss, rf, hone2, hlen2]
    exact fp
end Go.Proofs.YtpmmfabendnhiaaDoor
