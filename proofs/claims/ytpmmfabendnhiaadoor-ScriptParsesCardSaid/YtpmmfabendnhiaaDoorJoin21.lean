/-
  Texts joined: PRWith0, PRWith1, PRWith2, PRWith3.
-/
import Derived.Test.YtpmmfabendnhiaaDoorJoin20
namespace Go.Proofs.YtpmmfabendnhiaaDoor
open Go.RowKit
open Go.Lib (strCells byteCells decDigits)
set_option linter.unusedVariables false
set_option linter.unusedSimpArgs false
set_option maxRecDepth 10000
set_option maxHeartbeats 12800000 in
theorem with0 (c : Nat → Nat) (now : Nat) {vv vb vf : Value} (h1 : vv.oneCell' = true) (h2 : vb.oneCell' = true) (h3 : vf.oneCell' = true) (x0 x1 x2 x3 : Nat) (A : Option Addr) (cap : Nat) (w : World) (hrd : Rd w 1 A 4 (intCells [x0, x1, x2, x3])) (hcap : 4 ≤ cap) :
    callE Tryd.prog 37 #[.agg (planL c now vv vb vf).toArray, .int .i64 0, .slice A 4 cap] w fun v w' => v = .agg (planL (updL c 0 [x0, x1, x2, x3]) now vv vb vf).toArray ∧ Below w.heap.size w w' := by
  obtain ⟨b, o, rfl, hb, hcell⟩ := hrd.cells (by omega)
  have y0 := hcell 0 (.int .i64 (x0 : Int)) rfl
  have y1 := hcell 1 (.int .i64 (x1 : Int)) rfl
  have y2 := hcell 2 (.int .i64 (x2 : Int)) rfl
  have y3 := hcell 3 (.int .i64 (x3 : Int)) rfl
  refine calls_E Tryd.func37 rfl rfl rfl (Nat.le_of_ble_eq_true rfl) ?_
  simp [go_sem, IntWalk.iteOmega, IntWalk.toNatUp]
  rw [planZ_lit]
  have hP0 : Blk ((w.alloc (.cells (planL c now vv vb vf).toArray 39)).alloc (.cells planZ.toArray 39)) w.heap.size 39 (planL c now vv vb vf).toArray := (Blk.self_ rfl).more _
  have hR0 : Blk ((w.alloc (.cells (planL c now vv vb vf).toArray 39)).alloc (.cells planZ.toArray 39)) (w.heap.size + 1) 39 planZ.toArray := Blk.self_ (by simp)
  have k0 : Below w.heap.size w ((w.alloc (.cells (planL c now vv vb vf).toArray 39)).alloc (.cells planZ.toArray 39)) := ext_trans (ext_alloc w _) (ext_alloc _ _)
  generalize (w.alloc (.cells (planL c now vv vb vf).toArray 39)).alloc (.cells planZ.toArray 39) = w0 at *
  have y0 := (k0.cell (p := ⟨b, o + 0, none⟩) hb).trans y0
  have y1 := (k0.cell (p := ⟨b, o + 1, none⟩) hb).trans y1
  have y2 := (k0.cell (p := ⟨b, o + 2, none⟩) hb).trans y2
  have y3 := (k0.cell (p := ⟨b, o + 3, none⟩) hb).trans y3
  simp only [Nat.add_zero] at y0
  have hbP : b ≠ w.heap.size := by omega
  have hbl : b < w0.heap.size := by have := k0.size; omega
  have z0 := (hP0.cell 0).trans (pl_lo c now vv vb vf ⟨0, by omega⟩)
  have z1 := (hP0.cell 1).trans (pl_lo c now vv vb vf ⟨1, by omega⟩)
  have z2 := (hP0.cell 2).trans (pl_lo c now vv vb vf ⟨2, by omega⟩)
  have z3 := (hP0.cell 3).trans (pl_lo c now vv vb vf ⟨3, by omega⟩)
  have hf := hP0.frozen
  have dy0 : w0.drew.cell? _ = _ := y0
  have dz0 : w0.drew.cell? _ = _ := z0
  have dy1 : w0.drew.cell? _ = _ := y1
  have dz1 : w0.drew.cell? _ = _ := z1
  have dy2 : w0.drew.cell? _ = _ := y2
  have dz2 : w0.drew.cell? _ = _ := z2
  have dy3 : w0.drew.cell? _ = _ := y3
  have dz3 : w0.drew.cell? _ = _ := z3
  have dhf : ∀ i, w0.drew.frozen? ⟨w.heap.size, i, none⟩ = false := hf
  have hh0 : heldE (fun g => ¬ g = w.heap.size) w0.drew w0.drew := held_refl _ w0.drew
  have hh1 : heldE (fun g => ¬ g = w.heap.size) w0.drew ((w0).setCell ⟨w.heap.size, 0, none⟩ (.int .i64 (x0 : Int))).drew := hh0.setd (g := w.heap.size) (o := 0) (.int .i64 (x0 : Int)) (fun h => h rfl)
  have hh2 : heldE (fun g => ¬ g = w.heap.size) w0.drew (((w0).setCell ⟨w.heap.size, 0, none⟩ (.int .i64 (x0 : Int))).setCell ⟨w.heap.size, 1, none⟩ (.int .i64 (x1 : Int))).drew := hh1.setd (g := w.heap.size) (o := 1) (.int .i64 (x1 : Int)) (fun h => h rfl)
  have hh3 : heldE (fun g => ¬ g = w.heap.size) w0.drew ((((w0).setCell ⟨w.heap.size, 0, none⟩ (.int .i64 (x0 : Int))).setCell ⟨w.heap.size, 1, none⟩ (.int .i64 (x1 : Int))).setCell ⟨w.heap.size, 2, none⟩ (.int .i64 (x2 : Int))).drew := hh2.setd (g := w.heap.size) (o := 2) (.int .i64 (x2 : Int)) (fun h => h rfl)
  have hh4 : heldE (fun g => ¬ g = w.heap.size) w0.drew (((((w0).setCell ⟨w.heap.size, 0, none⟩ (.int .i64 (x0 : Int))).setCell ⟨w.heap.size, 1, none⟩ (.int .i64 (x1 : Int))).setCell ⟨w.heap.size, 2, none⟩ (.int .i64 (x2 : Int))).setCell ⟨w.heap.size, 3, none⟩ (.int .i64 (x3 : Int))).drew := hh3.setd (g := w.heap.size) (o := 3) (.int .i64 (x3 : Int)) (fun h => h rfl)
  have hQ0 := hP0
  have hS0 := hR0
  have kk0 := k0
  have hQ1 := Blk_set (o := 0) (v := .int .i64 (x0 : Int)) hQ0
  rw [pl_set _ now vv vb vf ⟨0, by omega⟩ x0] at hQ1
  have hS1 := hS0.farCell (b := w.heap.size) (o := 0) (by omega) (.int .i64 (x0 : Int))
  have kk1 := kk0.setCell (p := ⟨w.heap.size, 0, none⟩) (Nat.le_refl _) (.int .i64 (x0 : Int))
  have hQ2 := Blk_set (o := 1) (v := .int .i64 (x1 : Int)) hQ1
  rw [pl_set _ now vv vb vf ⟨1, by omega⟩ x1] at hQ2
  have hS2 := hS1.farCell (b := w.heap.size) (o := 1) (by omega) (.int .i64 (x1 : Int))
  have kk2 := kk1.setCell (p := ⟨w.heap.size, 1, none⟩) (Nat.le_refl _) (.int .i64 (x1 : Int))
  have hQ3 := Blk_set (o := 2) (v := .int .i64 (x2 : Int)) hQ2
  rw [pl_set _ now vv vb vf ⟨2, by omega⟩ x2] at hQ3
  have hS3 := hS2.farCell (b := w.heap.size) (o := 2) (by omega) (.int .i64 (x2 : Int))
  have kk3 := kk2.setCell (p := ⟨w.heap.size, 2, none⟩) (Nat.le_refl _) (.int .i64 (x2 : Int))
  have hQ4 := Blk_set (o := 3) (v := .int .i64 (x3 : Int)) hQ3
  rw [pl_set _ now vv vb vf ⟨3, by omega⟩ x3] at hQ4
  have hS4 := hS3.farCell (b := w.heap.size) (o := 3) (by omega) (.int .i64 (x3 : Int))
  have kk4 := kk3.setCell (p := ⟨w.heap.size, 3, none⟩) (Nat.le_refl _) (.int .i64 (x3 : Int))
  have hQ4 := hQ4.drew
  have hS4 := hS4.drew
  have kk4 := kk4.drew
  have hrc := readCells_all hQ4 32 rfl
  have hwr := canWrite_all hS4 32 rfl
  have e : planL (set1 (set1 (set1 (set1 (c) 0 x0) 1 x1) 2 x2) 3 x3) now vv vb vf = planL (updL c 0 [x0, x1, x2, x3]) now vv vb vf := rfl
  simp only [e] at hrc
  have hone : allOne (planL (updL c 0 [x0, x1, x2, x3]) now vv vb vf) = true := planL_one h1 h2 h3
  have hlen := planL_len (updL c 0 [x0, x1, x2, x3]) now vv vb vf
  generalize hL : planL (updL c 0 [x0, x1, x2, x3]) now vv vb vf = L at *
  have hst := storeSeg_all hS4 L hlen
  have hrf := readCells_all (Blk_setRow hS4 (cs' := L.toArray)) 32 (by simpa using hlen)
  have hbf := below_setRow kk4 (g := w.heap.size + 1) (by omega) L.toArray
  clear hQ0 hS0 kk0 hQ1 hS1 kk1 hQ2 hS2 kk2 hQ3 hS3 kk3 e hL hrd hcell hR0 hP0 k0 hcap
  refine W_flow (fun g => g ≠ w.heap.size) (.pure 0 (.pure 1 (.pure 2 (.pure 3 (.pure 4 (.pure 5 (.pure 6 (.pure 7 (.pure 8 (.pure 9 (.pure 10 (.pure 11 (.pure 12 (.pure 13 (.pure 14 (.pure 15 (.one 16 (.done)))))))))))))))))) follows (by kernel_rfl) ?_
  simp [go_sem, IntWalk.iteOmega, IntWalk.toNatUp, dy0, dy1, dy2, dy3, z0, z1, z2, z3, hf, hbP, hbl, seg4o, seg5o, hh1, hh2, hh3, hh4, hrc, hwr, hone, hlen, hst, hrf]
  exact hbf
end Go.Proofs.YtpmmfabendnhiaaDoor
namespace Go.Proofs.YtpmmfabendnhiaaDoor
open Go.RowKit
open Go.Lib (strCells byteCells decDigits)
set_option linter.unusedVariables false
set_option linter.unusedSimpArgs false
set_option maxRecDepth 10000
set_option maxHeartbeats 12800000 in
theorem with1 (c : Nat → Nat) (now : Nat) {vv vb vf : Value} (h1 : vv.oneCell' = true) (h2 : vb.oneCell' = true) (h3 : vf.oneCell' = true) (x0 x1 x2 x3 x4 x5 x6 x7 : Nat) (A : Option Addr) (cap : Nat) (w : World) (hrd : Rd w 1 A 8 (intCells [x0, x1, x2, x3, x4, x5, x6, x7])) (hcap : 8 ≤ cap) :
    callE Tryd.prog 37 #[.agg (planL c now vv vb vf).toArray, .int .i64 1, .slice A 8 cap] w fun v w' => v = .agg (planL (updL c 4 [x0, x1, x2, x3, x4, x5, x6, x7]) now vv vb vf).toArray ∧ Below w.heap.size w w' := by
  obtain ⟨b, o, rfl, hb, hcell⟩ := hrd.cells (by omega)
  have y0 := hcell 0 (.int .i64 (x0 : Int)) rfl
  have y1 := hcell 1 (.int .i64 (x1 : Int)) rfl
  have y2 := hcell 2 (.int .i64 (x2 : Int)) rfl
  have y3 := hcell 3 (.int .i64 (x3 : Int)) rfl
  have y4 := hcell 4 (.int .i64 (x4 : Int)) rfl
  have y5 := hcell 5 (.int .i64 (x5 : Int)) rfl
  have y6 := hcell 6 (.int .i64 (x6 : Int)) rfl
  have y7 := hcell 7 (.int .i64 (x7 : Int)) rfl
  refine calls_E Tryd.func37 rfl rfl rfl (Nat.le_of_ble_eq_true rfl) ?_
  simp [go_sem, IntWalk.iteOmega, IntWalk.toNatUp]
  rw [planZ_lit]
  have hP0 : Blk ((w.alloc (.cells (planL c now vv vb vf).toArray 39)).alloc (.cells planZ.toArray 39)) w.heap.size 39 (planL c now vv vb vf).toArray := (Blk.self_ rfl).more _
  have hR0 : Blk ((w.alloc (.cells (planL c now vv vb vf).toArray 39)).alloc (.cells planZ.toArray 39)) (w.heap.size + 1) 39 planZ.toArray := Blk.self_ (by simp)
  have k0 : Below w.heap.size w ((w.alloc (.cells (planL c now vv vb vf).toArray 39)).alloc (.cells planZ.toArray 39)) := ext_trans (ext_alloc w _) (ext_alloc _ _)
  generalize (w.alloc (.cells (planL c now vv vb vf).toArray 39)).alloc (.cells planZ.toArray 39) = w0 at *
  have y0 := (k0.cell (p := ⟨b, o + 0, none⟩) hb).trans y0
  have y1 := (k0.cell (p := ⟨b, o + 1, none⟩) hb).trans y1
  have y2 := (k0.cell (p := ⟨b, o + 2, none⟩) hb).trans y2
  have y3 := (k0.cell (p := ⟨b, o + 3, none⟩) hb).trans y3
  have y4 := (k0.cell (p := ⟨b, o + 4, none⟩) hb).trans y4
  have y5 := (k0.cell (p := ⟨b, o + 5, none⟩) hb).trans y5
  have y6 := (k0.cell (p := ⟨b, o + 6, none⟩) hb).trans y6
  have y7 := (k0.cell (p := ⟨b, o + 7, none⟩) hb).trans y7
  simp only [Nat.add_zero] at y0
  have hbP : b ≠ w.heap.size := by omega
  have hbl : b < w0.heap.size := by have := k0.size; omega
  have z0 := (hP0.cell 4).trans (pl_lo c now vv vb vf ⟨4, by omega⟩)
  have z1 := (hP0.cell 5).trans (pl_lo c now vv vb vf ⟨5, by omega⟩)
  have z2 := (hP0.cell 6).trans (pl_lo c now vv vb vf ⟨6, by omega⟩)
  have z3 := (hP0.cell 7).trans (pl_lo c now vv vb vf ⟨7, by omega⟩)
  have z4 := (hP0.cell 8).trans (pl_lo c now vv vb vf ⟨8, by omega⟩)
  have z5 := (hP0.cell 9).trans (pl_lo c now vv vb vf ⟨9, by omega⟩)
  have z6 := (hP0.cell 10).trans (pl_lo c now vv vb vf ⟨10, by omega⟩)
  have z7 := (hP0.cell 11).trans (pl_lo c now vv vb vf ⟨11, by omega⟩)
  have hf := hP0.frozen
  have dy0 : w0.drew.cell? _ = _ := y0
  have dz0 : w0.drew.cell? _ = _ := z0
  have dy1 : w0.drew.cell? _ = _ := y1
  have dz1 : w0.drew.cell? _ = _ := z1
  have dy2 : w0.drew.cell? _ = _ := y2
  have dz2 : w0.drew.cell? _ = _ := z2
  have dy3 : w0.drew.cell? _ = _ := y3
  have dz3 : w0.drew.cell? _ = _ := z3
  have dy4 : w0.drew.cell? _ = _ := y4
  have dz4 : w0.drew.cell? _ = _ := z4
  have dy5 : w0.drew.cell? _ = _ := y5
  have dz5 : w0.drew.cell? _ = _ := z5
  have dy6 : w0.drew.cell? _ = _ := y6
  have dz6 : w0.drew.cell? _ = _ := z6
  have dy7 : w0.drew.cell? _ = _ := y7
  have dz7 : w0.drew.cell? _ = _ := z7
  have dhf : ∀ i, w0.drew.frozen? ⟨w.heap.size, i, none⟩ = false := hf
  have hh0 : heldE (fun g => ¬ g = w.heap.size) w0.drew w0.drew := held_refl _ w0.drew
  have hh1 : heldE (fun g => ¬ g = w.heap.size) w0.drew ((w0).setCell ⟨w.heap.size, 4, none⟩ (.int .i64 (x0 : Int))).drew := hh0.setd (g := w.heap.size) (o := 4) (.int .i64 (x0 : Int)) (fun h => h rfl)
  have hh2 : heldE (fun g => ¬ g = w.heap.size) w0.drew (((w0).setCell ⟨w.heap.size, 4, none⟩ (.int .i64 (x0 : Int))).setCell ⟨w.heap.size, 5, none⟩ (.int .i64 (x1 : Int))).drew := hh1.setd (g := w.heap.size) (o := 5) (.int .i64 (x1 : Int)) (fun h => h rfl)
  have hh3 : heldE (fun g => ¬ g = w.heap.size) w0.drew ((((w0).setCell ⟨w.heap.size, 4, none⟩ (.int .i64 (x0 : Int))).setCell ⟨w.heap.size, 5, none⟩ (.int .i64 (x1 : Int))).setCell ⟨w.heap.size, 6, none⟩ (.int .i64 (x2 : Int))).drew := hh2.setd (g := w.heap.size) (o := 6) (.int .i64 (x2 : Int)) (fun h => h rfl)
  have hh4 : heldE (fun g => ¬ g = w.heap.size) w0.drew (((((w0).setCell ⟨w.heap.size, 4, none⟩ (.int .i64 (x0 : Int))).setCell ⟨w.heap.size, 5, none⟩ (.int .i64 (x1 : Int))).setCell ⟨w.heap.size, 6, none⟩ (.int .i64 (x2 : Int))).setCell ⟨w.heap.size, 7, none⟩ (.int .i64 (x3 : Int))).drew := hh3.setd (g := w.heap.size) (o := 7) (.int .i64 (x3 : Int)) (fun h => h rfl)
  have hh5 : heldE (fun g => ¬ g = w.heap.size) w0.drew ((((((w0).setCell ⟨w.heap.size, 4, none⟩ (.int .i64 (x0 : Int))).setCell ⟨w.heap.size, 5, none⟩ (.int .i64 (x1 : Int))).setCell ⟨w.heap.size, 6, none⟩ (.int .i64 (x2 : Int))).setCell ⟨w.heap.size, 7, none⟩ (.int .i64 (x3 : Int))).setCell ⟨w.heap.size, 8, none⟩ (.int .i64 (x4 : Int))).drew := hh4.setd (g := w.heap.size) (o := 8) (.int .i64 (x4 : Int)) (fun h => h rfl)
  have hh6 : heldE (fun g => ¬ g = w.heap.size) w0.drew (((((((w0).setCell ⟨w.heap.size, 4, none⟩ (.int .i64 (x0 : Int))).setCell ⟨w.heap.size, 5, none⟩ (.int .i64 (x1 : Int))).setCell ⟨w.heap.size, 6, none⟩ (.int .i64 (x2 : Int))).setCell ⟨w.heap.size, 7, none⟩ (.int .i64 (x3 : Int))).setCell ⟨w.heap.size, 8, none⟩ (.int .i64 (x4 : Int))).setCell ⟨w.heap.size, 9, none⟩ (.int .i64 (x5 : Int))).drew := hh5.setd (g := w.heap.size) (o := 9) (.int .i64 (x5 : Int)) (fun h => h rfl)
  have hh7 : heldE (fun g => ¬ g = w.heap.size) w0.drew ((((((((w0).setCell ⟨w.heap.size, 4, none⟩ (.int .i64 (x0 : Int))).setCell ⟨w.heap.size, 5, none⟩ (.int .i64 (x1 : Int))).setCell ⟨w.heap.size, 6, none⟩ (.int .i64 (x2 : Int))).setCell ⟨w.heap.size, 7, none⟩ (.int .i64 (x3 : Int))).setCell ⟨w.heap.size, 8, none⟩ (.int .i64 (x4 : Int))).setCell ⟨w.heap.size, 9, none⟩ (.int .i64 (x5 : Int))).setCell ⟨w.heap.size, 10, none⟩ (.int .i64 (x6 : Int))).drew := hh6.setd (g := w.heap.size) (o := 10) (.int .i64 (x6 : Int)) (fun h => h rfl)
  have hh8 : heldE (fun g => ¬ g = w.heap.size) w0.drew (((((((((w0).setCell ⟨w.heap.size, 4, none⟩ (.int .i64 (x0 : Int))).setCell ⟨w.heap.size, 5, none⟩ (.int .i64 (x1 : Int))).setCell ⟨w.heap.size, 6, none⟩ (.int .i64 (x2 : Int))).setCell ⟨w.heap.size, 7, none⟩ (.int .i64 (x3 : Int))).setCell ⟨w.heap.size, 8, none⟩ (.int .i64 (x4 : Int))).setCell ⟨w.heap.size, 9, none⟩ (.int .i64 (x5 : Int))).setCell ⟨w.heap.size, 10, none⟩ (.int .i64 (x6 : Int))).setCell ⟨w.heap.size, 11, none⟩ (.int .i64 (x7 : Int))).drew := hh7.setd (g := w.heap.size) (o := 11) (.int .i64 (x7 : Int)) (fun h => h rfl)
  have hQ0 := hP0
  have hS0 := hR0
  have kk0 := k0
  have hQ1 := Blk_set (o := 4) (v := .int .i64 (x0 : Int)) hQ0
  rw [pl_set _ now vv vb vf ⟨4, by omega⟩ x0] at hQ1
  have hS1 := hS0.farCell (b := w.heap.size) (o := 4) (by omega) (.int .i64 (x0 : Int))
  have kk1 := kk0.setCell (p := ⟨w.heap.size, 4, none⟩) (Nat.le_refl _) (.int .i64 (x0 : Int))
  have hQ2 := Blk_set (o := 5) (v := .int .i64 (x1 : Int)) hQ1
  rw [pl_set _ now vv vb vf ⟨5, by omega⟩ x1] at hQ2
  have hS2 := hS1.farCell (b := w.heap.size) (o := 5) (by omega) (.int .i64 (x1 : Int))
  have kk2 := kk1.setCell (p := ⟨w.heap.size, 5, none⟩) (Nat.le_refl _) (.int .i64 (x1 : Int))
  have hQ3 := Blk_set (o := 6) (v := .int .i64 (x2 : Int)) hQ2
  rw [pl_set _ now vv vb vf ⟨6, by omega⟩ x2] at hQ3
  have hS3 := hS2.farCell (b := w.heap.size) (o := 6) (by omega) (.int .i64 (x2 : Int))
  have kk3 := kk2.setCell (p := ⟨w.heap.size, 6, none⟩) (Nat.le_refl _) (.int .i64 (x2 : Int))
  have hQ4 := Blk_set (o := 7) (v := .int .i64 (x3 : Int)) hQ3
  rw [pl_set _ now vv vb vf ⟨7, by omega⟩ x3] at hQ4
  have hS4 := hS3.farCell (b := w.heap.size) (o := 7) (by omega) (.int .i64 (x3 : Int))
  have kk4 := kk3.setCell (p := ⟨w.heap.size, 7, none⟩) (Nat.le_refl _) (.int .i64 (x3 : Int))
  have hQ5 := Blk_set (o := 8) (v := .int .i64 (x4 : Int)) hQ4
  rw [pl_set _ now vv vb vf ⟨8, by omega⟩ x4] at hQ5
  have hS5 := hS4.farCell (b := w.heap.size) (o := 8) (by omega) (.int .i64 (x4 : Int))
  have kk5 := kk4.setCell (p := ⟨w.heap.size, 8, none⟩) (Nat.le_refl _) (.int .i64 (x4 : Int))
  have hQ6 := Blk_set (o := 9) (v := .int .i64 (x5 : Int)) hQ5
  rw [pl_set _ now vv vb vf ⟨9, by omega⟩ x5] at hQ6
  have hS6 := hS5.farCell (b := w.heap.size) (o := 9) (by omega) (.int .i64 (x5 : Int))
  have kk6 := kk5.setCell (p := ⟨w.heap.size, 9, none⟩) (Nat.le_refl _) (.int .i64 (x5 : Int))
  have hQ7 := Blk_set (o := 10) (v := .int .i64 (x6 : Int)) hQ6
  rw [pl_set _ now vv vb vf ⟨10, by omega⟩ x6] at hQ7
  have hS7 := hS6.farCell (b := w.heap.size) (o := 10) (by omega) (.int .i64 (x6 : Int))
  have kk7 := kk6.setCell (p := ⟨w.heap.size, 10, none⟩) (Nat.le_refl _) (.int .i64 (x6 : Int))
  have hQ8 := Blk_set (o := 11) (v := .int .i64 (x7 : Int)) hQ7
  rw [pl_set _ now vv vb vf ⟨11, by omega⟩ x7] at hQ8
  have hS8 := hS7.farCell (b := w.heap.size) (o := 11) (by omega) (.int .i64 (x7 : Int))
  have kk8 := kk7.setCell (p := ⟨w.heap.size, 11, none⟩) (Nat.le_refl _) (.int .i64 (x7 : Int))
  have hQ8 := hQ8.drew
  have hS8 := hS8.drew
  have kk8 := kk8.drew
  have hrc := readCells_all hQ8 32 rfl
  have hwr := canWrite_all hS8 32 rfl
  have e : planL (set1 (set1 (set1 (set1 (set1 (set1 (set1 (set1 (c) 4 x0) 5 x1) 6 x2) 7 x3) 8 x4) 9 x5) 10 x6) 11 x7) now vv vb vf = planL (updL c 4 [x0, x1, x2, x3, x4, x5, x6, x7]) now vv vb vf := rfl
  simp only [e] at hrc
  have hone : allOne (planL (updL c 4 [x0, x1, x2, x3, x4, x5, x6, x7]) now vv vb vf) = true := planL_one h1 h2 h3
  have hlen := planL_len (updL c 4 [x0, x1, x2, x3, x4, x5, x6, x7]) now vv vb vf
  generalize hL : planL (updL c 4 [x0, x1, x2, x3, x4, x5, x6, x7]) now vv vb vf = L at *
  have hst := storeSeg_all hS8 L hlen
  have hrf := readCells_all (Blk_setRow hS8 (cs' := L.toArray)) 32 (by simpa using hlen)
  have hbf := below_setRow kk8 (g := w.heap.size + 1) (by omega) L.toArray
  clear hQ0 hS0 kk0 hQ1 hS1 kk1 hQ2 hS2 kk2 hQ3 hS3 kk3 hQ4 hS4 kk4 hQ5 hS5 kk5 hQ6 hS6 kk6 hQ7 hS7 kk7 e hL hrd hcell hR0 hP0 k0 hcap
  refine W_flow (fun g => g ≠ w.heap.size) (.pure 0 (.pure 1 (.pure 2 (.pure 3 (.pure 4 (.pure 5 (.pure 6 (.pure 7 (.pure 8 (.pure 9 (.pure 10 (.pure 11 (.pure 12 (.pure 13 (.pure 14 (.pure 15 (.pure 16 (.pure 17 (.pure 18 (.pure 19 (.pure 20 (.pure 21 (.pure 22 (.pure 23 (.pure 24 (.pure 25 (.pure 26 (.pure 27 (.pure 28 (.pure 29 (.pure 30 (.pure 31 (.pure 32 (.pure 33 (.one 34 (.pure 35 (.pure 36 (.one 37 (.pure 38 (.pure 39 (.one 40 (.pure 41 (.pure 42 (.one 43 (.pure 44 (.pure 45 (.one 46 (.pure 47 (.pure 48 (.one 49 (.pure 50 (.pure 51 (.one 52 (.pure 53 (.pure 54 (.one 55 (.done))))))))))))))))))))))))))))))))))))))))))))))))))))))))) follows (by kernel_rfl) ?_
  simp [go_sem, IntWalk.iteOmega, IntWalk.toNatUp, dy0, dy1, dy2, dy3, dy4, dy5, dy6, dy7, z0, z1, z2, z3, z4, z5, z6, z7, hf, hbP, hbl, seg4o, seg5o, hh1, hh2, hh3, hh4, hh5, hh6, hh7, hh8, hrc, hwr, hone, hlen, hst, hrf]
  exact hbf
end Go.Proofs.YtpmmfabendnhiaaDoor
namespace Go.Proofs.YtpmmfabendnhiaaDoor
open Go.RowKit
open Go.Lib (strCells byteCells decDigits)
set_option linter.unusedVariables false
set_option linter.unusedSimpArgs false
set_option maxRecDepth 10000
set_option maxHeartbeats 12800000 in
theorem with2 (c : Nat → Nat) (now : Nat) {vv vb vf : Value} (h1 : vv.oneCell' = true) (h2 : vb.oneCell' = true) (h3 : vf.oneCell' = true) (x0 x1 x2 x3 x4 : Nat) (A : Option Addr) (cap : Nat) (w : World) (hrd : Rd w 1 A 5 (intCells [x0, x1, x2, x3, x4])) (hcap : 5 ≤ cap) :
    callE Tryd.prog 37 #[.agg (planL c now vv vb vf).toArray, .int .i64 2, .slice A 5 cap] w fun v w' => v = .agg (planL (updL c 12 [x0, x1, x2, x3, x4]) now vv vb vf).toArray ∧ Below w.heap.size w w' := by
  obtain ⟨b, o, rfl, hb, hcell⟩ := hrd.cells (by omega)
  have y0 := hcell 0 (.int .i64 (x0 : Int)) rfl
  have y1 := hcell 1 (.int .i64 (x1 : Int)) rfl
  have y2 := hcell 2 (.int .i64 (x2 : Int)) rfl
  have y3 := hcell 3 (.int .i64 (x3 : Int)) rfl
  have y4 := hcell 4 (.int .i64 (x4 : Int)) rfl
  refine calls_E Tryd.func37 rfl rfl rfl (Nat.le_of_ble_eq_true rfl) ?_
  simp [go_sem, IntWalk.iteOmega, IntWalk.toNatUp]
  rw [planZ_lit]
  have hP0 : Blk ((w.alloc (.cells (planL c now vv vb vf).toArray 39)).alloc (.cells planZ.toArray 39)) w.heap.size 39 (planL c now vv vb vf).toArray := (Blk.self_ rfl).more _
  have hR0 : Blk ((w.alloc (.cells (planL c now vv vb vf).toArray 39)).alloc (.cells planZ.toArray 39)) (w.heap.size + 1) 39 planZ.toArray := Blk.self_ (by simp)
  have k0 : Below w.heap.size w ((w.alloc (.cells (planL c now vv vb vf).toArray 39)).alloc (.cells planZ.toArray 39)) := ext_trans (ext_alloc w _) (ext_alloc _ _)
  generalize (w.alloc (.cells (planL c now vv vb vf).toArray 39)).alloc (.cells planZ.toArray 39) = w0 at *
  have y0 := (k0.cell (p := ⟨b, o + 0, none⟩) hb).trans y0
  have y1 := (k0.cell (p := ⟨b, o + 1, none⟩) hb).trans y1
  have y2 := (k0.cell (p := ⟨b, o + 2, none⟩) hb).trans y2
  have y3 := (k0.cell (p := ⟨b, o + 3, none⟩) hb).trans y3
  have y4 := (k0.cell (p := ⟨b, o + 4, none⟩) hb).trans y4
  simp only [Nat.add_zero] at y0
  have hbP : b ≠ w.heap.size := by omega
  have hbl : b < w0.heap.size := by have := k0.size; omega
  have z0 := (hP0.cell 12).trans (pl_lo c now vv vb vf ⟨12, by omega⟩)
  have z1 := (hP0.cell 13).trans (pl_lo c now vv vb vf ⟨13, by omega⟩)
  have z2 := (hP0.cell 14).trans (pl_lo c now vv vb vf ⟨14, by omega⟩)
  have z3 := (hP0.cell 15).trans (pl_lo c now vv vb vf ⟨15, by omega⟩)
  have z4 := (hP0.cell 16).trans (pl_lo c now vv vb vf ⟨16, by omega⟩)
  have hf := hP0.frozen
  have dy0 : w0.drew.cell? _ = _ := y0
  have dz0 : w0.drew.cell? _ = _ := z0
  have dy1 : w0.drew.cell? _ = _ := y1
  have dz1 : w0.drew.cell? _ = _ := z1
  have dy2 : w0.drew.cell? _ = _ := y2
  have dz2 : w0.drew.cell? _ = _ := z2
  have dy3 : w0.drew.cell? _ = _ := y3
  have dz3 : w0.drew.cell? _ = _ := z3
  have dy4 : w0.drew.cell? _ = _ := y4
  have dz4 : w0.drew.cell? _ = _ := z4
  have dhf : ∀ i, w0.drew.frozen? ⟨w.heap.size, i, none⟩ = false := hf
  have hh0 : heldE (fun g => ¬ g = w.heap.size) w0.drew w0.drew := held_refl _ w0.drew
  have hh1 : heldE (fun g => ¬ g = w.heap.size) w0.drew ((w0).setCell ⟨w.heap.size, 12, none⟩ (.int .i64 (x0 : Int))).drew := hh0.setd (g := w.heap.size) (o := 12) (.int .i64 (x0 : Int)) (fun h => h rfl)
  have hh2 : heldE (fun g => ¬ g = w.heap.size) w0.drew (((w0).setCell ⟨w.heap.size, 12, none⟩ (.int .i64 (x0 : Int))).setCell ⟨w.heap.size, 13, none⟩ (.int .i64 (x1 : Int))).drew := hh1.setd (g := w.heap.size) (o := 13) (.int .i64 (x1 : Int)) (fun h => h rfl)
  have hh3 : heldE (fun g => ¬ g = w.heap.size) w0.drew ((((w0).setCell ⟨w.heap.size, 12, none⟩ (.int .i64 (x0 : Int))).setCell ⟨w.heap.size, 13, none⟩ (.int .i64 (x1 : Int))).setCell ⟨w.heap.size, 14, none⟩ (.int .i64 (x2 : Int))).drew := hh2.setd (g := w.heap.size) (o := 14) (.int .i64 (x2 : Int)) (fun h => h rfl)
  have hh4 : heldE (fun g => ¬ g = w.heap.size) w0.drew (((((w0).setCell ⟨w.heap.size, 12, none⟩ (.int .i64 (x0 : Int))).setCell ⟨w.heap.size, 13, none⟩ (.int .i64 (x1 : Int))).setCell ⟨w.heap.size, 14, none⟩ (.int .i64 (x2 : Int))).setCell ⟨w.heap.size, 15, none⟩ (.int .i64 (x3 : Int))).drew := hh3.setd (g := w.heap.size) (o := 15) (.int .i64 (x3 : Int)) (fun h => h rfl)
  have hh5 : heldE (fun g => ¬ g = w.heap.size) w0.drew ((((((w0).setCell ⟨w.heap.size, 12, none⟩ (.int .i64 (x0 : Int))).setCell ⟨w.heap.size, 13, none⟩ (.int .i64 (x1 : Int))).setCell ⟨w.heap.size, 14, none⟩ (.int .i64 (x2 : Int))).setCell ⟨w.heap.size, 15, none⟩ (.int .i64 (x3 : Int))).setCell ⟨w.heap.size, 16, none⟩ (.int .i64 (x4 : Int))).drew := hh4.setd (g := w.heap.size) (o := 16) (.int .i64 (x4 : Int)) (fun h => h rfl)
  have hQ0 := hP0
  have hS0 := hR0
  have kk0 := k0
  have hQ1 := Blk_set (o := 12) (v := .int .i64 (x0 : Int)) hQ0
  rw [pl_set _ now vv vb vf ⟨12, by omega⟩ x0] at hQ1
  have hS1 := hS0.farCell (b := w.heap.size) (o := 12) (by omega) (.int .i64 (x0 : Int))
  have kk1 := kk0.setCell (p := ⟨w.heap.size, 12, none⟩) (Nat.le_refl _) (.int .i64 (x0 : Int))
  have hQ2 := Blk_set (o := 13) (v := .int .i64 (x1 : Int)) hQ1
  rw [pl_set _ now vv vb vf ⟨13, by omega⟩ x1] at hQ2
  have hS2 := hS1.farCell (b := w.heap.size) (o := 13) (by omega) (.int .i64 (x1 : Int))
  have kk2 := kk1.setCell (p := ⟨w.heap.size, 13, none⟩) (Nat.le_refl _) (.int .i64 (x1 : Int))
  have hQ3 := Blk_set (o := 14) (v := .int .i64 (x2 : Int)) hQ2
  rw [pl_set _ now vv vb vf ⟨14, by omega⟩ x2] at hQ3
  have hS3 := hS2.farCell (b := w.heap.size) (o := 14) (by omega) (.int .i64 (x2 : Int))
  have kk3 := kk2.setCell (p := ⟨w.heap.size, 14, none⟩) (Nat.le_refl _) (.int .i64 (x2 : Int))
  have hQ4 := Blk_set (o := 15) (v := .int .i64 (x3 : Int)) hQ3
  rw [pl_set _ now vv vb vf ⟨15, by omega⟩ x3] at hQ4
  have hS4 := hS3.farCell (b := w.heap.size) (o := 15) (by omega) (.int .i64 (x3 : Int))
  have kk4 := kk3.setCell (p := ⟨w.heap.size, 15, none⟩) (Nat.le_refl _) (.int .i64 (x3 : Int))
  have hQ5 := Blk_set (o := 16) (v := .int .i64 (x4 : Int)) hQ4
  rw [pl_set _ now vv vb vf ⟨16, by omega⟩ x4] at hQ5
  have hS5 := hS4.farCell (b := w.heap.size) (o := 16) (by omega) (.int .i64 (x4 : Int))
  have kk5 := kk4.setCell (p := ⟨w.heap.size, 16, none⟩) (Nat.le_refl _) (.int .i64 (x4 : Int))
  have hQ5 := hQ5.drew
  have hS5 := hS5.drew
  have kk5 := kk5.drew
  have hrc := readCells_all hQ5 32 rfl
  have hwr := canWrite_all hS5 32 rfl
  have e : planL (set1 (set1 (set1 (set1 (set1 (c) 12 x0) 13 x1) 14 x2) 15 x3) 16 x4) now vv vb vf = planL (updL c 12 [x0, x1, x2, x3, x4]) now vv vb vf := rfl
  simp only [e] at hrc
  have hone : allOne (planL (updL c 12 [x0, x1, x2, x3, x4]) now vv vb vf) = true := planL_one h1 h2 h3
  have hlen := planL_len (updL c 12 [x0, x1, x2, x3, x4]) now vv vb vf
  generalize hL : planL (updL c 12 [x0, x1, x2, x3, x4]) now vv vb vf = L at *
  have hst := storeSeg_all hS5 L hlen
  have hrf := readCells_all (Blk_setRow hS5 (cs' := L.toArray)) 32 (by simpa using hlen)
  have hbf := below_setRow kk5 (g := w.heap.size + 1) (by omega) L.toArray
  clear hQ0 hS0 kk0 hQ1 hS1 kk1 hQ2 hS2 kk2 hQ3 hS3 kk3 hQ4 hS4 kk4 e hL hrd hcell hR0 hP0 k0 hcap
  refine W_flow (fun g => g ≠ w.heap.size) (.pure 0 (.pure 1 (.pure 2 (.pure 3 (.pure 4 (.pure 5 (.pure 6 (.pure 7 (.pure 8 (.pure 9 (.pure 10 (.pure 11 (.pure 12 (.pure 13 (.pure 14 (.pure 15 (.pure 16 (.pure 17 (.pure 18 (.one 19 (.done))))))))))))))))))))) follows (by kernel_rfl) ?_
  simp [go_sem, IntWalk.iteOmega, IntWalk.toNatUp, dy0, dy1, dy2, dy3, dy4, z0, z1, z2, z3, z4, hf, hbP, hbl, seg4o, seg5o, hh1, hh2, hh3, hh4, hh5, hrc, hwr, hone, hlen, hst, hrf]
  exact hbf
end Go.Proofs.YtpmmfabendnhiaaDoor
namespace Go.Proofs.YtpmmfabendnhiaaDoor
open Go.RowKit
open Go.Lib (strCells byteCells decDigits)
set_option linter.unusedVariables false
set_option linter.unusedSimpArgs false
set_option maxRecDepth 10000
set_option maxHeartbeats 12800000 in
theorem with3 (c : Nat → Nat) (now : Nat) {vv vb vf : Value} (h1 : vv.oneCell' = true) (h2 : vb.oneCell' = true) (h3 : vf.oneCell' = true) (x0 : Nat) (A : Option Addr) (cap : Nat) (w : World) (hrd : Rd w 1 A 1 (intCells [x0])) (hcap : 1 ≤ cap) :
    callE Tryd.prog 37 #[.agg (planL c now vv vb vf).toArray, .int .i64 3, .slice A 1 cap] w fun v w' => v = .agg (planL (updL c 17 [x0]) now vv vb vf).toArray ∧ Below w.heap.size w w' := by
  obtain ⟨b, o, rfl, hb, hcell⟩ := hrd.cells (by omega)
  have y0 := hcell 0 (.int .i64 (x0 : Int)) rfl
  refine calls_E Tryd.func37 rfl rfl rfl (Nat.le_of_ble_eq_true rfl) ?_
  simp [go_sem, IntWalk.iteOmega, IntWalk.toNatUp]
  rw [planZ_lit]
  have hP0 : Blk ((w.alloc (.cells (planL c now vv vb vf).toArray 39)).alloc (.cells planZ.toArray 39)) w.heap.size 39 (planL c now vv vb vf).toArray := (Blk.self_ rfl).more _
  have hR0 : Blk ((w.alloc (.cells (planL c now vv vb vf).toArray 39)).alloc (.cells planZ.toArray 39)) (w.heap.size + 1) 39 planZ.toArray := Blk.self_ (by simp)
  have k0 : Below w.heap.size w ((w.alloc (.cells (planL c now vv vb vf).toArray 39)).alloc (.cells planZ.toArray 39)) := ext_trans (ext_alloc w _) (ext_alloc _ _)
  generalize (w.alloc (.cells (planL c now vv vb vf).toArray 39)).alloc (.cells planZ.toArray 39) = w0 at *
  have y0 := (k0.cell (p := ⟨b, o + 0, none⟩) hb).trans y0
  simp only [Nat.add_zero] at y0
  have hbP : b ≠ w.heap.size := by omega
  have hbl : b < w0.heap.size := by have := k0.size; omega
  have z0 := (hP0.cell 17).trans (pl_lo c now vv vb vf ⟨17, by omega⟩)
  have hf := hP0.frozen
  have hQ0 := hP0
  have hS0 := hR0
  have kk0 := k0
  have hQ1 := Blk_set (o := 17) (v := .int .i64 (x0 : Int)) hQ0
  rw [pl_set _ now vv vb vf ⟨17, by omega⟩ x0] at hQ1
  have hS1 := hS0.farCell (b := w.heap.size) (o := 17) (by omega) (.int .i64 (x0 : Int))
  have kk1 := kk0.setCell (p := ⟨w.heap.size, 17, none⟩) (Nat.le_refl _) (.int .i64 (x0 : Int))
  have hrc := readCells_all hQ1 32 rfl
  have hwr := canWrite_all hS1 32 rfl
  have e : planL (set1 (c) 17 x0) now vv vb vf = planL (updL c 17 [x0]) now vv vb vf := rfl
  simp only [e] at hrc
  have hone : allOne (planL (updL c 17 [x0]) now vv vb vf) = true := planL_one h1 h2 h3
  have hlen := planL_len (updL c 17 [x0]) now vv vb vf
  generalize hL : planL (updL c 17 [x0]) now vv vb vf = L at *
  have hst := storeSeg_all hS1 L hlen
  have hrf := readCells_all (Blk_setRow hS1 (cs' := L.toArray)) 32 (by simpa using hlen)
  have hbf := below_setRow kk1 (g := w.heap.size + 1) (by omega) L.toArray
  clear hQ0 hS0 kk0 e hL hrd hcell hR0 hP0 k0 hcap
  simp [go_sem, IntWalk.iteOmega, IntWalk.toNatUp, y0, z0, hf, hbP, hbl, seg4o, seg5o, hrc, hwr, hone, hlen, hst, hrf]
  exact hbf
end Go.Proofs.YtpmmfabendnhiaaDoor
