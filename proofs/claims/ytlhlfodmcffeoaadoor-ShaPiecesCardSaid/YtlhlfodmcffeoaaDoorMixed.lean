/-
  The words behind a chunk: the program's 'mixed', the document's 'goes'.
-/
import Derived.Test.YtlhlfodmcffeoaaDoorSched
namespace Go.Proofs.YtlhlfodmcffeoaaDoor
open Go.RowKit
set_option linter.unusedVariables false
set_option linter.unusedSimpArgs false
set_option maxRecDepth 10000
/-- The program's table, as a block of cells. -/
def cubeCells : Array Value := (cubes.map uv).toArray
theorem cubes_length : cubes.length = 64 := by decide
def St8.list (s : St8) : List UInt32 := [s.a, s.b, s.c, s.d, s.e, s.f, s.g, s.h]
/-- the words of which so many have been added to -/
def addTo (h v : St8) (i : Nat) : List UInt32 := (List.zipWith (· + ·) h.list v.list).take i ++ h.list.drop i
theorem addTo_zero (h v : St8) : ((addTo h v 0).map uv).toArray = h.vals := rfl
theorem addTo_end (h v : St8) : ((addTo h v 8).map uv).toArray = (h.sum v).vals := rfl
theorem addTo_at (h v : St8) (i : Nat) (hi : i < 8) : ((addTo h v i).map uv).toArray[i]? = some (uv (h.list.getD i 0)) := by
  rcases (show i = 0 ∨ i = 1 ∨ i = 2 ∨ i = 3 ∨ i = 4 ∨ i = 5 ∨ i = 6 ∨ i = 7 by omega) with rfl | rfl | rfl | rfl | rfl | rfl | rfl | rfl <;> rfl
theorem addTo_set (h v : St8) (i : Nat) (hi : i < 8) : ((addTo h v i).map uv).toArray.setIfInBounds i (uv (h.list.getD i 0 + v.list.getD i 0)) = ((addTo h v (i + 1)).map uv).toArray := by
  rcases (show i = 0 ∨ i = 1 ∨ i = 2 ∨ i = 3 ∨ i = 4 ∨ i = 5 ∨ i = 6 ∨ i = 7 by omega) with rfl | rfl | rfl | rfl | rfl | rfl | rfl | rfl <;> rfl
theorem vals_at (v : St8) (i : Nat) (hi : i < 8) : v.vals[i]? = some (uv (v.list.getD i 0)) := by
  rcases (show i = 0 ∨ i = 1 ∨ i = 2 ∨ i = 3 ∨ i = 4 ∨ i = 5 ∨ i = 6 ∨ i = 7 by omega) with rfl | rfl | rfl | rfl | rfl | rfl | rfl | rfl <;> rfl
/-- The table of the program's constants, as it lies laid. -/
def Cubes (w : World) : Prop := ∀ t, t < 64 → w.cell? ⟨0, t, none⟩ = some (uv (cubes.getD t 0))
theorem Cubes.pos {w : World} (h : Cubes w) : 0 < w.heap.size := World.block_lt_of_cell? w _ (h 0 (by omega))
theorem Cubes.keep {w w' : World} (h : Cubes w) (hb : Below w.heap.size w w') : Cubes w' := fun t ht => (hb.cell (p := ⟨0, t, none⟩) h.pos).trans (h t ht)
theorem Cubes.grown {w w' : World} {b : Nat} (h : Cubes w) (hb : w.grownBy w' (some b)) (hne : b ≠ 0) : Cubes w' := fun t ht => hb.cell (h t ht) (fun e => hne (Option.some.inj e).symm)
set_option maxHeartbeats 800000 in
theorem mixed_any (h : St8) (bb bo len cap : Nat) (b : List UInt8) (w : World) (hlen : 64 ≤ len) (hb : bb < w.heap.size) (hmax : len ≤ 9223372036854775807)
    (hc : ∀ i, i < 64 → w.cell? ⟨bb, bo + i, none⟩ = some (.int .u8 (byteAt b i))) (hk : Cubes w) :
    callE Tryd.prog 32 #[.agg h.vals, .slice (some ⟨bb, bo, none⟩) len cap] w fun v w' => v = .agg (mix h b).vals ∧ Below w.heap.size w w' := by
  obtain ⟨h0, h1, h2, h3, h4, h5, h6, h7⟩ := h
  refine calls_E Tryd.func32 rfl rfl rfl (Nat.le_of_ble_eq_true rfl) ?_
  simp [go_sem, IntWalk.iteOmega, IntWalk.toNatUp, St8.vals]
  refine callE_at fun W hW => ?_
  obtain ⟨b0, b1, b2, hB, hS⟩ := news3 hW
  clear hW
  refine callE_of (schedule_any bb bo len cap b W hlen (by omega) hmax (fun i hi => (hB.cell (p := ⟨bb, bo + i, none⟩) hb).trans (hc i hi))) ?_
  rintro v w1 ⟨rfl, hb1⟩
  replace b0 := b0.keep hb1
  replace b1 := b1.keep hb1
  replace b2 := b2.keep hb1
  replace hB := ext_trans hB hb1
  clear hb1 hS
  simp [go_sem, IntWalk.iteOmega, IntWalk.toNatUp]
  refine W_loop (fun s wr => ∃ t : Nat, t ≤ 64 ∧ s 18 = .int .i64 t ∧ s 2 = .pointer (some ⟨w.heap.size, 0, none⟩) ∧ s 4 = .pointer (some ⟨w.heap.size + 1, 0, none⟩) ∧ s 5 = .pointer (some ⟨w.heap.size + 1 + 1, 0, none⟩) ∧ s 17 = .agg ((sched b).map uv).toArray ∧
    Blk wr (w.heap.size + 1 + 1) 42 (St8.rounds ⟨h0, h1, h2, h3, h4, h5, h6, h7⟩ (sched b) t).vals ∧ Blk wr w.heap.size 42 #[uv h0, uv h1, uv h2, uv h3, uv h4, uv h5, uv h6, uv h7] ∧
    Blk wr (w.heap.size + 1) 42 #[.int .u32 0, .int .u32 0, .int .u32 0, .int .u32 0, .int .u32 0, .int .u32 0, .int .u32 0, .int .u32 0] ∧ Below w.heap.size w wr) (fun s _ => 64 - (intOf (s 18)).toNat) ?_ ?_
  · exact ⟨0, by omega, by simp [go_sem], by simp [go_sem], by simp [go_sem], by simp [go_sem], by simp [go_sem], b2, b0, b1, hB⟩
  · clear b0 b1 b2 hB
    rintro s wr ⟨t, ht, e18, e2, e4, e5, e17, b2, b0, b1, hB⟩
    have hk' := hk.keep hB
    by_cases hlt : t < 64
    · have hlt' : (t : Int) < 64 := by omega
      have hl := sched_length b
      have x1 : (sched b)[t]? = some ((sched b).getD t 0) := by simp [List.getD, List.getElem?_eq_getElem (show t < (sched b).length by omega)]
      have x2 : wr.cell? ⟨0, t, none⟩ = some (uv (cubes.getD t 0)) := hk' t hlt
      have hr : St8.rounds ⟨h0, h1, h2, h3, h4, h5, h6, h7⟩ (sched b) (t + 1) = (St8.rounds ⟨h0, h1, h2, h3, h4, h5, h6, h7⟩ (sched b) t).round (cubes.getD t 0) ((sched b).getD t 0) := rfl
      generalize St8.rounds ⟨h0, h1, h2, h3, h4, h5, h6, h7⟩ (sched b) t = v at b2 hr
      generalize cubes.getD t 0 = kt at x2 hr
      generalize (sched b).getD t 0 = wt at x1 hr
      obtain ⟨v0, v1, v2, v3, v4, v5, v6, v7⟩ := v
      have c2 := b2.cell
      have f2 := b2.frozen
      simp only [St8.vals] at c2
      have C : canWrite wr ⟨w.heap.size + 1 + 1, 0, none⟩ 0 8 = true := canWrite_all b2 8 rfl
      have S : ∀ l : List Value, l.length = 8 → storeSeg wr ⟨w.heap.size + 1 + 1, 0, none⟩ 0 l = wr.setRow (w.heap.size + 1 + 1) l.toArray := fun l hl => storeSeg_all b2 l (by rw [hl]; rfl)
      clear hl
      simp [go_sem, IntWalk.iteOmega, IntWalk.toNatUp, e18, e2, e4, e5, e17, hlt', x1]
      refine W_still follows (by kernel_rfl) ?_
      simp [go_sem, IntWalk.iteOmega, IntWalk.toNatUp, e18, e2, e4, e5, e17, hlt', x1, c2]
      refine W_still follows (by kernel_rfl) ?_
      simp [go_sem, IntWalk.iteOmega, IntWalk.toNatUp, e18, e2, e4, e5, e17, hlt', x1, x2, c2, f2, C, S]
      refine roundEnd.mk ⟨t + 1, by omega, by simp [go_sem, e18], by simp [go_sem, e2], by simp [go_sem, e4], by simp [go_sem, e5], by simp [go_sem, e17], ?_, ?_, ?_, ?_⟩ ?_
      · rw [hr]; exact Blk_setRow b2
      · exact b0.farRow (by omega) _
      · exact b1.farRow (by omega) _
      · exact (below_setRow hB (by omega) _).drew.drew
      · simp [go_sem, intOf, e18]; omega
    · have hlt' : ¬ (t : Int) < 64 := by omega
      obtain rfl : t = 64 := by omega
      simp [go_sem, IntWalk.iteOmega, IntWalk.toNatUp, e18, e2, e4, e5, e17, hlt']
      have hm : mix ⟨h0, h1, h2, h3, h4, h5, h6, h7⟩ b = St8.sum ⟨h0, h1, h2, h3, h4, h5, h6, h7⟩ (St8.rounds ⟨h0, h1, h2, h3, h4, h5, h6, h7⟩ (sched b) 64) := rfl
      generalize St8.rounds ⟨h0, h1, h2, h3, h4, h5, h6, h7⟩ (sched b) 64 = v at b2 hm
      generalize mix ⟨h0, h1, h2, h3, h4, h5, h6, h7⟩ b = m at hm
      change Blk wr w.heap.size 42 (St8.vals ⟨h0, h1, h2, h3, h4, h5, h6, h7⟩) at b0
      generalize (⟨h0, h1, h2, h3, h4, h5, h6, h7⟩ : St8) = h at *
      clear e18 e17 ht hlt hlt'
      refine W_loop (fun s wr => ∃ i : Nat, i ≤ 8 ∧ s 99 = .int .i64 i ∧ s 2 = .pointer (some ⟨w.heap.size, 0, none⟩) ∧ s 4 = .pointer (some ⟨w.heap.size + 1, 0, none⟩) ∧ s 5 = .pointer (some ⟨w.heap.size + 1 + 1, 0, none⟩) ∧
        Blk wr (w.heap.size + 1 + 1) 42 v.vals ∧ Blk wr w.heap.size 42 ((addTo h v i).map uv).toArray ∧
        Blk wr (w.heap.size + 1) 42 #[.int .u32 0, .int .u32 0, .int .u32 0, .int .u32 0, .int .u32 0, .int .u32 0, .int .u32 0, .int .u32 0] ∧ Below w.heap.size w wr) (fun s _ => 8 - (intOf (s 99)).toNat) ?_ ?_
      · exact ⟨0, by omega, by simp [go_sem], by simp [go_sem, e2], by simp [go_sem, e4], by simp [go_sem, e5], b2, b0, b1, hB⟩
      · clear b0 b1 b2 hB e2 e4 e5 hk'
        rintro s wr ⟨i, hi, e99, e2, e4, e5, b2, b0, b1, hB⟩
        by_cases hlt : i < 8
        · have hlt' : (i : Int) < 8 := by omega
          have x0 := (b0.cell i).trans (addTo_at h v i hlt)
          have x2 := (b2.cell i).trans (vals_at v i hlt)
          have f0 := b0.frozen i
          generalize hx : h.list.getD i 0 = x at x0
          generalize hy : v.list.getD i 0 = y at x2
          simp [go_sem, IntWalk.iteOmega, IntWalk.toNatUp, e99, e2, e4, e5, hlt']
          refine W_tail 8 follows (by kernel_rfl) ?_
          simp [go_sem, IntWalk.iteOmega, IntWalk.toNatUp, e99, e2, e4, e5, hlt', x0, x2, f0]
          refine roundEnd.mk ⟨i + 1, by omega, by simp [go_sem, e99], by simp [go_sem, e2], by simp [go_sem, e4], by simp [go_sem, e5], ?_, ?_, ?_, ?_⟩ ?_
          · exact b2.farCell (by omega) _
          · rw [← addTo_set h v i hlt, hx, hy]; exact Blk_set b0
          · exact b1.farCell (by omega) _
          · exact (hB.setCell (by simp) _).drew
          · simp [go_sem, intOf, e99]; omega
        · have hlt' : ¬ (i : Int) < 8 := by omega
          obtain rfl : i = 8 := by omega
          rw [addTo_end, ← hm] at b0
          have L := readCells_all b0 8 rfl
          have C := canWrite_all b1 8 rfl
          have S : ∀ l : List Value, l.length = 8 → storeSeg wr ⟨w.heap.size + 1, 0, none⟩ 0 l = wr.setRow (w.heap.size + 1) l.toArray := fun l hl => storeSeg_all b1 l (by rw [hl]; rfl)
          have L2 := readCells_all (Blk_setRow (cs' := m.vals) b1) 8 rfl
          have O : allOne m.vals.toList = true := rfl
          have hz : m.vals.size = 8 := rfl
          simp [go_sem, IntWalk.iteOmega, IntWalk.toNatUp, e99, e2, e4, e5, hlt', L, C, S, O, L2, hz]
          exact below_setRow hB (by omega) _
end Go.Proofs.YtlhlfodmcffeoaaDoor
