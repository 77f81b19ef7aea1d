/-
  The document's 'words': the schedule of a chunk.
-/
import Derived.Test.YtlhlfodmcffeoaaDoorSched
namespace Go.Proofs.YtlhlfodmcffeoaaDoor
open Go.RowKit
set_option linter.unusedVariables false
set_option linter.unusedSimpArgs false
set_option maxRecDepth 10000
/-- a word of which i bytes have been taken in -/
def partW (b : List UInt8) (t : Nat) : Nat → UInt32
  | 0 => 0
  | i + 1 => partW b t i * 256 + UInt32.ofNat (byteAt b (4 * t + i))
theorem partW_four (b : List UInt8) (t : Nat) : partW b t 4 = wordOf b t := by
  have l0 := byteAt_lt b (4 * t)
  have l1 := byteAt_lt b (4 * t + 1)
  have l2 := byteAt_lt b (4 * t + 2)
  have l3 := byteAt_lt b (4 * t + 3)
  simp only [partW, wordOf, Nat.add_zero]
  generalize byteAt b (4 * t) = n0 at *
  generalize byteAt b (4 * t + 1) = n1 at *
  generalize byteAt b (4 * t + 2) = n2 at *
  generalize byteAt b (4 * t + 3) = n3 at *
  apply UInt32.toNat_inj.1
  simp only [UInt32.toNat_add, UInt32.toNat_mul, UInt32.toNat_ofNat']
  simp
  omega
theorem step_word (x : UInt32) (n : Nat) (h : n < 256) : IntKind.u32.wrap (IntKind.u32.wrap (U x * 256) + IntKind.u32.wrap (n : Int)) = U (x * 256 + UInt32.ofNat n) := by
  simp only [IntKind.wrap_u32]; unfold U
  rw [UInt32.toNat_add, UInt32.toNat_mul, UInt32.toNat_ofNat']
  simp
theorem schedCells_zero_at (b : List UInt8) (t : Nat) (h : t < 64) : (schedCells b t).setIfInBounds t (uv 0) = schedCells b t := by
  have hl := schedTo_length b t
  unfold schedCells
  rw [List.setIfInBounds_toArray]
  congr 1
  rw [List.set_append_right _ _ (by simp [hl]), List.length_map, hl, Nat.sub_self, show 64 - t = (64 - (t + 1)) + 1 by omega, List.replicate_succ, List.set_cons_zero]
  rfl
set_option maxHeartbeats 800000 in
theorem words_any (bb bo len cap : Nat) (b : List UInt8) (w : World) (hlen : 64 ≤ len) (hb : bb < w.heap.size) (hmax : len ≤ 9223372036854775807)
    (hc : ∀ i, i < 64 → w.cell? ⟨bb, bo + i, none⟩ = some (.int .u8 (byteAt b i))) :
    callE Tryd.prog 36 #[.slice (some ⟨bb, bo, none⟩) len cap] w fun v w' => v = .agg ((sched b).map uv).toArray ∧ Below w.heap.size w w' := by
  refine calls_E Tryd.func36 rfl rfl rfl (Nat.le_of_ble_eq_true rfl) ?_
  simp [go_sem, IntWalk.iteOmega, IntWalk.toNatUp, zeros_fold]
  refine W_at fun W hW => ?_
  obtain ⟨b0, b1, hB, _⟩ := news2 hW
  clear hW
  refine W_loop (fun s wr => ∃ t : Nat, t ≤ 16 ∧ s 4 = .int .i64 t ∧ s 0 = .slice (some ⟨bb, bo, none⟩) len cap ∧ s 2 = .pointer (some ⟨w.heap.size, 0, none⟩) ∧ s 3 = .pointer (some ⟨w.heap.size + 1, 0, none⟩) ∧
    Blk wr (w.heap.size + 1) 57 (schedCells b t) ∧ Blk wr w.heap.size 57 zeros64 ∧ Below w.heap.size w wr) (fun s _ => 16 - (intOf (s 4)).toNat) ?_ ?_
  · exact ⟨0, by omega, by simp [go_sem], by simp [go_sem], by simp [go_sem], by simp [go_sem], by rw [schedCells_zero]; exact b1, b0, hB⟩
  · clear b0 b1 hB
    rintro s wr ⟨t, ht, e4, e0, e2, e3, b1, b0, hB⟩
    by_cases hlt : t < 16
    · have hlt' : (t : Int) < 16 := by omega
      simp [go_sem, IntWalk.iteOmega, IntWalk.toNatUp, e4, e0, e2, e3, hlt']
      refine W_loop (fun s wr => ∃ i : Nat, i ≤ 4 ∧ s 5 = .int .i64 i ∧ s 4 = .int .i64 t ∧ s 0 = .slice (some ⟨bb, bo, none⟩) len cap ∧ s 2 = .pointer (some ⟨w.heap.size, 0, none⟩) ∧ s 3 = .pointer (some ⟨w.heap.size + 1, 0, none⟩) ∧
        Blk wr (w.heap.size + 1) 57 ((schedCells b t).setIfInBounds t (uv (partW b t i))) ∧ Blk wr w.heap.size 57 zeros64 ∧ Below w.heap.size w wr) (fun s _ => 4 - (intOf (s 5)).toNat) ?_ ?_
      · exact ⟨0, by omega, by simp [go_sem], by simp [go_sem, e4], by simp [go_sem, e0], by simp [go_sem, e2], by simp [go_sem, e3], by rw [partW, schedCells_zero_at b t (by omega)]; exact b1, b0, hB⟩
      · clear b0 b1 hB e4 e0 e2 e3
        rintro s wr ⟨i, hi, e5, e4, e0, e2, e3, b1, b0, hB⟩
        by_cases hi4 : i < 4
        · have hi4' : (i : Int) < 4 := by omega
          have x0 : wr.cell? ⟨bb, bo + (4 * t + i), none⟩ = some (.int .u8 (byteAt b (4 * t + i))) := (hB.cell (p := ⟨bb, bo + (4 * t + i), none⟩) hb).trans (hc (4 * t + i) (by omega))
          have hs : (schedCells b t).size = 64 := by simp [schedCells, schedTo_length]; omega
          have x1 : wr.cell? ⟨w.heap.size + 1, t, none⟩ = some (uv (partW b t i)) := (b1.cell t).trans (Array.getElem?_setIfInBounds_self_of_lt (by omega))
          have f1 := b1.frozen t
          have hst := step_word (partW b t i) _ (byteAt_lt b (4 * t + i))
          simp [go_sem, IntWalk.iteOmega, IntWalk.toNatUp, e5, e4, e0, e2, e3, hi4']
          refine W_tail 15 follows (by kernel_rfl) ?_
          simp [go_sem, IntWalk.iteOmega, IntWalk.toNatUp, e5, e4, e0, e2, e3, hi4', x0, x1, f1, hst]
          refine roundEnd.mk ⟨i + 1, by omega, by simp [go_sem, e5], by simp [go_sem, e4], by simp [go_sem, e0], by simp [go_sem, e2], by simp [go_sem, e3], ?_, ?_, ?_⟩ ?_
          · have := Blk_set (o := t) (v := uv (partW b t (i + 1))) b1
            rw [Array.setIfInBounds_setIfInBounds] at this
            exact this
          · exact b0.farCell (by omega) _
          · exact (hB.setCell (by simp) _).drew
          · simp [go_sem, intOf, e5]; omega
        · have hi4' : ¬ (i : Int) < 4 := by omega
          obtain rfl : i = 4 := by omega
          simp [go_sem, IntWalk.iteOmega, IntWalk.toNatUp, e5, e4, e0, e2, e3, hi4']
          refine roundEnd.mk ⟨t + 1, by omega, by simp [go_sem, e4], by simp [go_sem, e0], by simp [go_sem, e2], by simp [go_sem, e3], ?_, b0, hB⟩ ?_
          · rw [← schedCells_set b t (by omega), nextWord, if_pos hlt, ← partW_four]; exact b1
          · simp [go_sem, intOf, e4]; omega
    · have hlt' : ¬ (t : Int) < 16 := by omega
      obtain rfl : t = 16 := by omega
      simp [go_sem, IntWalk.iteOmega, IntWalk.toNatUp, e4, e0, e2, e3, hlt']
      refine W_loop (fun s wr => ∃ t : Nat, 16 ≤ t ∧ t ≤ 64 ∧ s 6 = .int .i64 t ∧ s 0 = .slice (some ⟨bb, bo, none⟩) len cap ∧ s 2 = .pointer (some ⟨w.heap.size, 0, none⟩) ∧ s 3 = .pointer (some ⟨w.heap.size + 1, 0, none⟩) ∧
        Blk wr (w.heap.size + 1) 57 (schedCells b t) ∧ Blk wr w.heap.size 57 zeros64 ∧ Below w.heap.size w wr) (fun s _ => 64 - (intOf (s 6)).toNat) ?_ ?_
      · exact ⟨16, by omega, by omega, by simp [go_sem], by simp [go_sem, e0], by simp [go_sem, e2], by simp [go_sem, e3], b1, b0, hB⟩
      · clear b0 b1 hB e4 e0 e2 e3 hlt hlt' ht
        rintro s wr ⟨t, h16, ht, e6, e0, e2, e3, b1, b0, hB⟩
        by_cases hlt : t < 64
        · have hlt' : (t : Int) < 64 := by omega
          obtain ⟨v, hv⟩ := schedCells_in b t hlt
          have y1 : wr.cell? ⟨w.heap.size + 1, t, none⟩ = some v := (b1.cell t).trans hv
          have y2 := b1.frozen t
          have x2 : wr.cell? ⟨w.heap.size + 1, t - 2, none⟩ = some (uv ((schedTo b t).getD (t - 2) 0)) := (b1.cell _).trans (schedCells_at _ _ _ (by omega))
          have x7 : wr.cell? ⟨w.heap.size + 1, t - 7, none⟩ = some (uv ((schedTo b t).getD (t - 7) 0)) := (b1.cell _).trans (schedCells_at _ _ _ (by omega))
          have x15 : wr.cell? ⟨w.heap.size + 1, t - 15, none⟩ = some (uv ((schedTo b t).getD (t - 15) 0)) := (b1.cell _).trans (schedCells_at _ _ _ (by omega))
          have x16 : wr.cell? ⟨w.heap.size + 1, t - 16, none⟩ = some (uv ((schedTo b t).getD (t - 16) 0)) := (b1.cell _).trans (schedCells_at _ _ _ (by omega))
          simp [go_sem, IntWalk.iteOmega, IntWalk.toNatUp, e6, e0, e2, e3, hlt', x2, x15]
          refine W_tail 15 follows (by kernel_rfl) ?_
          simp [go_sem, IntWalk.iteOmega, IntWalk.toNatUp, e6, e0, e2, e3, x7, x16, y1, y2]
          refine roundEnd.mk ⟨t + 1, by omega, by omega, by simp [go_sem, e6], by simp [go_sem, e0], by simp [go_sem, e2], by simp [go_sem, e3], ?_, ?_, ?_⟩ ?_
          · rw [← schedCells_set b t hlt, nextWord, if_neg (by omega)]; exact Blk_set b1
          · exact b0.farCell (by omega) _
          · exact (hB.setCell (by simp) _).drew
          · simp [go_sem, intOf, e6]; omega
        · have hlt' : ¬ (t : Int) < 64 := by omega
          obtain rfl : t = 64 := by omega
          have hz : (schedCells b 64).size = 64 := by simp [schedCells, schedTo_length]
          have L := readCells_all b1 64 hz
          have C := canWrite_all b0 64 (by rfl)
          have S := storeSeg_all b0 (schedCells b 64).toList (by simp [hz]; rfl)
          have L2 := readCells_all (Blk_setRow (cs' := schedCells b 64) b0) 64 hz
          have O : allOne (schedCells b 64).toList = true := by rw [schedCells_end]; exact allOne_of (by simp [Value.oneCell'])
          simp only [Array.toArray_toList] at S
          simp [go_sem, IntWalk.iteOmega, IntWalk.toNatUp, e6, e0, e2, e3, hlt', L, C, S, L2, hz, O]
          exact ⟨by rw [schedCells_end], below_setRow hB (Nat.le_refl _) _⟩
end Go.Proofs.YtlhlfodmcffeoaaDoor
