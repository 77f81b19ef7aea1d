/-
  The schedule of a chunk: the program's 'schedule' and the document's 'words'.
-/
import Derived.Test.YtlhlfodmcffeoaaDoorWord
namespace Go.Proofs.YtlhlfodmcffeoaaDoor
open Go.RowKit
set_option linter.unusedVariables false
set_option linter.unusedSimpArgs false
set_option maxRecDepth 10000
/-- the cells of a schedule of which t words stand -/
def schedCells (b : List UInt8) (t : Nat) : Array Value := ((schedTo b t).map uv ++ List.replicate (64 - t) (Value.int .u32 0)).toArray
def zeros64 : Array Value := (List.replicate 64 (Value.int .u32 0)).toArray
theorem schedCells_zero (b : List UInt8) : schedCells b 0 = zeros64 := rfl
theorem schedCells_at (b : List UInt8) (t j : Nat) (h : j < t) : (schedCells b t)[j]? = some (uv ((schedTo b t).getD j 0)) := by
  have hl := schedTo_length b t
  unfold schedCells
  rw [List.getElem?_toArray, List.getElem?_append_left (by simpa [hl] using h), List.getElem?_map, List.getElem?_eq_getElem (by omega)]
  simp [List.getD, List.getElem?_eq_getElem (show j < (schedTo b t).length by omega)]
theorem schedCells_in (b : List UInt8) (t : Nat) (h : t < 64) : ∃ v, (schedCells b t)[t]? = some v := by
  have hl := schedTo_length b t
  have hs : (schedCells b t).size = 64 := by simp [schedCells, hl]; omega
  exact ⟨_, Array.getElem?_eq_getElem (by omega)⟩
theorem schedCells_set (b : List UInt8) (t : Nat) (h : t < 64) : (schedCells b t).setIfInBounds t (uv (nextWord b (schedTo b t) t)) = schedCells b (t + 1) := by
  have hl := schedTo_length b t
  unfold schedCells
  rw [List.setIfInBounds_toArray]
  congr 1
  rw [List.set_append_right _ _ (by simp [hl]), List.length_map, hl, Nat.sub_self, show 64 - t = (64 - (t + 1)) + 1 by omega, List.replicate_succ, List.set_cons_zero, schedTo, List.map_append]
  simp
theorem byteAt_lt (b : List UInt8) (i : Nat) : byteAt b i < 256 := (b.getD i 0).toNat_lt
theorem schedCells_end (b : List UInt8) : schedCells b 64 = ((sched b).map uv).toArray := by simp [schedCells, sched]
theorem zeros_fold : #[Value.int .u32 0, Value.int .u32 0, Value.int .u32 0, Value.int .u32 0, Value.int .u32 0, Value.int .u32 0, Value.int .u32 0, Value.int .u32 0, Value.int .u32 0, Value.int .u32 0, Value.int .u32 0, Value.int .u32 0, Value.int .u32 0, Value.int .u32 0, Value.int .u32 0, Value.int .u32 0, Value.int .u32 0, Value.int .u32 0, Value.int .u32 0, Value.int .u32 0, Value.int .u32 0, Value.int .u32 0, Value.int .u32 0, Value.int .u32 0, Value.int .u32 0, Value.int .u32 0, Value.int .u32 0, Value.int .u32 0, Value.int .u32 0, Value.int .u32 0, Value.int .u32 0, Value.int .u32 0, Value.int .u32 0, Value.int .u32 0, Value.int .u32 0, Value.int .u32 0, Value.int .u32 0, Value.int .u32 0, Value.int .u32 0, Value.int .u32 0, Value.int .u32 0, Value.int .u32 0, Value.int .u32 0, Value.int .u32 0, Value.int .u32 0, Value.int .u32 0, Value.int .u32 0, Value.int .u32 0, Value.int .u32 0, Value.int .u32 0, Value.int .u32 0, Value.int .u32 0, Value.int .u32 0, Value.int .u32 0, Value.int .u32 0, Value.int .u32 0, Value.int .u32 0, Value.int .u32 0, Value.int .u32 0, Value.int .u32 0, Value.int .u32 0, Value.int .u32 0, Value.int .u32 0, Value.int .u32 0] = zeros64 := Eq.trans rfl rfl
theorem word_join (b : List UInt8) (t : Nat) :
    bits .or .u32 (bits .or .u32 (bits .or .u32 (IntKind.u32.wrap (IntKind.u32.wrap ↑(byteAt b (4 * t)) * 16777216)) (IntKind.u32.wrap (IntKind.u32.wrap ↑(byteAt b (4 * t + 1)) * 65536))) (IntKind.u32.wrap (IntKind.u32.wrap ↑(byteAt b (4 * t + 2)) * 256))) (IntKind.u32.wrap ↑(byteAt b (4 * t + 3))) = U (wordOf b t) := by
  have l0 := byteAt_lt b (4 * t)
  have l1 := byteAt_lt b (4 * t + 1)
  have l2 := byteAt_lt b (4 * t + 2)
  have l3 := byteAt_lt b (4 * t + 3)
  unfold wordOf U
  generalize byteAt b (4 * t) = n0 at *
  generalize byteAt b (4 * t + 1) = n1 at *
  generalize byteAt b (4 * t + 2) = n2 at *
  generalize byteAt b (4 * t + 3) = n3 at *
  have e0 : IntKind.u32.wrap (IntKind.u32.wrap (n0 : Int) * 16777216) = ((n0 * 16777216 : Nat) : Int) := by simp only [IntKind.wrap_u32]; omega
  have e1 : IntKind.u32.wrap (IntKind.u32.wrap (n1 : Int) * 65536) = ((n1 * 65536 : Nat) : Int) := by simp only [IntKind.wrap_u32]; omega
  have e2 : IntKind.u32.wrap (IntKind.u32.wrap (n2 : Int) * 256) = ((n2 * 256 : Nat) : Int) := by simp only [IntKind.wrap_u32]; omega
  have e3 : IntKind.u32.wrap (n3 : Int) = ((n3 : Nat) : Int) := by simp only [IntKind.wrap_u32]; omega
  rw [e0, e1, e2, e3, u32_or_nat _ _ (by omega) (by omega), nat_join 24 (n0 * 16777216) (n1 * 65536) (by omega) (by omega), u32_or_nat _ _ (by omega) (by omega), nat_join 16 _ (n2 * 256) (by omega) (by omega), u32_or_nat _ _ (by omega) (by omega), nat_join 8 _ n3 (by omega) (by omega),
    UInt32.toNat_ofNat_of_lt' (by simp [UInt32.size]; omega)]
set_option maxHeartbeats 400000 in
theorem schedule_any (bb bo len cap : Nat) (b : List UInt8) (w : World) (hlen : 64 ≤ len) (hb : bb < w.heap.size) (hmax : len ≤ 9223372036854775807)
    (hc : ∀ i, i < 64 → w.cell? ⟨bb, bo + i, none⟩ = some (.int .u8 (byteAt b i))) :
    callE Tryd.prog 40 #[.slice (some ⟨bb, bo, none⟩) len cap] w fun v w' => v = .agg ((sched b).map uv).toArray ∧ Below w.heap.size w w' := by
  refine calls_E Tryd.func40 rfl rfl rfl (Nat.le_of_ble_eq_true rfl) ?_
  simp [go_sem, IntWalk.iteOmega, IntWalk.toNatUp, zeros_fold]
  refine W_loop (fun s wr => ∃ t : Nat, t ≤ 64 ∧ s 9 = .int .i64 t ∧ s 0 = .slice (some ⟨bb, bo, none⟩) len cap ∧ s 2 = .pointer (some ⟨w.heap.size, 0, none⟩) ∧ s 3 = .pointer (some ⟨w.heap.size + 1, 0, none⟩) ∧
    Blk wr (w.heap.size + 1) 57 (schedCells b t) ∧ Blk wr w.heap.size 57 zeros64 ∧ Below w.heap.size w wr) (fun s _ => 64 - (intOf (s 9)).toNat) ?_ ?_
  · refine ⟨0, by omega, by simp [go_sem], by simp [go_sem], by simp [go_sem], by simp [go_sem], ?_, ?_, ?_⟩
    · rw [schedCells_zero]; simp [go_sem]
    · simp [go_sem]
    · exact ((Below.refl _ _).alloc (Nat.le_refl _) _).alloc (by simp) _
  · rintro s wr ⟨t, ht, e9, e0, e2, e3, b1, b0, hB⟩
    by_cases hlt : t < 64
    · have hlt' : (t : Int) < 64 := by omega
      obtain ⟨v, hv⟩ := schedCells_in b t hlt
      have y1 : wr.cell? ⟨w.heap.size + 1, t, none⟩ = some v := (b1.cell t).trans hv
      have y2 := b1.frozen t
      by_cases h16 : t < 16
      · have h16' : (t : Int) < 16 := by omega
        have x0 : wr.cell? ⟨bb, bo + 4 * t, none⟩ = some (.int .u8 (byteAt b (4 * t))) := (hB.cell (p := ⟨bb, bo + 4 * t, none⟩) hb).trans (hc (4 * t) (by omega))
        have x1 : wr.cell? ⟨bb, bo + (4 * t + 1), none⟩ = some (.int .u8 (byteAt b (4 * t + 1))) := (hB.cell (p := ⟨bb, bo + (4 * t + 1), none⟩) hb).trans (hc (4 * t + 1) (by omega))
        have x2 : wr.cell? ⟨bb, bo + (4 * t + 2), none⟩ = some (.int .u8 (byteAt b (4 * t + 2))) := (hB.cell (p := ⟨bb, bo + (4 * t + 2), none⟩) hb).trans (hc (4 * t + 2) (by omega))
        have x3 : wr.cell? ⟨bb, bo + (4 * t + 3), none⟩ = some (.int .u8 (byteAt b (4 * t + 3))) := (hB.cell (p := ⟨bb, bo + (4 * t + 3), none⟩) hb).trans (hc (4 * t + 3) (by omega))
        simp [go_sem, IntWalk.iteOmega, IntWalk.toNatUp, e9, e0, e2, e3, hlt', h16']
        refine W_tail 35 follows (by kernel_rfl) ?_
        simp [go_sem, IntWalk.iteOmega, IntWalk.toNatUp, e9, e0, e2, e3, hlt', h16', x0, x1, x2, x3, y1, y2, word_join]
        refine roundEnd.mk ⟨t + 1, by omega, by simp [go_sem, e9], by simp [go_sem, e0], by simp [go_sem, e2], by simp [go_sem, e3], ?_, ?_, ?_⟩ ?_
        · rw [← schedCells_set b t hlt, nextWord, if_pos h16]; exact Blk_set b1
        · simp [go_sem, b0]
        · exact (hB.setCell (by simp) _).drew
        · simp [go_sem, intOf, e9]; omega
      · have h16' : ¬ (t : Int) < 16 := by omega
        have x2 : wr.cell? ⟨w.heap.size + 1, t - 2, none⟩ = some (uv ((schedTo b t).getD (t - 2) 0)) := (b1.cell _).trans (schedCells_at _ _ _ (by omega))
        have x7 : wr.cell? ⟨w.heap.size + 1, t - 7, none⟩ = some (uv ((schedTo b t).getD (t - 7) 0)) := (b1.cell _).trans (schedCells_at _ _ _ (by omega))
        have x15 : wr.cell? ⟨w.heap.size + 1, t - 15, none⟩ = some (uv ((schedTo b t).getD (t - 15) 0)) := (b1.cell _).trans (schedCells_at _ _ _ (by omega))
        have x16 : wr.cell? ⟨w.heap.size + 1, t - 16, none⟩ = some (uv ((schedTo b t).getD (t - 16) 0)) := (b1.cell _).trans (schedCells_at _ _ _ (by omega))
        simp [go_sem, IntWalk.iteOmega, IntWalk.toNatUp, e9, e0, e2, e3, hlt', h16']
        refine W_still follows (by kernel_rfl) ?_
        simp [go_sem, IntWalk.iteOmega, IntWalk.toNatUp, e9, e0, e2, e3, hlt', h16', x2, x15]
        refine W_tail 15 follows (by kernel_rfl) ?_
        simp [go_sem, IntWalk.iteOmega, IntWalk.toNatUp, e9, e0, e2, e3, x7, x16, y1, y2]
        refine roundEnd.mk ⟨t + 1, by omega, by simp [go_sem, e9], by simp [go_sem, e0], by simp [go_sem, e2], by simp [go_sem, e3], ?_, ?_, ?_⟩ ?_
        · rw [← schedCells_set b t hlt, nextWord, if_neg h16]; exact Blk_set b1
        · simp [go_sem, b0]
        · exact (hB.drew.setCell (by simp) _).drew
        · simp [go_sem, intOf, e9]; omega
    · have hlt' : ¬ (t : Int) < 64 := by omega
      obtain rfl : t = 64 := by omega
      have hz : (schedCells b 64).size = 64 := by simp [schedCells, schedTo_length]
      have L := readCells_all b1 64 hz
      have C := canWrite_all b0 64 (by rfl)
      have S := storeSeg_all b0 (schedCells b 64).toList (by simp [hz]; rfl)
      have L2 := readCells_all (Blk_setRow (cs' := schedCells b 64) b0) 64 hz
      have O : allOne (schedCells b 64).toList = true := by rw [schedCells_end]; exact allOne_of (by simp [Value.oneCell'])
      simp only [Array.toArray_toList] at S
      simp [go_sem, IntWalk.iteOmega, IntWalk.toNatUp, e9, e0, e2, e3, hlt', L, C, S, L2, hz, O]
      exact ⟨by rw [schedCells_end], below_setRow hB (Nat.le_refl _) _⟩
end Go.Proofs.YtlhlfodmcffeoaaDoor
