/-
  The document's take: the validator of a line.
-/
import Derived.Test.YtoabdejoabfbeaaDoorTBack
import Derived.Test.YtoabdejoabfbeaaDoorFlow
namespace Go.Proofs.YtoabdejoabfbeaaDoor
open Go.RowKit
open Go.Lib (cut decDigits)
set_option linter.unusedVariables false
set_option linter.unusedSimpArgs false
set_option maxRecDepth 10000
/-- a line's validator, as the document takes it -/
def lineVd (s : List UInt8) : Vd := ⟨strOf (cut s [32]).1, numberV (cut s [32]).2.1⟩
noncomputable def takeOk (s : List UInt8) : Bool := (cut s [32]).2.2 && (decide (nameE (lineVd s).name = 0) && decide (1 ≤ (lineVd s).weight) && decide (lineV (lineVd s) = s ++ [10]))
theorem str_ext {a b : List UInt8} : (strOf a).toList = (strOf b).toList ↔ a = b := by
  have key : ∀ l : List UInt8, (strOf l).toList = l := fun l => by rw [ByteArray.toList_eq]; simp [strOf]
  rw [key, key]
theorem numberV_le (l : List UInt8) : -1 ≤ numberV l ∧ numberV l ≤ 4611686018427387903 := by
  unfold numberV; split
  · rename_i h; omega
  · omega
theorem strOf_take (l : List UInt8) (i : Nat) : (strOf l).extract 0 i = strOf (l.take i) := by
  apply ByteArray.ext
  simp [strOf, ByteArray.data_extract]
theorem strOf_drop (l : List UInt8) (i : Nat) : (strOf l).extract i l.length = strOf (l.drop i) := by
  apply ByteArray.ext
  simp [strOf, ByteArray.data_extract]
  exact List.take_of_length_le (by simp)
theorem strOf_part (l : List UInt8) (i j : Nat) : (strOf l).extract i j = strOf ((l.take j).drop i) := by
  apply ByteArray.ext
  simp [strOf, ByteArray.data_extract, List.drop_take]
set_option maxHeartbeats 6400000 in
theorem take_any (s : List UInt8) (hs : s.length ≤ 20000) (w : World) : callE Tryd.prog 23 #[.string (strOf s)] w fun u w' => (∃ x : Vd, u = .tuple #[.agg #[.string x.name, .int .i64 x.weight], .bool (takeOk s)] ∧ (takeOk s = true → x = lineVd s)) ∧ Below w.heap.size w w' := by
  refine calls_E Tryd.func23 rfl rfl rfl (Nat.le_of_ble_eq_true rfl) ?_
  simp [go_sem, IntWalk.iteOmega, IntWalk.toNatUp]
  refine W_loop (fun st wr => ∃ i : Nat, i ≤ s.length ∧ st 0 = .string (strOf s) ∧ st 2 = .pointer (some ⟨w.heap.size, 0, none⟩) ∧ st 3 = .bool false ∧ st 4 = .int .i64 i ∧ (32 : UInt8) ∉ s.take i ∧ wr = w.alloc (.cells #[.string ByteArray.empty, .int .i64 0] 32)) (fun st _ => s.length - (intOf (st 4)).toNat) ?_ ?_
  · exact ⟨0, by omega, by simp [go_sem], by simp [go_sem], by simp [go_sem], by simp [go_sem], by simp, rfl⟩
  · rintro st wr ⟨i, hi, e0, e2, e3, e4, hno, rfl⟩
    have kA := ext_alloc w (.cells #[.string ByteArray.empty, .int .i64 0] 32)
    have hX : Blk (w.alloc (.cells #[.string ByteArray.empty, .int .i64 0] 32)) w.heap.size 32 #[.string ByteArray.empty, .int .i64 0] := Blk.self_ rfl
    have hsz : (w.alloc (.cells #[.string ByteArray.empty, .int .i64 0] 32)).heap.size = w.heap.size + 1 := by simp
    by_cases hlt : i < s.length
    · have hlt' : (i : Int) < s.length := by omega
      have x1 := fun w => run_index_str (P := Tryd.prog) (w := w) Tryd.underlying9 s i hlt
      have htk := take_digs hlt
      have hdrop : s = s.take i ++ s[i] :: s.drop (i + 1) := by simp
      generalize s[i] = c at *
      by_cases hq : c = 32
      · subst hq
        have hq' : ((UInt8.toNat 32 : Nat) : Int) = 32 := rfl
        have hne : ((i : Int) == (s.length : Int)) = false := by simp; omega
        have hc : cut s [32] = (s.take i, s.drop (i + 1), true) := by
          have := cut_is (s.drop (i + 1)) hno
          rwa [← hdrop] at this
        simp [go_sem, IntWalk.iteOmega, IntWalk.toNatUp, strOf_size, e0, e2, e3, e4, hlt, hlt', x1, hq', hne]
        refine W_tree (.pure 0 (.pure 1 (.pure 2 (.pure 3 (.pure 4 (.pure 5 (.pure 6 (.two 7 (.pure 8 (.one 9 (.one 10 (.done)))) 9 (.one 7 (.pure 8 (.one 10 (.done)))))))))))) follows (by kernel_rfl) ?_
        have r1 := fun w k => callE_eq noinit_number (number_runs (s.drop (i + 1)) (by simp; omega) w) k
        simp [go_sem, IntWalk.iteOmega, IntWalk.toNatUp, strOf_size, e0, e2, e3, e4, hlt, hlt', r1, strOf_take, strOf_drop]
        have hv : lineVd s = ⟨strOf (s.take i), numberV (s.drop (i + 1))⟩ := by unfold lineVd; rw [hc]
        have hok : takeOk s = (decide (nameE (strOf (s.take i)) = 0) && decide (1 ≤ numberV (s.drop (i + 1))) && decide (lineV (lineVd s) = s ++ [10])) := by unfold takeOk; rw [hc, hv]; rfl
        have hX0 : Blk ((w.alloc (.cells #[.string ByteArray.empty, .int .i64 0] 32)).alloc (.cells #[.string (strOf (s.take i)), .int .i64 (numberV (s.drop (i + 1)))] 32)).drew w.heap.size 32 #[.string ByteArray.empty, .int .i64 0] := (hX.more _).drew
        have hX1 : Blk ((w.alloc (.cells #[.string ByteArray.empty, .int .i64 0] 32)).alloc (.cells #[.string (strOf (s.take i)), .int .i64 (numberV (s.drop (i + 1)))] 32)).drew (w.heap.size + 1) 32 #[.string (strOf (s.take i)), .int .i64 (numberV (s.drop (i + 1)))] := Blk.drew (Blk.self_ (by simp))
        have kB := (kA.alloc kA.size (.cells #[.string (strOf (s.take i)), .int .i64 (numberV (s.drop (i + 1)))] 32)).drew
        have hnl := numberV_le (s.drop (i + 1))
        have hnm : (strOf (s.take i)).size ≤ 20000 := by rw [strOf_size]; simp; omega
        generalize numberV (s.drop (i + 1)) = n at *
        generalize strOf (s.take i) = N at *
        generalize ((w.alloc (.cells #[.string ByteArray.empty, .int .i64 0] 32)).alloc (.cells #[.string N, .int .i64 n] 32)).drew = W2 at *
        have c2 : (⟨#[10]⟩ : ByteArray) = strOf [10] := rfl
        have hsl : ¬ 9223372036854775807 < s.length + 1 := by omega
        have hX0d := hX0.drew
        have hX1d := hX1.drew
        have kBd := kB.drew
        have hlt1 := hX1d.lt
        refine ⟨?_, ?_⟩
        all_goals
          refine W_flow (fun g => g ≠ w.heap.size) (.pure 0 (.pure 1 (.pure 2 (.one 3 (.pure 4 (.pure 5 (.pure 6 (.pure 7 (.pure 8 (.pure 9 (.pure 10 (.pure 11 (.pure 13 (.pure 14 (.one 12 (.pure 15 (.pure 16 (.one 17 (.pure 18 (.done)))))))))))))))))))) follows (by kernel_rfl) ?_
          have hr := held_refl (fun g => g ≠ w.heap.size) W2.drew
          generalize W2.drew = W3 at *
          simp [go_sem, IntWalk.iteOmega, IntWalk.toNatUp, hX0d.cell, hX1d.cell, hlt1]
          refine callE_of (rname_any N (by omega) _) ?_
          rintro _ w4 ⟨rfl, k4⟩
          have kC := kBd.trans (k4.mono kBd.size)
          have hr4 := hr.below k4
          have y0 := hX0d.keep k4
          rcases nameE_01 N with hn | hn
          · have hn' : (nameE N == 0) = true := by rw [hn]; rfl
            by_cases h1 : 1 ≤ n
            · simp [go_sem, IntWalk.iteOmega, IntWalk.toNatUp, e0, hn', h1, hX0d.cell, hX1d.cell, hlt1, c2, strOf_app, strOf_size, hsl, hr4]
              refine callE_of (line_any ⟨N, n⟩ (by simp only; omega) (by simp only; omega) _) ?_
              rintro _ w5 ⟨rfl, k5⟩
              have z0 := y0.keep k5
              have kD := kC.trans (k5.mono kC.size)
              have z2 : Blk (w5.setRow w.heap.size #[.string N, .int .i64 n]) w.heap.size 32 #[.string N, .int .i64 n] := Blk_setRow z0
              have hr5 := (hr4.below k5).row (g := w.heap.size) #[.string N, .int .i64 n] (fun h => h rfl)
              simp [go_sem, IntWalk.iteOmega, IntWalk.toNatUp, e0, e2, hr4.below k5, hr5, z0.cell, canWrite_all z0 2 rfl, storeSeg_all z0, z2.cell]
              refine ⟨⟨⟨N, n⟩, ⟨⟨rfl, rfl⟩, ?_⟩, fun _ => hv.symm⟩, below_setRow kD (Nat.le_refl _) _⟩
              rw [hok, hv, decide_eq_true hn, decide_eq_true h1]
              by_cases hl : lineV ⟨N, n⟩ = s ++ [10]
              · rw [decide_eq_true hl, hl]; simp
              · rw [decide_eq_false hl]; exact beq_eq_false_iff_ne.2 fun h => hl (str_ext.1 h)
            · have hok' : takeOk s = false := by rw [hok]; simp [h1]
              have hr5 := hr4.row (g := w.heap.size) #[.string N, .int .i64 n] (fun h => h rfl)
              have z2 : Blk (w4.setRow w.heap.size #[.string N, .int .i64 n]) w.heap.size 32 #[.string N, .int .i64 n] := Blk_setRow y0
              simp [go_sem, IntWalk.iteOmega, IntWalk.toNatUp, e0, e2, hn', h1, hX0d.cell, hX1d.cell, hlt1, hr4, hr5, hok', y0.cell, canWrite_all y0 2 rfl, storeSeg_all y0, z2.cell]
              exact ⟨⟨⟨N, n⟩, rfl, rfl⟩, below_setRow kC (Nat.le_refl _) _⟩
          · have hn' : (nameE N == 0) = false := by rw [hn]; rfl
            have hok' : takeOk s = false := by rw [hok]; simp [hn]
            have hr5 := hr4.row (g := w.heap.size) #[.string N, .int .i64 n] (fun h => h rfl)
            have z2 : Blk (w4.setRow w.heap.size #[.string N, .int .i64 n]) w.heap.size 32 #[.string N, .int .i64 n] := Blk_setRow y0
            simp [go_sem, IntWalk.iteOmega, IntWalk.toNatUp, e0, e2, hn', hX0d.cell, hX1d.cell, hlt1, hr4, hr5, hok', y0.cell, canWrite_all y0 2 rfl, storeSeg_all y0, z2.cell]
            exact ⟨⟨⟨N, n⟩, rfl, rfl⟩, below_setRow kC (Nat.le_refl _) _⟩
      · have hq' : ¬ (c.toNat : Int) = 32 := fun h => hq (UInt8.toNat_inj.1 (show c.toNat = 32 by omega))
        have hq2 : ((c.toNat : Int) != 32) = true := by simpa using hq'
        simp [go_sem, IntWalk.iteOmega, IntWalk.toNatUp, strOf_size, e0, e2, e3, e4, hlt, hlt', x1, hq2]
        refine roundEnd.mk ⟨i + 1, by omega, by simp [go_sem, e0], by simp [go_sem, e2], by simp [go_sem, e3], by simp [go_sem], ?_, rfl⟩ ?_
        · rw [htk]; simp [hno, Ne.symm hq]
        · simp [go_sem, intOf]; omega
    · obtain rfl : i = s.length := by omega
      rw [List.take_of_length_le (Nat.le_refl _)] at hno
      have hc := cut_not hno
      have ht : takeOk s = false := by unfold takeOk; rw [hc]; rfl
      simp [go_sem, IntWalk.iteOmega, IntWalk.toNatUp, strOf_size, e0, e2, e3, e4]
      exact ⟨⟨⟨ByteArray.empty, 0⟩, ⟨⟨rfl, rfl⟩, ht⟩, by rw [ht]; simp⟩, kA⟩
end Go.Proofs.YtoabdejoabfbeaaDoor
