/-
  A state that no call made: each answer; 'ShaNone' answers yes at any bytes.
-/
import Derived.Test.YtlhlfodmcffeoaaDoorTexts
import Derived.Stop.BytesEq
import Derived.Test.YtlhlfodmcffeoaaDoorOpen
namespace Go.Proofs.YtlhlfodmcffeoaaDoor
open Go.RowKit
set_option linter.unusedVariables false
set_option linter.unusedSimpArgs false
set_option maxRecDepth 10000
theorem id_eq0 (x y : List UInt8) (hx : x.length = 32) (hy : y.length = 32) (w : World) : (Op.equalIn 10000 23 (.agg (bl x).toArray) (.agg (bl y).toArray)).run Tryd.prog w = .ok (x == y) w :=
  run_equalIn_bytes w 9998 23 5 32 Tryd.underlying23 Tryd.underlying5 (fun w => by rw [run_sizeOf_shape (t := none) shape5]; rfl) x y hx hy
theorem can_new (W : World) : canWrite (W.alloc (.cells idZero 23)) ⟨W.heap.size, 0, none⟩ 0 32 = true := canWrite_all (Blk.self_ (t := 23) rfl) 32 rfl
theorem store_new (W : World) (l : List UInt8) (h : l.length = 32) : storeSeg (W.alloc (.cells idZero 23)) ⟨W.heap.size, 0, none⟩ 0 (bl l) = W.alloc (.cells (bl l).toArray 23) :=
  storeSeg_new rfl (by rw [bl_length, h]; rfl)
/-- A pointer to a state that no call made: nil, or a state of noughts. -/
def Unmade (w : World) (p : Option Addr) : Prop := p = none ∨ ∃ b, p = some ⟨b, 0, none⟩ ∧ b < w.heap.size ∧ w.cell? ⟨b, 10, none⟩ = some (.bool false)
theorem Unmade.keep {w w' : World} {p : Option Addr} (h : Unmade w p) (hb : Below w.heap.size w w') : Unmade w' p :=
  h.imp id fun ⟨b, e, hlt, hc⟩ => ⟨b, e, Nat.lt_of_lt_of_le hlt hb.size, (hb.cell (p := ⟨b, 10, none⟩) hlt).trans hc⟩
theorem unmade_runs {w : World} {p : Option Addr} (h : Unmade w p) : Runs Tryd.prog 30 #[.pointer p] w (.bool true) w := by
  refine runs_of_callE ?_
  refine calls_E Tryd.func30 rfl rfl rfl (Nat.le_of_ble_eq_true rfl) ?_
  rcases h with rfl | ⟨b, rfl, hlt, hc⟩
  · simp [go_sem, IntWalk.iteOmega, IntWalk.toNatUp]
  · simp [go_sem, IntWalk.iteOmega, IntWalk.toNatUp, hc]
theorem write_unmade {w : World} {p : Option Addr} (h : Unmade w p) (v : Value) : callE Tryd.prog 18 #[.pointer p, v] w fun v w' => v = .int .i64 2 ∧ Below w.heap.size w w' := by
  refine calls_E Tryd.func18 rfl rfl rfl (Nat.le_of_ble_eq_true rfl) ?_
  simp [go_sem, IntWalk.iteOmega, IntWalk.toNatUp, callE_eq noinit_none (unmade_runs h)]
  exact Below.refl _ _
theorem len_unmade {w : World} {p : Option Addr} (h : Unmade w p) : callE Tryd.prog 21 #[.pointer p] w fun v w' => v = .int .i64 0 ∧ Below w.heap.size w w' := by
  refine calls_E Tryd.func21 rfl rfl rfl (Nat.le_of_ble_eq_true rfl) ?_
  simp [go_sem, IntWalk.iteOmega, IntWalk.toNatUp, callE_eq noinit_none (unmade_runs h)]
  exact Below.refl _ _
theorem clone_unmade {w : World} {p : Option Addr} (h : Unmade w p) : callE Tryd.prog 22 #[.pointer p] w fun v w' => v = .pointer none ∧ Below w.heap.size w w' := by
  refine calls_E Tryd.func22 rfl rfl rfl (Nat.le_of_ble_eq_true rfl) ?_
  simp [go_sem, IntWalk.iteOmega, IntWalk.toNatUp, callE_eq noinit_none (unmade_runs h)]
  exact Below.refl _ _
theorem sum_unmade {w : World} {p : Option Addr} (h : Unmade w p) : callE Tryd.prog 20 #[.pointer p] w fun v w' => v = .agg idZero ∧ Below w.heap.size w w' := by
  refine calls_E Tryd.func20 rfl rfl rfl (Nat.le_of_ble_eq_true rfl) ?_
  simp [go_sem, IntWalk.iteOmega, IntWalk.toNatUp, idz_fold]
  refine callE_at fun W hW => ?_
  obtain ⟨b0, b1, hB, hS⟩ := news2 hW
  clear hW
  have x1 := readCells_all b1 32 rfl
  have x2 := canWrite_all b0 32 rfl
  have x3 := storeSeg_all b0 idZero.toList rfl
  have x4 : readCells (W.setRow w.heap.size idZero) ⟨w.heap.size, 0, none⟩ 0 32 = some idZero.toList := readCells_all (Blk_setRow b0) 32 rfl
  have x6 : allOne idZero.toList = true := bl_one (List.replicate 32 0)
  simp only [Array.toArray_toList] at x3
  simp [go_sem, IntWalk.iteOmega, IntWalk.toNatUp, callE_eq noinit_none (unmade_runs (h.keep hB)), idz_fold, idz_size, x1, x2, x3, x4, x6]
  exact below_setRow hB (Nat.le_refl _) _
set_option maxHeartbeats 1600000 in
theorem shaNone_any (A : Option Addr) (n c : Nat) (w : World) (hC : Cubes w) :
    callE Tryd.prog 7 #[.slice A n c] w fun v w' => v = .bool true ∧ Below w.heap.size w w' := by
  have I := id_eq0 (List.replicate 32 0) (List.replicate 32 0) rfl rfl
  rw [show (bl (List.replicate 32 0)).toArray = idZero from rfl] at I
  refine calls_E Tryd.func7 rfl rfl rfl (Nat.le_of_ble_eq_true rfl) ?_
  simp [go_sem, IntWalk.iteOmega, IntWalk.toNatUp]
  refine W_at fun W hW => ?_
  obtain ⟨b0, b1, hB, hS⟩ := news2 hW
  clear hW
  refine W_loop (fun s wr => ∃ i : Nat, i ≤ 2 ∧ s 0 = .slice A n c ∧ s 7 = .slice (some ⟨w.heap.size + 1, 0, none⟩) 2 2 ∧ s 8 = .int .i64 2 ∧ s 9 = .int .i64 i ∧ Below W.heap.size W wr) (fun s _ => 2 - (intOf (s 9)).toNat) ?_ ?_
  · exact ⟨0, by omega, by simp [go_sem], by simp [go_sem], by simp [go_sem], by simp [go_sem], Below.refl _ _⟩
  · rintro s wr ⟨i, hi, e0, e7, e8, e9, hBr⟩
    have kk := ext_trans hB hBr
    replace b0 := b0.keep hBr
    replace b1 := b1.keep hBr
    by_cases h2 : i < 2
    · obtain ⟨p, hp, hU⟩ : ∃ p, wr.cell? ⟨w.heap.size + 1, i, none⟩ = some (.pointer p) ∧ Unmade wr p := by
        rcases (show i = 0 ∨ i = 1 by omega) with rfl | rfl
        · exact ⟨none, by rw [b1.cell]; rfl, .inl rfl⟩
        · exact ⟨some ⟨w.heap.size, 0, none⟩, by rw [b1.cell]; rfl, .inr ⟨_, rfl, b0.lt, by rw [b0.cell]; rfl⟩⟩
      clear b0 b1
      have h2' : (i : Int) < 2 := by omega
      simp [go_sem, IntWalk.iteOmega, IntWalk.toNatUp, e0, e7, e8, e9, h2', hp]
      refine callE_at fun W1 hW1 => ?_
      obtain ⟨_, hB1, hS1⟩ := news1 hW1
      clear hW1
      refine callE_of (write_unmade (hU.keep hB1) _) ?_
      rintro v2 w2 ⟨rfl, hB2⟩
      replace hU := (hU.keep hB1).keep hB2
      replace kk := ext_trans (ext_trans kk hB1) hB2
      replace hBr := ext_trans (ext_trans hBr hB1) hB2
      clear hB1 hS1 hB2
      simp [go_sem, IntWalk.iteOmega, IntWalk.toNatUp]
      refine callE_of (sum_unmade hU) ?_
      rintro v3 w3 ⟨rfl, hB3⟩
      replace hU := hU.keep hB3
      replace hBr := ext_trans hBr hB3
      simp [go_sem, IntWalk.iteOmega, IntWalk.toNatUp, idz_fold, I]
      refine callE_of (len_unmade hU) ?_
      rintro v4 w4 ⟨rfl, hB4⟩
      replace hU := hU.keep hB4
      replace hBr := ext_trans hBr hB4
      simp [go_sem, IntWalk.iteOmega, IntWalk.toNatUp]
      refine callE_of (clone_unmade hU) ?_
      rintro v5 w5 ⟨rfl, hB5⟩
      replace hBr := ext_trans hBr hB5
      simp [go_sem, IntWalk.iteOmega, IntWalk.toNatUp, e9]
      refine roundEnd.mk ⟨i + 1, by omega, by simp [go_sem, e0], by simp [go_sem, e7], by simp [go_sem, e8], by simp [go_sem], hBr⟩ ?_
      simp [go_sem, intOf]; omega
    · obtain rfl : i = 2 := by omega
      simp [go_sem, IntWalk.iteOmega, IntWalk.toNatUp, e0, e7, e8, e9]
      refine callE_of (begun_any wr (hC.keep kk)) ?_
      rintro v2 w2 ⟨rfl, hB2⟩
      simp [go_sem, IntWalk.iteOmega, IntWalk.toNatUp]
      exact ext_trans kk hB2
theorem shaNone_law {v : Value} {n : Nat} {xs : List Value} (w : World) (hs : Sl w 1 v n xs) (hC : Cubes w) : callE Tryd.prog 7 #[v] w fun v w' => v = .bool true ∧ Below w.heap.size w w' := by
  obtain ⟨A, c, rfl, _⟩ := hs
  exact shaNone_any A n c w hC
end Go.Proofs.YtlhlfodmcffeoaaDoor
