/-
  The law VdrSets: its walk.
-/
import Derived.Test.YtoabdejoabfbeaaVAll
import Derived.Test.YtoabdejoabfbeaaVLive
namespace Go.Proofs.Ytoabdejoabfbeaa
open Go.RowKit
set_option linter.unusedVariables false
set_option linter.unusedSimpArgs false
set_option maxRecDepth 10000
set_option maxHeartbeats 1600000 in
theorem equalV_same (xs : List Vd) (vx vy : Value) (w : World) (hx : Sl w 2 vx xs.length (vdrs xs)) (hy : Sl w 2 vy xs.length (vdrs xs)) :
    callE Try.prog 31 #[vx, vy] w fun v w' => v = .bool true ∧ Below w.heap.size w w' := by
  obtain ⟨A, cap, rfl, hrx, hA, hc1, hc2⟩ := id hx
  obtain ⟨B, cap2, rfl, hry, hB, hd1, hd2⟩ := id hy
  refine calls_E Try.func31 rfl rfl rfl (Nat.le_of_ble_eq_true rfl) ?_
  simp [go_sem, IntWalk.iteOmega, IntWalk.toNatUp]
  refine W_loop (fun st wr => ∃ i : Nat, i ≤ xs.length ∧ st 0 = .slice A xs.length cap ∧ st 1 = .slice B xs.length cap2 ∧ st 12 = .int .i64 xs.length ∧ st 13 = .int .i64 i ∧ Below w.heap.size w wr) (fun st _ => xs.length - (intOf (st 13)).toNat) ?_ ?_
  · exact ⟨0, by omega, by simp [go_sem], by simp [go_sem], by simp [go_sem], by simp [go_sem], Below.refl _ _⟩
  · rintro st wr ⟨i, hi, e0, e1, e12, e13, hbw⟩
    by_cases hlt : i < xs.length
    · obtain ⟨b, o, rfl, hb, hcx⟩ := hrx.cells (by omega)
      obtain ⟨b2, o2, rfl, hb2, hcy⟩ := hry.cells (by omega)
      obtain ⟨a0, a1⟩ := vdrs_at xs i hlt
      have x0 := hcx _ _ a0
      have x1 := hcx _ _ a1
      have y0 := hcy _ _ a0
      have y1 := hcy _ _ a1
      rw [← hbw.cell hb] at x0 x1
      rw [← hbw.cell hb2] at y0 y1
      rw [← Nat.add_assoc] at x1 y1
      have hlt' : (i : Int) < xs.length := by omega
      generalize xs[i] = x at *
      have hq := run_neq_vd x x wr.drew
      simp only [vdv, and_self, decide_true, Bool.not_true] at hq
      simp [go_sem, IntWalk.iteOmega, IntWalk.toNatUp, e0, e1, e12, e13, hlt, hlt']
      refine W_still follows (by kernel_rfl) ?_
      simp [go_sem, IntWalk.iteOmega, IntWalk.toNatUp, e0, e1, e12, e13, hlt, hlt', x0, x1, y0, y1, hq]
      refine roundEnd.mk ⟨i + 1, by omega, by simp [go_sem, e0], by simp [go_sem, e1], by simp [go_sem, e12], by simp [go_sem], hbw.drew⟩ ?_
      simp [go_sem, intOf]; omega
    · obtain rfl : i = xs.length := by omega
      simp [go_sem, IntWalk.iteOmega, IntWalk.toNatUp, e0, e1, e12, e13]
      exact hbw
set_option maxHeartbeats 12800000 in
theorem sets_any (l : List Vd) (name : ByteArray) (most : Nat) (hm : most ≤ 255) (hname : name.size ≤ 9223372036854775807) (vl : Value) (w : World) (hs : Sl w 2 vl l.length (vdrs l)) (hN : NamesIn l) (hW : WeightsIn l) :
    callE Try.prog 8 #[vl, .string name, .int .u8 most] w fun v w' => v = .bool true ∧ Below w.heap.size w w' := by
  obtain ⟨A, cap, rfl, hrd, hA, hc1, hc2⟩ := id hs
  refine calls_E Try.func8 rfl rfl rfl (Nat.le_of_ble_eq_true rfl) ?_
  simp [go_sem, IntWalk.iteOmega, IntWalk.toNatUp]
  refine callE_of (live_any w) ?_
  rintro _ w1 ⟨rfl, k1⟩
  simp [go_sem, IntWalk.iteOmega, IntWalk.toNatUp]
  refine callE_of (few_any l _ w1 (Sl_kept hs k1) hN) ?_
  rintro _ w2 ⟨rfl, k2⟩
  have kk := ext_trans k1 k2
  by_cases hf : fewV l = true
  · have hlen := few_50 hf
    rw [hf]
    by_cases hq : 300 < name.size
    · have hq' : (300 : Int) < name.size := by omega
      simp [go_sem, IntWalk.iteOmega, IntWalk.toNatUp, hq']
      refine callE_of (live_any w2) ?_
      rintro _ w4 ⟨rfl, k4⟩
      simp [go_sem, IntWalk.iteOmega, IntWalk.toNatUp]
      exact ext_trans kk k4
    · have hq' : ¬ (300 : Int) < name.size := by omega
      simp [go_sem, IntWalk.iteOmega, IntWalk.toNatUp, hq']
      refine W_tree (.pure 0 (.pure 2 (.one 1 (.one 3 (.pure 4 (.pure 5 (.pure 6 (.pure 8 (.one 7 (.one 9 (.pure 10 (.pure 11 (.pure 12 (.pure 13 (.pure 14 (.pure 16 (.pure 17 (.one 15 (.one 18 (.pure 19 (.pure 20 (.pure 21 (.pure 22 (.pure 25 (.one 23 (.one 24 (.one 26 (.pure 27 (.pure 28 (.pure 29 (.pure 31 (.pure 32 (.pure 34 (.pure 35 (.pure 36 (.pure 37 (.pure 38 (.pure 39 (.pure 40 (.one 30 (.one 33 (.one 41 (.pure 42 (.pure 43 (.done))))))))))))))))))))))))))))))))))))))))))))) follows (by kernel_rfl) ?_
      have kk : Below w.heap.size w w2.drew := kk.drew
      generalize w2.drew = w2 at *
      simp [go_sem, IntWalk.iteOmega, IntWalk.toNatUp]
      refine callE_of (vcheck_any l _ w2 (Sl_kept hs kk) hN hW) ?_
      rintro _ w3 ⟨rfl, k3⟩
      have kk := ext_trans kk k3
      simp [go_sem, IntWalk.iteOmega, IntWalk.toNatUp]
      refine callE_of (rcheck_any l _ w3 (Sl_kept hs kk) hN hW) ?_
      rintro _ w4 ⟨rfl, k4⟩
      have kk := ext_trans kk k4
      simp [go_sem, IntWalk.iteOmega, IntWalk.toNatUp]
      refine callE_of (vtotal_any l _ w4 (Sl_kept hs kk) hN hW) ?_
      rintro _ w5 ⟨rfl, k5⟩
      have kk := ext_trans kk k5
      simp [go_sem, IntWalk.iteOmega, IntWalk.toNatUp]
      refine callE_of (rtotal_any l _ w5 (Sl_kept hs kk) hN hW) ?_
      rintro _ w6 ⟨rfl, k6⟩
      have kk := ext_trans kk k6
      simp [go_sem, IntWalk.iteOmega, IntWalk.toNatUp]
      refine callE_of (vfind_any l name _ w6 (Sl_kept hs kk)) ?_
      rintro _ w7 ⟨rfl, k7⟩
      have kk := ext_trans kk k7
      simp [go_sem, IntWalk.iteOmega, IntWalk.toNatUp]
      refine callE_of (rfind_any l name _ w7 (Sl_kept hs kk)) ?_
      rintro _ w8 ⟨rfl, k8⟩
      have kk := ext_trans kk k8
      simp [go_sem, IntWalk.iteOmega, IntWalk.toNatUp]
      refine callE_of (all_any l _ w8 (Sl_kept hs kk) (by omega)) ?_
      rintro _ w9 ⟨g, A', cap', rfl, hg, hsl, hgA, k9⟩
      have kk := ext_trans kk k9
      simp [go_sem, IntWalk.iteOmega, IntWalk.toNatUp]
      refine callE_of (told_any l 1048576 _ enters41 _ (fun j => j = g ∨ atBlock A' j) w9 (all_seq l A' cap' g w9 hg hsl) ?_ (by omega) (by omega)) ?_
      · rintro j (h | h)
        · rw [h]; exact hg.lt
        · exact hgA j h
      rintro v10 w10 ⟨s10, k10⟩
      have kk := ext_trans kk k10
      rw [List.take_of_length_le (by omega)] at s10
      simp [go_sem, IntWalk.iteOmega, IntWalk.toNatUp]
      refine callE_of (equalV_same l _ _ w10 s10 (Sl_kept hs kk)) ?_
      rintro _ w11 ⟨rfl, k11⟩
      have kk := ext_trans kk k11
      have hmn : min (l.length : Int) (most : Int) = ((min l.length most : Nat) : Int) := by omega
      have hmc : ((min l.length most : Nat) : Int) ≤ cap := by omega
      have hmc' : min l.length most ≤ cap := by omega
      have htk : l.take (min l.length most) = l.take most := by
        rcases Nat.le_total l.length most with h | h
        · rw [Nat.min_eq_left h, List.take_length, List.take_of_length_le h]
        · rw [Nat.min_eq_right h]
      have hfront := Sl_front hs (k := min l.length most) (by omega)
      rw [htk] at hfront
      simp [go_sem, IntWalk.iteOmega, IntWalk.toNatUp, hmn, hmc, hmc']
      refine callE_of (all_any l _ w11 (Sl_kept hs kk) (by omega)) ?_
      rintro _ w12 ⟨g2, A2, cap2, rfl, hg2, hsl2, hgA2, k12⟩
      have kk := ext_trans kk k12
      simp [go_sem, IntWalk.iteOmega, IntWalk.toNatUp]
      refine callE_of (told_any l most _ enters41 _ (fun j => j = g2 ∨ atBlock A2 j) w12 (all_seq l A2 cap2 g2 w12 hg2 hsl2) ?_ (by omega) (by omega)) ?_
      · rintro j (h | h)
        · rw [h]; exact hg2.lt
        · exact hgA2 j h
      rintro v13 w13 ⟨s13, k13⟩
      have kk := ext_trans kk k13
      simp [go_sem, IntWalk.iteOmega, IntWalk.toNatUp]
      refine callE_of (equalV_same (l.take most) _ _ w13 s13 (Sl_kept hfront kk)) ?_
      rintro _ w14 ⟨rfl, k14⟩
      have kk := ext_trans kk k14
      simp [go_sem, IntWalk.iteOmega, IntWalk.toNatUp]
      exact kk
  · have hf' : fewV l = false := by simpa using hf
    rw [hf']
    simp [go_sem, IntWalk.iteOmega, IntWalk.toNatUp]
    refine callE_of (live_any w2) ?_
    rintro _ w4 ⟨rfl, k4⟩
    simp [go_sem, IntWalk.iteOmega, IntWalk.toNatUp]
    exact ext_trans kk k4
theorem sets_any' (l : List Vd) (name : ByteArray) (most : Int) (hm : 0 ≤ most ∧ most ≤ 255) (hname : name.size ≤ 9223372036854775807) (vl : Value) (w : World) (hs : Sl w 2 vl l.length (vdrs l)) (hN : NamesIn l) (hW : WeightsIn l) :
    callE Try.prog 8 #[vl, .string name, .int .u8 most] w fun v w' => v = .bool true ∧ Below w.heap.size w w' := by
  obtain ⟨m, rfl⟩ : ∃ m : Nat, most = m := ⟨most.toNat, by omega⟩
  exact sets_any l name m (by omega) hname vl w hs hN hW
end Go.Proofs.Ytoabdejoabfbeaa
