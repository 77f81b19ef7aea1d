/-
  The document's Need; the laws VdrShares and VdrNeed: their walks.
-/
import Derived.Test.YtoabdejoabfbeaaVAtLeast
namespace Go.Proofs.Ytoabdejoabfbeaa
open Go.RowKit
set_option linter.unusedVariables false
set_option linter.unusedSimpArgs false
set_option maxRecDepth 10000
def InI (x : Int) : Prop := -9223372036854775808 ≤ x ∧ x ≤ 9223372036854775807
def NeedOk (t n d : Int) : Prop := ¬ (t < 0 ∨ n < 0 ∨ d < 1 ∨ d < n)
theorem needV_ok {t n d : Int} (h : NeedOk t n d) : needV t n d = (t * n + (d - 1)) / d := if_neg h
theorem needV_bad {t n d : Int} (h : t < 0 ∨ n < 0 ∨ d < 1 ∨ d < n) : needV t n d = -1 := if_pos h
theorem needV_le {t n d : Int} (h : NeedOk t n d) (m : Int) : needV t n d ≤ m ↔ t * n ≤ m * d := by
  rw [needV_ok h]
  unfold NeedOk at h
  rw [← Int.lt_add_one_iff, Int.ediv_lt_iff_lt_mul (by omega), Int.add_mul]
  omega
theorem needV_nn {t n d : Int} (h : NeedOk t n d) : 0 ≤ needV t n d := by
  rw [needV_ok h]
  unfold NeedOk at h
  have h1 : 0 ≤ t * n := Int.mul_nonneg (by omega) (by omega)
  exact Int.ediv_nonneg (by omega) (by omega)
theorem needV_top {t n d : Int} (h : NeedOk t n d) : needV t n d ≤ t := by
  rw [needV_le h]
  unfold NeedOk at h
  exact Int.mul_le_mul_of_nonneg_left (by omega) (by omega)
theorem atLeast_need {t n d m : Int} (h : NeedOk t n d) (hm : 0 ≤ m) : atLeastV m t n d = decide (needV t n d ≤ m) := by
  unfold atLeastV
  apply decide_eq_decide.2
  rw [needV_le h]
  unfold NeedOk at h
  exact ⟨fun h => h.2, fun h' => ⟨by omega, h'⟩⟩
/-- more of more, and of a greater share -/
theorem needV_more {t n d t' n' : Int} (h : NeedOk t n d) (h' : NeedOk t' n' d) (ht : t ≤ t') (hn : n ≤ n') : needV t n d ≤ needV t' n' d := by
  rw [needV_le h]
  have h1 := (needV_le h' (needV t' n' d)).1 (Int.le_refl _)
  refine Int.le_trans ?_ h1
  unfold NeedOk at h h'
  exact Int.mul_le_mul ht hn (by omega) (by omega)
set_option maxHeartbeats 1600000 in
theorem rneed_any (t n d : Int) (ht : InI t) (hn : InI n) (hd : InI d) (w : World) :
    callE Try.prog 17 #[.int .i64 t, .int .i64 n, .int .i64 d] w fun v w' => v = .int .i64 (needV t n d) ∧ Below w.heap.size w w' := by
  unfold InI at ht hn hd
  refine calls_E Try.func17 rfl rfl rfl (Nat.le_of_ble_eq_true rfl) ?_
  by_cases h1 : t < 0
  · simp [go_sem, IntWalk.iteOmega, IntWalk.toNatUp, h1, needV_bad (.inl h1)]
    exact Below.refl _ _
  by_cases h2 : n < 0
  · simp [go_sem, IntWalk.iteOmega, IntWalk.toNatUp, h1, h2, needV_bad (.inr (.inl h2))]
    exact Below.refl _ _
  by_cases h3 : d < 1
  · simp [go_sem, IntWalk.iteOmega, IntWalk.toNatUp, h1, h2, h3, needV_bad (.inr (.inr (.inl h3)))]
    exact Below.refl _ _
  by_cases h4 : d < n
  · simp [go_sem, IntWalk.iteOmega, IntWalk.toNatUp, h1, h2, h3, h4, needV_bad (.inr (.inr (.inr h4)))]
    exact Below.refl _ _
  have hok : NeedOk t n d := by unfold NeedOk; omega
  have v0 := needV_nn hok
  have v1 := needV_top hok
  simp [go_sem, IntWalk.iteOmega, IntWalk.toNatUp, h1, h2, h3, h4]
  refine W_loop (fun st wr => ∃ lo hi : Int, st 0 = .int .i64 t ∧ st 1 = .int .i64 n ∧ st 2 = .int .i64 d ∧ st 7 = .int .i64 lo ∧ st 8 = .int .i64 hi ∧ 0 ≤ lo ∧ lo ≤ needV t n d ∧ needV t n d ≤ hi ∧ hi ≤ t ∧ Below w.heap.size w wr) (fun st _ => (intOf (st 8) - intOf (st 7)).toNat) ?_ ?_
  · exact ⟨0, t, by simp [go_sem], by simp [go_sem], by simp [go_sem], by simp [go_sem], by simp [go_sem], by omega, v0, v1, by omega, Below.refl _ _⟩
  · rintro st wr ⟨lo, hi, e0, e1, e2, e7, e8, l0, l1, l2, l3, hb⟩
    by_cases hlt : lo < hi
    · obtain ⟨m, hm, m1, m2⟩ : ∃ m : Int, m = lo + (hi - lo).tdiv 2 ∧ lo ≤ m ∧ m < hi := by
        have : (hi - lo).tdiv 2 = (hi - lo) / 2 := Int.tdiv_eq_ediv_of_nonneg (by omega)
        exact ⟨_, rfl, by omega, by omega⟩
      have hd2 : (hi - lo).tdiv 2 = m - lo := by omega
      have hcall := ratleast_any m t n d (by omega) (by omega) (by omega) (by omega) wr
      rw [atLeast_need hok (by omega)] at hcall
      simp [go_sem, IntWalk.iteOmega, IntWalk.toNatUp, e0, e1, e2, e7, e8, hlt, hd2, show lo + (m - lo) = m by omega]
      refine callE_of hcall ?_
      rintro _ w1 ⟨rfl, k1⟩
      by_cases hv : needV t n d ≤ m
      · simp [go_sem, IntWalk.iteOmega, IntWalk.toNatUp, e0, e1, e2, e7, e8, hv]
        refine roundEnd.mk ⟨lo, m, by simp [go_sem, e0], by simp [go_sem, e1], by simp [go_sem, e2], by simp [go_sem, e7], by simp [go_sem], l0, l1, hv, by omega, hb.trans (k1.mono hb.size)⟩ ?_
        simp [go_sem, intOf, e7, e8]; omega
      · simp [go_sem, IntWalk.iteOmega, IntWalk.toNatUp, e0, e1, e2, e7, e8, hv]
        refine roundEnd.mk ⟨m + 1, hi, by simp [go_sem, e0], by simp [go_sem, e1], by simp [go_sem, e2], by simp [go_sem], by simp [go_sem, e8], by omega, by omega, l2, by omega, hb.trans (k1.mono hb.size)⟩ ?_
        simp [go_sem, intOf, e7, e8]; omega
    · have he : lo = needV t n d := by omega
      simp [go_sem, IntWalk.iteOmega, IntWalk.toNatUp, e0, e1, e2, e7, e8, hlt, he]
      exact hb
theorem noinit_rneed : Try.prog.inits.idxOf? 17 = none := by kernel_rfl
set_option maxHeartbeats 1600000 in
theorem shares_any (s t n d : Int) (hs : InI s) (ht : InI t) (hn : InI n) (hd : InI d) (w : World) :
    callE Try.prog 4 #[.int .i64 s, .agg #[.int .i64 t, .int .i64 n, .int .i64 d]] w fun v w' => v = .bool true ∧ Below w.heap.size w w' := by
  refine calls_E Try.func4 rfl rfl rfl (Nat.le_of_ble_eq_true rfl) ?_
  simp [go_sem, IntWalk.iteOmega, IntWalk.toNatUp]
  have hb : Blk (w.alloc (.cells #[.int .i64 t, .int .i64 n, .int .i64 d] 28)) w.heap.size 28 #[.int .i64 t, .int .i64 n, .int .i64 d] := Blk.self_ rfl
  have hB := ext_alloc w (.cells #[.int .i64 t, .int .i64 n, .int .i64 d] 28)
  generalize w.alloc (.cells #[.int .i64 t, .int .i64 n, .int .i64 d] 28) = W at *
  have hl := hb.lt
  have hc := hb.cell
  unfold InI at *
  have c1 := fun k => anyCall_eq (W := W) (k := k) noinit_live (fun w _ => live_any w)
  have c2 := fun k => anyCall_eq (W := W) (k := k) noinit_vatleast (fun w _ => vatleast_any s t n d (by omega) (by omega) (by omega) (by omega) w)
  have c3 := fun k => anyCall_eq (W := W) (k := k) noinit_ratleast (fun w _ => ratleast_any s t n d (by omega) (by omega) (by omega) (by omega) w)
  have c4 := fun k => anyCall_eq (W := W) (k := k) noinit_vneed (fun w _ => vneed_any t n d (by omega) (by omega) (by omega) w)
  have c5 := fun k => anyCall_eq (W := W) (k := k) noinit_rneed (fun w _ => rneed_any t n d ht hn hd w)
  refine W_below follows (by kernel_rfl) ?_
  simp [go_sem, IntWalk.iteOmega, IntWalk.toNatUp, hl, hc, c1, c2, c3, c4, c5]
  exact fun w' h => hB.trans (h.mono hB.size)
set_option maxHeartbeats 3200000 in
theorem need_any (t n d more : Int) (ht : InI t) (hn : InI n) (hd : InI d) (hm : InI more) (w : World) :
    callE Try.prog 5 #[.agg #[.int .i64 t, .int .i64 n, .int .i64 d], .int .i64 more] w fun v w' => v = .bool true ∧ Below w.heap.size w w' := by
  refine calls_E Try.func5 rfl rfl rfl (Nat.le_of_ble_eq_true rfl) ?_
  simp [go_sem, IntWalk.iteOmega, IntWalk.toNatUp]
  have hb : Blk (w.alloc (.cells #[.int .i64 t, .int .i64 n, .int .i64 d] 28)) w.heap.size 28 #[.int .i64 t, .int .i64 n, .int .i64 d] := Blk.self_ rfl
  have hB := ext_alloc w (.cells #[.int .i64 t, .int .i64 n, .int .i64 d] 28)
  generalize w.alloc (.cells #[.int .i64 t, .int .i64 n, .int .i64 d] 28) = W at *
  have hc := hb.cell
  have ht' := ht
  have hn' := hn
  have hd' := hd
  unfold InI at ht hn hd hm
  refine callE_of (vneed_any t n d (by omega) (by omega) (by omega) W) ?_
  rintro _ w1 ⟨rfl, k1⟩
  have hb1 := hb.keep k1
  have hB := ext_trans hB k1
  have hc := hb1.cell
  simp [go_sem, IntWalk.iteOmega, IntWalk.toNatUp]
  refine callE_of (live_any w1) ?_
  rintro _ w2 ⟨rfl, k2⟩
  have hb2 := hb1.keep k2
  have hB := ext_trans hB k2
  have hc := hb2.cell
  have hl := hb2.lt
  by_cases hok : NeedOk t n d
  · have v0 := needV_nn hok
    have v1 := needV_top hok
    have hV : ¬ needV t n d < 0 := by omega
    have hV2 : ¬ t < needV t n d := by omega
    have a1 := fun k w => callE_of (k := k) (vatleast_any (needV t n d) t n d (by omega) (by omega) (by omega) (by omega) w)
    rw [atLeast_need hok v0] at a1
    have ht2 : decide (needV t n d ≤ needV t n d) = true := by simp
    rw [ht2] at a1
    simp [go_sem, IntWalk.iteOmega, IntWalk.toNatUp, hV, hc, hV2]
    refine a1 _ _ ?_
    rintro _ w3 ⟨rfl, k3⟩
    have hb3 := hb2.keep k3
    have hB := ext_trans hB k3
    have hc := hb3.cell
    have hl := hb3.lt
    have g1 : needV t n d ≤ needV (max more t) n d := needV_more hok (by unfold NeedOk at *; omega) (by omega) (by omega)
    have g2 : needV t n d ≤ needV t (max (min more d) n) d := needV_more hok (by unfold NeedOk at *; omega) (by omega) (by omega)
    by_cases hz : 0 < needV t n d
    · have a2 := vatleast_any (needV t n d - 1) t n d (by omega) (by omega) (by omega) (by omega) w3
      rw [atLeast_need hok (by omega), show decide (needV t n d ≤ needV t n d - 1) = false by simp; omega] at a2
      simp [go_sem, IntWalk.iteOmega, IntWalk.toNatUp, hV, hc, hV2, hz]
      refine callE_of a2 ?_
      rintro _ w4 ⟨rfl, k4⟩
      have hb4 := hb3.keep k4
      have hB := ext_trans hB k4
      have hc := hb4.cell
      have hl := hb4.lt
      simp [go_sem, IntWalk.iteOmega, IntWalk.toNatUp, hV, hc, hV2, hz]
      refine W_below follows (by kernel_rfl) ?_
      have c1 := fun k => anyCall_eq (W := w4) (k := k) noinit_vneed (fun w _ => vneed_any (max more t) n d (by omega) (by omega) (by omega) w)
      have c2 := fun k => anyCall_eq (W := w4) (k := k) noinit_vneed (fun w _ => vneed_any t (max (min more d) n) d (by omega) (by omega) (by omega) w)
      simp [go_sem, IntWalk.iteOmega, IntWalk.toNatUp, hc, hl, c1, c2, g1, g2]
      exact fun w' h => hB.trans (h.mono hB.size)
    · simp [go_sem, IntWalk.iteOmega, IntWalk.toNatUp, hV, hc, hV2, hz]
      refine W_below follows (by kernel_rfl) ?_
      have c1 := fun k => anyCall_eq (W := w3) (k := k) noinit_vneed (fun w _ => vneed_any (max more t) n d (by omega) (by omega) (by omega) w)
      have c2 := fun k => anyCall_eq (W := w3) (k := k) noinit_vneed (fun w _ => vneed_any t (max (min more d) n) d (by omega) (by omega) (by omega) w)
      simp [go_sem, IntWalk.iteOmega, IntWalk.toNatUp, hc, hl, c1, c2, g1, g2]
      exact fun w' h => hB.trans (h.mono hB.size)
  · have hbad : t < 0 ∨ n < 0 ∨ d < 1 ∨ d < n := Classical.not_not.1 hok
    rw [needV_bad hbad]
    simp [go_sem, IntWalk.iteOmega, IntWalk.toNatUp]
    refine callE_of (live_any w2) ?_
    rintro _ w3 ⟨rfl, k3⟩
    have hb3 := hb2.keep k3
    have hB := ext_trans hB k3
    have hc := hb3.cell
    by_cases h1 : t < 0
    · simp [go_sem, IntWalk.iteOmega, IntWalk.toNatUp, hc, h1]; exact hB
    by_cases h2 : n < 0
    · simp [go_sem, IntWalk.iteOmega, IntWalk.toNatUp, hc, h1, h2]; exact hB
    by_cases h3 : d < 1
    · simp [go_sem, IntWalk.iteOmega, IntWalk.toNatUp, hc, h1, h2, h3]; exact hB
    have h4 : d < n := by omega
    simp [go_sem, IntWalk.iteOmega, IntWalk.toNatUp, hc, h1, h2, h3, h4]
    exact hB
end Go.Proofs.Ytoabdejoabfbeaa
