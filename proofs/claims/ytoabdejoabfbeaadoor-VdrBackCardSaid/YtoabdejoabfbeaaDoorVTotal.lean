/-
  vdr.Total, vdr.At.
-/
import Derived.Test.YtoabdejoabfbeaaDoorVCheck
namespace Go.Proofs.YtoabdejoabfbeaaDoor
open Go.RowKit
set_option linter.unusedVariables false
set_option linter.unusedSimpArgs false
set_option maxRecDepth 10000
noncomputable def totalV (l : List Vd) : Int := if checkV l = 0 then wSum l l.length else 0
def atF (u : Int) : List Vd → Int → Int
  | [], _ => -1
  | x :: l, k => if u < x.weight then k else atF (u - x.weight) l (k + 1)
theorem atF_at {u : Int} {l : List Vd} {i : Nat} (h : i < l.length) : atF u (l.drop i) i = if u < (l[i]).weight then (i : Int) else atF (u - (l[i]).weight) (l.drop (i + 1)) ((i + 1 : Nat) : Int) := by
  rw [List.drop_eq_getElem_cons h]
  simp [atF]
noncomputable def atV (l : List Vd) (u : Int) : Int := if checkV l = 0 ∧ 0 ≤ u then atF u l 0 else -1
theorem check0 {l : List Vd} (h : checkV l = 0) : 1 ≤ l.length ∧ l.length ≤ 32 ∧ namesOk l l.length ∧ wOk l l.length := by
  unfold checkV at h
  split at h
  · cases h
  · rename_i h1
    split at h
    · cases h
    · rename_i h2
      split at h
      · cases h
      · rename_i h3
        exact ⟨by omega, by omega, Classical.not_not.1 h2, Classical.not_not.1 h3⟩
theorem noinit_vcheck : Tryd.prog.inits.idxOf? 12 = none := by kernel_rfl
theorem Sl_kept {w w' : World} {size n : Nat} {v : Value} {xs : List Value} (h : Sl w size v n xs) (hb : Below w.heap.size w w') : Sl w' size v n xs := by
  obtain ⟨A, c, h1, h2, h3⟩ := h
  exact ⟨A, c, h1, h2.keep hb, h3⟩
set_option maxHeartbeats 3200000 in
theorem vat_any (l : List Vd) (u : Int) (hu : -9223372036854775808 ≤ u ∧ u ≤ 9223372036854775807) (vl : Value) (w : World) (hs : Sl w 2 vl l.length (vdrs l)) (hN : ∀ x ∈ l, x.name.size ≤ 9223372036854775807) (hW : ∀ x ∈ l, -9223372036854775808 ≤ x.weight ∧ x.weight ≤ 9223372036854775807) :
    callE Tryd.prog 15 #[vl, .int .i64 u] w fun v w' => v = .int .i64 (atV l u) ∧ Below w.heap.size w w' := by
  have hchk := vcheck_any l vl w hs hN hW
  obtain ⟨A, cap, rfl, hrd, hA, hc1, hc2⟩ := id hs
  refine calls_E Tryd.func15 rfl rfl rfl (Nat.le_of_ble_eq_true rfl) ?_
  simp [go_sem, IntWalk.iteOmega, IntWalk.toNatUp]
  refine callE_of hchk ?_
  rintro _ w1 ⟨rfl, k1⟩
  by_cases hck : checkV l = 0
  · have hb0 : (checkV l != 0) = false := by simp [hck]
    by_cases hu0 : u < 0
    · have he : atV l u = -1 := by unfold atV; rw [if_neg (by omega)]
      simp [go_sem, IntWalk.iteOmega, IntWalk.toNatUp, hb0, hu0, he]
      exact k1
    · have he : atV l u = atF u l 0 := by unfold atV; rw [if_pos ⟨hck, by omega⟩]
      obtain ⟨q1, q2, q3, q4⟩ := check0 hck
      simp [go_sem, IntWalk.iteOmega, IntWalk.toNatUp, hb0, hu0]
      refine W_loop (fun st wr => ∃ (i : Nat) (r : Int), i ≤ l.length ∧ st 1 = .int .i64 r ∧ st 14 = .slice A l.length cap ∧ st 15 = .int .i64 l.length ∧ st 16 = .int .i64 i ∧ atF u l 0 = atF r (l.drop i) i ∧ 0 ≤ r ∧ r ≤ 9223372036854775807 ∧ Below w.heap.size w wr) (fun st _ => l.length - (intOf (st 16)).toNat) ?_ ?_
      · exact ⟨0, u, by omega, by simp [go_sem], by simp [go_sem], by simp [go_sem], by simp [go_sem], by simp, by omega, by omega, k1⟩
      · rintro st wr ⟨i, r, hi, e1, e14, e15, e16, hf, hr0, hr1, hbw⟩
        by_cases hlt : i < l.length
        · obtain ⟨b, o, rfl, hb, hc⟩ := hrd.cells (by omega)
          obtain ⟨a0, a1⟩ := vdrs_at l i hlt
          have x0 := hc _ _ a0
          have x1 := hc _ _ a1
          rw [← hbw.cell hb] at x0 x1
          rw [← Nat.add_assoc] at x1
          have hfa := atF_at (u := r) hlt
          rw [← hf] at hfa
          have hw1 := (q4 i hlt).1
          rw [← vAt_eq hlt] at hw1
          have hlt' : (i : Int) < l.length := by omega
          generalize l[i] = x at *
          have kA := hbw.alloc hbw.size (.cells #[.string x.name, .int .i64 x.weight] 32)
          by_cases hq : r < x.weight
          · rw [if_pos hq] at hfa
            simp [go_sem, IntWalk.iteOmega, IntWalk.toNatUp, e1, e14, e15, e16, hlt, hlt', x0, x1, hq, he, hfa]
            exact kA
          · rw [if_neg hq] at hfa
            simp [go_sem, IntWalk.iteOmega, IntWalk.toNatUp, e1, e14, e15, e16, hlt, hlt', x0, x1, hq]
            refine roundEnd.mk ⟨i + 1, r - x.weight, by omega, by simp [go_sem], by simp [go_sem, e14], by simp [go_sem, e15], by simp [go_sem], hfa, by omega, by omega, kA⟩ ?_
            simp [go_sem, intOf]; omega
        · obtain rfl : i = l.length := by omega
          rw [List.drop_length] at hf
          have hf' : atF u l 0 = -1 := hf
          simp [go_sem, IntWalk.iteOmega, IntWalk.toNatUp, e1, e14, e15, e16, he, hf']
          exact hbw
  · have hb0 : (checkV l != 0) = true := by simpa using hck
    have he : atV l u = -1 := by unfold atV; rw [if_neg fun h => hck h.1]
    simp [go_sem, IntWalk.iteOmega, IntWalk.toNatUp, hb0, he]
    exact k1
set_option maxHeartbeats 3200000 in
theorem vtotal_any (l : List Vd) (vl : Value) (w : World) (hs : Sl w 2 vl l.length (vdrs l)) (hN : ∀ x ∈ l, x.name.size ≤ 9223372036854775807) (hW : ∀ x ∈ l, -9223372036854775808 ≤ x.weight ∧ x.weight ≤ 9223372036854775807) :
    callE Tryd.prog 14 #[vl] w fun v w' => v = .int .i64 (totalV l) ∧ Below w.heap.size w w' := by
  have hchk := vcheck_any l vl w hs hN hW
  obtain ⟨A, cap, rfl, hrd, hA, hc1, hc2⟩ := id hs
  refine calls_E Tryd.func14 rfl rfl rfl (Nat.le_of_ble_eq_true rfl) ?_
  simp [go_sem, IntWalk.iteOmega, IntWalk.toNatUp]
  refine callE_of hchk ?_
  rintro _ w1 ⟨rfl, k1⟩
  by_cases hck : checkV l = 0
  · have hb0 : (checkV l != 0) = false := by simp [hck]
    have he : totalV l = wSum l l.length := by unfold totalV; rw [if_pos hck]
    obtain ⟨q1, q2, q3, q4⟩ := check0 hck
    simp [go_sem, IntWalk.iteOmega, IntWalk.toNatUp, hb0]
    refine W_loop (fun st wr => ∃ (i : Nat), i ≤ l.length ∧ st 3 = .int .i64 (wSum l i) ∧ st 9 = .slice A l.length cap ∧ st 10 = .int .i64 l.length ∧ st 11 = .int .i64 i ∧ Below w.heap.size w wr) (fun st _ => l.length - (intOf (st 11)).toNat) ?_ ?_
    · exact ⟨0, by omega, by simp [go_sem, wSum], by simp [go_sem], by simp [go_sem], by simp [go_sem], k1⟩
    · rintro st wr ⟨i, hi, e3, e9, e10, e11, hbw⟩
      by_cases hlt : i < l.length
      · obtain ⟨b, o, rfl, hb, hc⟩ := hrd.cells (by omega)
        obtain ⟨a0, a1⟩ := vdrs_at l i hlt
        have x0 := hc _ _ a0
        have x1 := hc _ _ a1
        rw [← hbw.cell hb] at x0 x1
        rw [← Nat.add_assoc] at x1
        have hst : wSum l (i + 1) = wSum l i + (vAt l i).weight := rfl
        have n1 := wSum_nn (l := l) (k := i) fun j hj => q4 j (by omega)
        have n2 := wSum_nn (l := l) (k := i + 1) fun j hj => q4 j (by omega)
        rw [← vAt_eq hlt] at hst
        have hlt' : (i : Int) < l.length := by omega
        rw [hst] at n2
        generalize l[i] = x at *
        generalize wSum l i = T at *
        have kA := hbw.alloc hbw.size (.cells #[.string x.name, .int .i64 x.weight] 32)
        simp [go_sem, IntWalk.iteOmega, IntWalk.toNatUp, e3, e9, e10, e11, hlt, hlt', x0, x1]
        refine roundEnd.mk ⟨i + 1, by omega, ?_, by simp [go_sem, e9], by simp [go_sem, e10], by simp [go_sem], kA⟩ ?_
        · rw [hst]; simp [go_sem]
        · simp [go_sem, intOf]; omega
      · obtain rfl : i = l.length := by omega
        simp [go_sem, IntWalk.iteOmega, IntWalk.toNatUp, e3, e9, e10, e11, he]
        exact hbw
  · have hb0 : (checkV l != 0) = true := by simpa using hck
    have he : totalV l = 0 := by unfold totalV; rw [if_neg hck]
    simp [go_sem, IntWalk.iteOmega, IntWalk.toNatUp, hb0, he]
    exact k1
end Go.Proofs.YtoabdejoabfbeaaDoor
