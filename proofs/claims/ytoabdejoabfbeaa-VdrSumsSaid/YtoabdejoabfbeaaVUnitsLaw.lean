/-
  The law VdrUnits: its walk.
-/
import Derived.Test.YtoabdejoabfbeaaVUnits
namespace Go.Proofs.Ytoabdejoabfbeaa
open Go.RowKit
set_option linter.unusedVariables false
set_option linter.unusedSimpArgs false
set_option maxRecDepth 10000
theorem atF_find {l : List Vd} : ∀ (n i : Nat) (r : Int), i + n = l.length → 0 ≤ r →
    (∃ j : Nat, j < l.length ∧ atF r (l.drop i) i = j ∧ wSum l j ≤ wSum l i + r ∧ wSum l i + r < wSum l (j + 1)) ∨ (wSum l l.length ≤ wSum l i + r ∧ atF r (l.drop i) i = -1)
  | 0, i, r, hn, hr => by
    obtain rfl : i = l.length := by omega
    exact .inr ⟨by omega, by rw [List.drop_length]; rfl⟩
  | n + 1, i, r, hn, hr => by
    have hi : i < l.length := by omega
    have hst : wSum l (i + 1) = wSum l i + (vAt l i).weight := rfl
    rw [atF_at hi, vAt_eq hi]
    by_cases hq : r < (vAt l i).weight
    · rw [if_pos hq]
      exact .inl ⟨i, hi, rfl, by omega, by rw [hst]; omega⟩
    · rw [if_neg hq]
      have h := atF_find (l := l) n (i + 1) (r - (vAt l i).weight) (by omega) (by omega)
      rw [hst, show wSum l i + (vAt l i).weight + (r - (vAt l i).weight) = wSum l i + r by omega] at h
      exact h
theorem wSum_mono {l : List Vd} (hw : wOk l l.length) : ∀ (j i : Nat), i < j → j ≤ l.length → wSum l i < wSum l j
  | 0, i, h, _ => by omega
  | j + 1, i, h, hj => by
    have hst : wSum l (j + 1) = wSum l j + (vAt l j).weight := rfl
    have h1 := (hw j (by omega)).1
    by_cases hij : i = j
    · subst hij; omega
    · have := wSum_mono hw j i (by omega) (by omega); omega
theorem at_spec {l : List Vd} (hc : checkV l = 0) {u : Int} (hu : 0 ≤ u) : (u < wSum l l.length ∧ ∃ j : Nat, j < l.length ∧ atV l u = j ∧ wSum l j ≤ u ∧ u < wSum l (j + 1)) ∨ (wSum l l.length ≤ u ∧ atV l u = -1) := by
  obtain ⟨q1, q2, q3, q4⟩ := check0 hc
  have he : atV l u = atF u l 0 := by unfold atV; rw [if_pos ⟨hc, hu⟩]
  have h := atF_find (l := l) l.length 0 u (by omega) hu
  rw [List.drop_zero] at h
  rw [show wSum l 0 = 0 from rfl] at h
  rw [he]
  rcases h with ⟨j, h1, h2, h3, h4⟩ | ⟨h1, h2⟩
  · refine .inl ⟨?_, j, h1, h2, by omega, by omega⟩
    by_cases hj : j + 1 = l.length
    · rw [← hj]; omega
    · have := wSum_mono q4 l.length (j + 1) (by omega) (Nat.le_refl _); omega
  · exact .inr ⟨by omega, h2⟩
theorem at_is {l : List Vd} (hc : checkV l = 0) {i : Nat} (hi : i < l.length) {u : Int} (h1 : wSum l i ≤ u) (h2 : u < wSum l (i + 1)) : atV l u = i := by
  obtain ⟨q1, q2, q3, q4⟩ := check0 hc
  have h0 := (wSum_nn (l := l) (k := i) fun m hm => q4 m (by omega)).1
  rcases at_spec hc (u := u) (by omega) with ⟨_, j, hj, e, h3, h4⟩ | ⟨h3, _⟩
  · rw [e]
    have : i = j := by
      rcases Nat.lt_trichotomy i j with h | h | h
      · have : wSum l (i + 1) ≤ wSum l j := by
          by_cases hij : i + 1 = j
          · rw [hij]; exact Int.le_refl _
          · exact Int.le_of_lt (wSum_mono q4 j (i + 1) (by omega) (by omega))
        omega
      · exact h
      · have : wSum l (j + 1) ≤ wSum l i := by
          by_cases hij : j + 1 = i
          · rw [hij]; exact Int.le_refl _
          · exact Int.le_of_lt (wSum_mono q4 i (j + 1) (by omega) (by omega))
        omega
    rw [this]
  · exfalso
    have : wSum l (i + 1) ≤ wSum l l.length := by
      by_cases hij : i + 1 = l.length
      · rw [hij]; exact Int.le_refl _
      · exact Int.le_of_lt (wSum_mono q4 l.length (i + 1) (by omega) (by omega))
    omega
theorem at_neg {l : List Vd} {u : Int} (hu : u < 0) : atV l u = -1 := by unfold atV; rw [if_neg (by omega)]
theorem total_is {l : List Vd} (hc : checkV l = 0) : totalV l = wSum l l.length := if_pos hc
set_option maxHeartbeats 6400000 in
theorem units_any (l : List Vd) (unit : Int) (hu : -9223372036854775808 ≤ unit ∧ unit ≤ 9223372036854775807) (vl : Value) (w : World) (hs : Sl w 2 vl l.length (vdrs l)) (hN : NamesIn l) (hW : WeightsIn l) :
    callE Try.prog 6 #[vl, .int .i64 unit] w fun v w' => v = .bool true ∧ Below w.heap.size w w' := by
  obtain ⟨A, cap, rfl, hrd, hA, hc1, hc2⟩ := id hs
  refine calls_E Try.func6 rfl rfl rfl (Nat.le_of_ble_eq_true rfl) ?_
  simp [go_sem, IntWalk.iteOmega, IntWalk.toNatUp]
  refine callE_of (live_any w) ?_
  rintro _ w1 ⟨rfl, k1⟩
  simp [go_sem, IntWalk.iteOmega, IntWalk.toNatUp]
  refine callE_of (few_any l _ w1 (Sl_kept hs k1) hN) ?_
  rintro _ w2 ⟨rfl, k2⟩
  have kk := ext_trans k1 k2
  by_cases hf : fewV l = true
  · rw [hf]
    simp [go_sem, IntWalk.iteOmega, IntWalk.toNatUp]
    refine callE_of (vcheck_any l _ w2 (Sl_kept hs kk) hN hW) ?_
    rintro _ w3 ⟨rfl, k3⟩
    have kk := ext_trans kk k3
    by_cases hck : checkV l = 0
    · rw [hck]
      obtain ⟨q1, q2, q3, q4⟩ := check0 hck
      simp [go_sem, IntWalk.iteOmega, IntWalk.toNatUp]
      refine callE_of (vtotal_any l _ w3 (Sl_kept hs kk) hN hW) ?_
      rintro _ w4 ⟨rfl, k4⟩
      have kk := ext_trans kk k4
      rw [total_is hck]
      simp [go_sem, IntWalk.iteOmega, IntWalk.toNatUp]
      refine W_loop (fun st wr => ∃ i : Nat, i ≤ l.length ∧ st 0 = .slice A l.length cap ∧ st 1 = .int .i64 unit ∧ st 5 = .int .i64 (wSum l l.length) ∧ st 6 = .int .i64 (wSum l i) ∧ st 29 = .slice A l.length cap ∧ st 30 = .int .i64 l.length ∧ st 31 = .int .i64 i ∧ Below w.heap.size w wr) (fun st _ => l.length - (intOf (st 31)).toNat) ?_ ?_
      · exact ⟨0, by omega, by simp [go_sem], by simp [go_sem], by simp [go_sem], by simp [go_sem, wSum], by simp [go_sem], by simp [go_sem], by simp [go_sem], kk⟩
      · clear kk
        rintro st wr ⟨i, hi, e0, e1, e5, e6, e29, e30, e31, hbw⟩
        have hnn := wSum_nn q4
        by_cases hlt : i < l.length
        · obtain ⟨b, o, rfl, hb, hc⟩ := hrd.cells (by omega)
          obtain ⟨a0, a1⟩ := vdrs_at l i hlt
          have x0 := hc _ _ a0
          have x1 := hc _ _ a1
          rw [← hbw.cell hb] at x0 x1
          rw [← Nat.add_assoc] at x1
          rw [vAt_eq hlt] at x0 x1
          have hlt' : (i : Int) < l.length := by omega
          have hst : wSum l (i + 1) = wSum l i + (vAt l i).weight := rfl
          have n0 := wSum_nn (l := l) (k := i) fun m hm => q4 m (by omega)
          have n1 := wSum_nn (l := l) (k := i + 1) fun m hm => q4 m (by omega)
          have hwi := (q4 i hlt).1
          have hun : unitsV l i = (wSum l i, (vAt l i).weight) := if_pos ⟨hck, by omega, by omega⟩
          have ha1 := at_is hck hlt (u := wSum l i) (Int.le_refl _) (by omega)
          have ha2 := at_is hck hlt (u := wSum l i + (vAt l i).weight - 1) (by omega) (by omega)
          rw [hst] at n1
          have hxb : Blk (wr.alloc (.cells #[.string (vAt l i).name, .int .i64 (vAt l i).weight] 38)) wr.heap.size 38 #[.string (vAt l i).name, .int .i64 (vAt l i).weight] := Blk.self_ rfl
          have kA := hbw.alloc hbw.size (.cells #[.string (vAt l i).name, .int .i64 (vAt l i).weight] 38)
          simp [go_sem, IntWalk.iteOmega, IntWalk.toNatUp, e0, e1, e5, e6, e29, e30, e31, hlt, hlt', x0, x1]
          generalize wr.alloc (.cells #[.string (vAt l i).name, .int .i64 (vAt l i).weight] 38) = W1 at *
          refine callE_of (vunits_any l i _ W1 (Sl_kept hs kA) hN hW) ?_
          rintro _ w2 ⟨rfl, k2⟩
          have hxb2 := hxb.keep k2
          have k2 := kA.trans (k2.mono kA.size)
          have hx := hxb2.cell
          simp only [unitsR, hun]
          simp [go_sem, IntWalk.iteOmega, IntWalk.toNatUp, e0, e1, e5, e6, e29, e30, e31, hx]
          refine callE_of (vat_any l (wSum l i) (by omega) _ w2 (Sl_kept hs k2) hN hW) ?_
          rintro _ w3 ⟨rfl, k3⟩
          have k3 := k2.trans (k3.mono k2.size)
          rw [ha1]
          simp [go_sem, IntWalk.iteOmega, IntWalk.toNatUp, e0, e1, e5, e6, e29, e30, e31]
          refine callE_of (vat_any l (wSum l i + (vAt l i).weight - 1) (by omega) _ w3 (Sl_kept hs k3) hN hW) ?_
          rintro _ w4 ⟨rfl, k4⟩
          have k4 := k3.trans (k4.mono k3.size)
          rw [ha2]
          simp [go_sem, IntWalk.iteOmega, IntWalk.toNatUp, e0, e1, e5, e6, e29, e30, e31]
          refine roundEnd.mk ⟨i + 1, by omega, by simp [go_sem, e0], by simp [go_sem, e1], by simp [go_sem, e5], ?_, by simp [go_sem, e29], by simp [go_sem, e30], by simp [go_sem], k4⟩ ?_
          · rw [hst]; simp [go_sem]
          · simp [go_sem, intOf]; omega
        · obtain rfl : i = l.length := by omega
          simp [go_sem, IntWalk.iteOmega, IntWalk.toNatUp, e0, e1, e5, e6, e29, e30, e31]
          refine callE_of (vat_any l unit hu _ wr (Sl_kept hs hbw) hN hW) ?_
          rintro _ w2 ⟨rfl, k2⟩
          have k2 := hbw.trans (k2.mono hbw.size)
          by_cases h1 : unit < 0
          · rw [at_neg h1]
            simp [go_sem, IntWalk.iteOmega, IntWalk.toNatUp, e0, e1, e5, e6, h1]
            exact k2
          · rcases at_spec hck (u := unit) (by omega) with ⟨h2, j, hj, e, h3, h4⟩ | ⟨h2, e⟩
            · rw [e]
              have h2' : ¬ wSum l l.length ≤ unit := by omega
              simp [go_sem, IntWalk.iteOmega, IntWalk.toNatUp, e0, e1, e5, e6, h1, h2']
              refine callE_of (vunits_any l j _ w2 (Sl_kept hs k2) hN hW) ?_
              rintro _ w3 ⟨rfl, k3⟩
              have k3 := k2.trans (k3.mono k2.size)
              have hun : unitsV l j = (wSum l j, (vAt l j).weight) := if_pos ⟨hck, by omega, by omega⟩
              have hst : wSum l (j + 1) = wSum l j + (vAt l j).weight := rfl
              have n0 := wSum_nn (l := l) (k := j) fun m hm => q4 m (by omega)
              have h5 : unit - wSum l j < (vAt l j).weight := by omega
              have h6 : IntKind.i64.wrap (unit - wSum l j) = unit - wSum l j := by rw [IntKind.wrap_i64]; omega
              simp only [unitsR, hun]
              simp [go_sem, IntWalk.iteOmega, IntWalk.toNatUp, e0, e1, e5, e6, h3, h5, h6]
              exact k3
            · rw [e]
              simp [go_sem, IntWalk.iteOmega, IntWalk.toNatUp, e0, e1, e5, e6, h1, h2]
              exact k2
    · have hb0 : (checkV l != 0) = true := by simpa using hck
      simp [go_sem, IntWalk.iteOmega, IntWalk.toNatUp, hb0]
      refine callE_of (live_any w3) ?_
      rintro _ w4 ⟨rfl, k4⟩
      simp [go_sem, IntWalk.iteOmega, IntWalk.toNatUp]
      exact ext_trans kk k4
  · have hf' : fewV l = false := by simpa using hf
    rw [hf']
    simp [go_sem, IntWalk.iteOmega, IntWalk.toNatUp]
    refine callE_of (live_any w2) ?_
    rintro _ w4 ⟨rfl, k4⟩
    simp [go_sem, IntWalk.iteOmega, IntWalk.toNatUp]
    exact ext_trans kk k4
end Go.Proofs.Ytoabdejoabfbeaa
