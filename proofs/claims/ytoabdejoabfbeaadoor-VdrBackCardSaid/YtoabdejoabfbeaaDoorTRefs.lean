/-
  The document's Find, Check, Total, At.
-/
import Derived.Test.YtoabdejoabfbeaaDoorVTotal
namespace Go.Proofs.YtoabdejoabfbeaaDoor
open Go.RowKit
set_option linter.unusedVariables false
set_option linter.unusedSimpArgs false
set_option maxRecDepth 10000
theorem noinit_rfind : Tryd.prog.inits.idxOf? 31 = none := by kernel_rfl
theorem noinit_rcheck : Tryd.prog.inits.idxOf? 19 = none := by kernel_rfl
set_option maxHeartbeats 1600000 in
theorem rfind_any (l : List Vd) (name : ByteArray) (vl : Value) (w : World) (hs : Sl w 2 vl l.length (vdrs l)) : callE Tryd.prog 31 #[vl, .string name] w fun v w' => v = .int .i64 (findV name l 0) ∧ Below w.heap.size w w' := by
  obtain ⟨A, cap, rfl, hrd, hA, hc1, hc2⟩ := id hs
  refine calls_E Tryd.func31 rfl rfl rfl (Nat.le_of_ble_eq_true rfl) ?_
  simp [go_sem, IntWalk.iteOmega, IntWalk.toNatUp]
  refine W_loop (fun st wr => ∃ i : Nat, i ≤ l.length ∧ st 0 = .slice A l.length cap ∧ st 1 = .string name ∧ st 5 = .int .i64 i ∧ findV name l 0 = findV name (l.drop i) i ∧ Below w.heap.size w wr) (fun st _ => l.length - (intOf (st 5)).toNat) ?_ ?_
  · exact ⟨0, by omega, by simp [go_sem], by simp [go_sem], by simp [go_sem], by simp, Below.refl _ _⟩
  · rintro st wr ⟨i, hi, e0, e1, e5, hf, hbw⟩
    by_cases hlt : i < l.length
    · obtain ⟨b, o, rfl, hb, hc⟩ := hrd.cells (by omega)
      obtain ⟨a0, a1⟩ := vdrs_at l i hlt
      have x0 := hc _ _ a0
      rw [← hbw.cell hb] at x0
      have hfa := findV_at (name := name) hlt
      rw [← hf] at hfa
      have hlt' : (i : Int) < l.length := by omega
      generalize l[i] = x at *
      by_cases hq : x.name.toList = name.toList
      · have hq' : (x.name.toList == name.toList) = true := by simp [hq]
        rw [if_pos hq] at hfa
        simp [go_sem, IntWalk.iteOmega, IntWalk.toNatUp, e0, e1, e5, hlt, hlt', x0, hq', hfa]
        exact hbw
      · have hq' : (x.name.toList == name.toList) = false := beq_eq_false_iff_ne.2 hq
        rw [if_neg hq] at hfa
        simp [go_sem, IntWalk.iteOmega, IntWalk.toNatUp, e0, e1, e5, hlt, hlt', x0, hq']
        refine roundEnd.mk ⟨i + 1, by omega, by simp [go_sem, e0], by simp [go_sem, e1], by simp [go_sem], hfa, hbw⟩ ?_
        simp [go_sem, intOf]; omega
    · obtain rfl : i = l.length := by omega
      rw [List.drop_length] at hf
      have hf' : findV name l 0 = -1 := hf
      simp [go_sem, IntWalk.iteOmega, IntWalk.toNatUp, e0, e1, e5, hf']
      exact hbw
set_option maxHeartbeats 6400000 in
theorem rcheck_any (l : List Vd) (vl : Value) (w : World) (hs : Sl w 2 vl l.length (vdrs l)) (hN : ∀ x ∈ l, x.name.size ≤ 9223372036854775807) (hW : ∀ x ∈ l, -9223372036854775808 ≤ x.weight ∧ x.weight ≤ 9223372036854775807) :
    callE Tryd.prog 19 #[vl] w fun v w' => v = .int .i64 (checkV l) ∧ Below w.heap.size w w' := by
  obtain ⟨A, cap, rfl, hrd, hA, hc1, hc2⟩ := id hs
  refine calls_E Tryd.func19 rfl rfl rfl (Nat.le_of_ble_eq_true rfl) ?_
  by_cases h1 : l.length < 1
  · have h1' : (l.length : Int) < 1 := by omega
    have he : checkV l = 3 := by unfold checkV; rw [if_pos (Or.inl h1)]
    simp [go_sem, IntWalk.iteOmega, IntWalk.toNatUp, h1', he]
    exact Below.refl _ _
  · by_cases h2 : 32 < l.length
    · have h1' : ¬ (l.length : Int) < 1 := by omega
      have h2' : (32 : Int) < l.length := by omega
      have he : checkV l = 3 := by unfold checkV; rw [if_pos (Or.inr h2)]
      simp [go_sem, IntWalk.iteOmega, IntWalk.toNatUp, h1', h2', he]
      exact Below.refl _ _
    · have h1' : ¬ (l.length : Int) < 1 := by omega
      have h2' : ¬ (32 : Int) < l.length := by omega
      have hlen : ¬ (l.length < 1 ∨ 32 < l.length) := by omega
      simp [go_sem, IntWalk.iteOmega, IntWalk.toNatUp, h1', h2']
      refine W_loop (fun st wr => ∃ i : Nat, i ≤ l.length ∧ st 0 = .slice A l.length cap ∧ st 3 = .int .i64 i ∧ namesOk l i ∧ Below w.heap.size w wr) (fun st _ => l.length - (intOf (st 3)).toNat) ?_ ?_
      · exact ⟨0, by omega, by simp [go_sem], by simp [go_sem], fun i hi => by omega, Below.refl _ _⟩
      · rintro st wr ⟨i, hi, e0, e3, hnm, hbw⟩
        by_cases hlt : i < l.length
        · obtain ⟨b, o, rfl, hb, hc⟩ := hrd.cells (by omega)
          obtain ⟨a0, a1⟩ := vdrs_at l i hlt
          have x0' := hc _ _ a0
          have x0 := x0'
          rw [← hbw.cell hb] at x0
          have hNi := hN _ (List.getElem_mem hlt)
          have hbad : ¬ (nameE (vAt l i).name = 0 ∧ findV (vAt l i).name l 0 = i) → checkV l = 50 := fun h => by
            unfold checkV
            rw [if_neg hlen, if_pos fun hh => h (hh i hlt)]
          have hgood : nameE (vAt l i).name = 0 ∧ findV (vAt l i).name l 0 = i → namesOk l (i + 1) := fun h j hj => by
            rcases Nat.lt_or_ge j i with hj' | hj'
            · exact hnm j hj'
            · obtain rfl : j = i := by omega
              exact h
          rw [← vAt_eq hlt] at hbad hgood
          generalize l[i] = x at *
          have hlt' : (i : Int) < l.length := by omega
          simp [go_sem, IntWalk.iteOmega, IntWalk.toNatUp, e0, e3, hlt, hlt', x0]
          refine callE_of (rname_any x.name hNi _) ?_
          rintro _ w3 ⟨rfl, k3⟩
          have kw3 := hbw.trans (k3.mono hbw.size)
          have x3 := x0'
          rw [← kw3.cell hb] at x3
          rcases nameE_01 x.name with hn0 | hn0
          · rw [hn0]
            simp [go_sem, IntWalk.iteOmega, IntWalk.toNatUp, e0, e3, hlt, hlt', x3]
            refine callE_of (rfind_any l x.name _ w3 ?_) ?_
            · obtain ⟨A', c', q1, q2, q3⟩ := hs
              exact ⟨A', c', q1, q2.keep kw3, q3⟩
            rintro _ w4 ⟨rfl, k4⟩
            have kw4 := kw3.trans (k4.mono kw3.size)
            by_cases hq : findV x.name l 0 = i
            · have hq' : (findV x.name l 0 != (i : Int)) = false := by simp [hq]
              simp [go_sem, IntWalk.iteOmega, IntWalk.toNatUp, e0, e3, hq']
              refine roundEnd.mk ⟨i + 1, by omega, by simp [go_sem, e0], by simp [go_sem], hgood ⟨hn0, hq⟩, kw4⟩ ?_
              simp [go_sem, intOf]; omega
            · have hq' : (findV x.name l 0 != (i : Int)) = true := by simpa using hq
              have he := hbad fun h => hq h.2
              simp [go_sem, IntWalk.iteOmega, IntWalk.toNatUp, e0, e3, hq', he]
              exact kw4
          · have he := hbad fun h => by rw [hn0] at h; exact absurd h.1 (by decide)
            rw [hn0]
            simp [go_sem, IntWalk.iteOmega, IntWalk.toNatUp, e0, e3, he]
            exact kw3
        · obtain rfl : i = l.length := by omega
          simp [go_sem, IntWalk.iteOmega, IntWalk.toNatUp, e0, e3]
          refine W_loop (fun st w2 => ∃ i : Nat, i ≤ l.length ∧ st 0 = .slice A l.length cap ∧ st 5 = .int .i64 i ∧ st 4 = .int .i64 (4611686018427387903 - wSum l i) ∧ wOk l i ∧ Below w.heap.size w w2) (fun st _ => l.length - (intOf (st 5)).toNat) ?_ ?_
          · exact ⟨0, by omega, by simp [go_sem, e0], by simp [go_sem], by simp [go_sem, wSum], fun i hi => by omega, hbw⟩
          · rintro st w2 ⟨i, hi, e0, e5, e4, hwk, hbw⟩
            have hnn := wSum_nn hwk
            by_cases hlt : i < l.length
            · obtain ⟨b, o, rfl, hb, hc⟩ := hrd.cells (by omega)
              obtain ⟨a0, a1⟩ := vdrs_at l i hlt
              have x1 := hc _ _ a1
              rw [← hbw.cell hb] at x1
              rw [← Nat.add_assoc] at x1
              have hbad : ¬ (1 ≤ (vAt l i).weight ∧ (vAt l i).weight ≤ 4611686018427387903 - wSum l i) → checkV l = 51 := fun h => by
                unfold checkV
                rw [if_neg hlen, if_neg (fun h => h hnm), if_pos fun hh => h (hh i hlt)]
              have hgood : 1 ≤ (vAt l i).weight ∧ (vAt l i).weight ≤ 4611686018427387903 - wSum l i → wOk l (i + 1) := fun h j hj => by
                rcases Nat.lt_or_ge j i with hj' | hj'
                · exact hwk j hj'
                · obtain rfl : j = i := by omega
                  exact h
              have hst : wSum l (i + 1) = wSum l i + (vAt l i).weight := rfl
              rw [← vAt_eq hlt] at hbad hgood hst
              generalize l[i] = x at *
              generalize wSum l i = T at *
              have hlt' : (i : Int) < l.length := by omega
              by_cases g1 : x.weight < 1
              · have he := hbad (by omega)
                simp [go_sem, IntWalk.iteOmega, IntWalk.toNatUp, e0, e5, e4, hlt, hlt', x1, g1, he]
                exact hbw
              · by_cases g2 : 4611686018427387903 - T < x.weight
                · have he := hbad (by omega)
                  simp [go_sem, IntWalk.iteOmega, IntWalk.toNatUp, e0, e5, e4, hlt, hlt', x1, g1, g2, he]
                  exact hbw
                · have HK := hgood (by omega)
                  simp [go_sem, IntWalk.iteOmega, IntWalk.toNatUp, e0, e5, e4, hlt, hlt', x1, g1, g2]
                  refine roundEnd.mk ⟨i + 1, by omega, by simp [go_sem, e0], by simp [go_sem], ?_, HK, hbw⟩ ?_
                  · rw [hst]; simp [go_sem]; omega
                  · simp [go_sem, intOf]; omega
            · obtain rfl : i = l.length := by omega
              have he : checkV l = 0 := by
                unfold checkV
                rw [if_neg hlen, if_neg (fun h => h hnm), if_neg (fun h => h hwk)]
              simp [go_sem, IntWalk.iteOmega, IntWalk.toNatUp, e0, e5, e4, he]
              exact hbw
end Go.Proofs.YtoabdejoabfbeaaDoor
