/-
  vdr.Check: whether a set may be.
-/
import Derived.Test.YtoabdejoabfbeaaDoorVSet
namespace Go.Proofs.YtoabdejoabfbeaaDoor
open Go.RowKit
set_option linter.unusedVariables false
set_option linter.unusedSimpArgs false
set_option maxRecDepth 10000
def vAt (l : List Vd) (i : Nat) : Vd := l.getD i ⟨ByteArray.empty, 0⟩
theorem vAt_eq {l : List Vd} {i : Nat} (h : i < l.length) : l[i] = vAt l i := by simp [vAt, List.getD, h]
def namesOk (l : List Vd) (k : Nat) : Prop := ∀ i, i < k → nameE (vAt l i).name = 0 ∧ findV (vAt l i).name l 0 = i
def wSum (l : List Vd) : Nat → Int
  | 0 => 0
  | i + 1 => wSum l i + (vAt l i).weight
def wOk (l : List Vd) (k : Nat) : Prop := ∀ i, i < k → 1 ≤ (vAt l i).weight ∧ (vAt l i).weight ≤ 4611686018427387903 - wSum l i
open Classical in
noncomputable def checkV (l : List Vd) : Int := if l.length < 1 ∨ 32 < l.length then 3 else if ¬ namesOk l l.length then 50 else if ¬ wOk l l.length then 51 else 0
theorem wSum_nn {l : List Vd} : ∀ {k : Nat}, wOk l k → 0 ≤ wSum l k ∧ wSum l k ≤ 4611686018427387903
  | 0, _ => by simp [wSum]
  | k + 1, h => by
    have h1 := wSum_nn (k := k) fun i hi => h i (by omega)
    have h2 := h k (by omega)
    simp only [wSum]; omega
theorem nameE_01 (s : ByteArray) : nameE s = 0 ∨ nameE s = 50 := by unfold nameE; split <;> simp
set_option maxHeartbeats 6400000 in
theorem vcheck_any (l : List Vd) (vl : Value) (w : World) (hs : Sl w 2 vl l.length (vdrs l)) (hN : ∀ x ∈ l, x.name.size ≤ 9223372036854775807) (hW : ∀ x ∈ l, -9223372036854775808 ≤ x.weight ∧ x.weight ≤ 9223372036854775807) :
    callE Tryd.prog 12 #[vl] w fun v w' => v = .int .i64 (checkV l) ∧ Below w.heap.size w w' := by
  obtain ⟨A, cap, rfl, hrd, hA, hc1, hc2⟩ := id hs
  refine calls_E Tryd.func12 rfl rfl rfl (Nat.le_of_ble_eq_true rfl) ?_
  by_cases h1 : l.length < 1
  · have h1' : (l.length : Int) < 1 := by omega
    have he : checkV l = 3 := by unfold checkV; rw [if_pos (Or.inl h1)]
    simp [go_sem, IntWalk.iteOmega, IntWalk.toNatUp, h1', he]
    exact Below.refl _ _
  · by_cases h2 : 32 < l.length
    · have h1' : ¬ (l.length : Int) < 1 := by omega
      have h2' : (32 : Int) < l.length := by omega
      have he : checkV l = 3 := by unfold checkV; rw [if_pos (Or.inr h2)]
      simp [go_sem, IntWalk.iteOmega, IntWalk.toNatUp, h1', h2', he]
      exact Below.refl _ _
    · have h1' : ¬ (l.length : Int) < 1 := by omega
      have h2' : ¬ (32 : Int) < l.length := by omega
      have hlen : ¬ (l.length < 1 ∨ 32 < l.length) := by omega
      simp [go_sem, IntWalk.iteOmega, IntWalk.toNatUp, h1', h2']
      refine W_loop (fun st wr => ∃ i : Nat, i ≤ l.length ∧ st 0 = .slice A l.length cap ∧ st 16 = .slice A l.length cap ∧ st 17 = .int .i64 l.length ∧ st 18 = .int .i64 i ∧ namesOk l i ∧ Below w.heap.size w wr) (fun st _ => l.length - (intOf (st 18)).toNat) ?_ ?_
      · exact ⟨0, by omega, by simp [go_sem], by simp [go_sem], by simp [go_sem], by simp [go_sem], fun i hi => by omega, Below.refl _ _⟩
      · rintro st wr ⟨i, hi, e0, e16, e17, e18, hnm, hbw⟩
        by_cases hlt : i < l.length
        · obtain ⟨b, o, rfl, hb, hc⟩ := hrd.cells (by omega)
          obtain ⟨a0, a1⟩ := vdrs_at l i hlt
          have x0 := hc _ _ a0
          have x1 := hc _ _ a1
          rw [← hbw.cell hb] at x0 x1
          rw [← Nat.add_assoc] at x1
          have hNi := hN _ (List.getElem_mem hlt)
          have hbad : ¬ (nameE (vAt l i).name = 0 ∧ findV (vAt l i).name l 0 = i) → checkV l = 50 := fun h => by
            unfold checkV
            rw [if_neg hlen, if_pos fun hh => h (hh i hlt)]
          have hgood : nameE (vAt l i).name = 0 ∧ findV (vAt l i).name l 0 = i → namesOk l (i + 1) := fun h j hj => by
            rcases Nat.lt_or_ge j i with hj' | hj'
            · exact hnm j hj'
            · obtain rfl : j = i := by omega
              exact h
          rw [← vAt_eq hlt] at hbad hgood
          generalize l[i] = x at *
          have hlt' : (i : Int) < l.length := by omega
          have kA := hbw.alloc hbw.size (.cells #[.string x.name, .int .i64 x.weight] 32)
          have hxb : Blk (wr.alloc (.cells #[.string x.name, .int .i64 x.weight] 32)) wr.heap.size 32 #[.string x.name, .int .i64 x.weight] := Blk.self_ rfl
          simp [go_sem, IntWalk.iteOmega, IntWalk.toNatUp, e0, e16, e17, e18, hlt, hlt', x0, x1]
          refine callE_of (vname_any x.name hNi _) ?_
          rintro _ w3 ⟨rfl, k3⟩
          have hx3 := hxb.keep k3
          have hx3c := hx3.cell
          have hx3l := hx3.lt
          have kw3 := kA.trans (k3.mono kA.size)
          rcases nameE_01 x.name with hn0 | hn0
          · rw [hn0]
            simp [go_sem, IntWalk.iteOmega, IntWalk.toNatUp, e0, e16, e17, e18, hx3c]
            refine callE_of (vfind_any l x.name _ w3 ?_) ?_
            · obtain ⟨A', c', q1, q2, q3⟩ := hs
              exact ⟨A', c', q1, q2.keep kw3, q3⟩
            rintro _ w4 ⟨rfl, k4⟩
            have kw4 := kw3.trans (k4.mono kw3.size)
            by_cases hq : findV x.name l 0 = i
            · have hq' : (findV x.name l 0 != (i : Int)) = false := by simp [hq]
              simp [go_sem, IntWalk.iteOmega, IntWalk.toNatUp, e0, e16, e17, e18, hq']
              refine roundEnd.mk ⟨i + 1, by omega, by simp [go_sem, e0], by simp [go_sem, e16], by simp [go_sem, e17], by simp [go_sem], hgood ⟨hn0, hq⟩, kw4⟩ ?_
              simp [go_sem, intOf]; omega
            · have hq' : (findV x.name l 0 != (i : Int)) = true := by simpa using hq
              have he := hbad fun h => hq h.2
              simp [go_sem, IntWalk.iteOmega, IntWalk.toNatUp, e0, e16, e17, e18, hq', he]
              exact kw4
          · have he := hbad fun h => by rw [hn0] at h; exact absurd h.1 (by decide)
            rw [hn0]
            simp [go_sem, IntWalk.iteOmega, IntWalk.toNatUp, e0, e16, e17, e18, hx3c, he]
            exact kw3
        · obtain rfl : i = l.length := by omega
          simp [go_sem, IntWalk.iteOmega, IntWalk.toNatUp, e0, e16, e17, e18]
          refine W_loop (fun st w2 => ∃ i : Nat, i ≤ l.length ∧ st 36 = .slice A l.length cap ∧ st 37 = .int .i64 l.length ∧ st 38 = .int .i64 i ∧ st 5 = .int .i64 (4611686018427387903 - wSum l i) ∧ wOk l i ∧ Below w.heap.size w w2) (fun st _ => l.length - (intOf (st 38)).toNat) ?_ ?_
          · exact ⟨0, by omega, by simp [go_sem], by simp [go_sem], by simp [go_sem], by simp [go_sem, wSum], fun i hi => by omega, hbw⟩
          · rintro st w2 ⟨i, hi, e36, e37, e38, e5, hwk, hbw⟩
            have hnn := wSum_nn hwk
            by_cases hlt : i < l.length
            · obtain ⟨b, o, rfl, hb, hc⟩ := hrd.cells (by omega)
              obtain ⟨a0, a1⟩ := vdrs_at l i hlt
              have x0 := hc _ _ a0
              have x1 := hc _ _ a1
              rw [← hbw.cell hb] at x0 x1
              rw [← Nat.add_assoc] at x1
              have hbad : ¬ (1 ≤ (vAt l i).weight ∧ (vAt l i).weight ≤ 4611686018427387903 - wSum l i) → checkV l = 51 := fun h => by
                unfold checkV
                rw [if_neg hlen, if_neg (fun h => h hnm), if_pos fun hh => h (hh i hlt)]
              have hgood : 1 ≤ (vAt l i).weight ∧ (vAt l i).weight ≤ 4611686018427387903 - wSum l i → wOk l (i + 1) := fun h j hj => by
                rcases Nat.lt_or_ge j i with hj' | hj'
                · exact hwk j hj'
                · obtain rfl : j = i := by omega
                  exact h
              have hst : wSum l (i + 1) = wSum l i + (vAt l i).weight := rfl
              rw [← vAt_eq hlt] at hbad hgood hst
              generalize l[i] = x at *
              generalize wSum l i = T at *
              have hlt' : (i : Int) < l.length := by omega
              have kA := hbw.alloc hbw.size (.cells #[.string x.name, .int .i64 x.weight] 32)
              by_cases g1 : x.weight < 1
              · have he := hbad (by omega)
                simp [go_sem, IntWalk.iteOmega, IntWalk.toNatUp, e36, e37, e38, e5, hlt, hlt', x0, x1, g1, he]
                exact kA
              · by_cases g2 : 4611686018427387903 - T < x.weight
                · have he := hbad (by omega)
                  simp [go_sem, IntWalk.iteOmega, IntWalk.toNatUp, e36, e37, e38, e5, hlt, hlt', x0, x1, g1, g2, he]
                  exact kA
                · have HK := hgood (by omega)
                  simp [go_sem, IntWalk.iteOmega, IntWalk.toNatUp, e36, e37, e38, e5, hlt, hlt', x0, x1, g1, g2]
                  refine roundEnd.mk ⟨i + 1, by omega, by simp [go_sem, e36], by simp [go_sem, e37], by simp [go_sem], ?_, HK, kA⟩ ?_
                  · rw [hst]; simp [go_sem]; omega
                  · simp [go_sem, intOf]; omega
            · obtain rfl : i = l.length := by omega
              have he : checkV l = 0 := by
                unfold checkV
                rw [if_neg hlen, if_neg (fun h => h hnm), if_neg (fun h => h hwk)]
              simp [go_sem, IntWalk.iteOmega, IntWalk.toNatUp, e36, e37, e38, e5, he]
              exact hbw
end Go.Proofs.YtoabdejoabfbeaaDoor
