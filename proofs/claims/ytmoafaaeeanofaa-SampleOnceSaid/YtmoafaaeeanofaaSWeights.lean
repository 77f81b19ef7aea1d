/-
  Weights: their sum, whose a unit is; the program's and the document's.
-/
import Derived.Test.YtmoafaaeeanofaaSEqual
namespace Go.Proofs.Ytmoafaaeeanofaa
open Go.RowKit
set_option linter.unusedVariables false
set_option linter.unusedSimpArgs false
set_option maxRecDepth 10000
def InI (x : Int) : Prop := -9223372036854775808 ≤ x ∧ x ≤ 9223372036854775807
def AllI (l : List Int) : Prop := ∀ x ∈ l, InI x
def wS (l : List Int) : Nat → Int
  | 0 => 0
  | i + 1 => wS l i + l.getD i 0
def okWs (l : List Int) (k : Nat) : Prop := ∀ i, i < k → 1 ≤ l.getD i 0 ∧ l.getD i 0 ≤ 4611686018427387903 - wS l i
def okAll (l : List Int) : Prop := 1 ≤ l.length ∧ l.length ≤ 32 ∧ okWs l l.length
open Classical in
noncomputable def wsum (l : List Int) : Int := if okAll l then wS l l.length else -1
theorem wS_nn {l : List Int} : ∀ {k : Nat}, okWs l k → (k : Int) ≤ wS l k ∧ wS l k ≤ 4611686018427387903
  | 0, _ => by simp [wS]
  | k + 1, h => by
    have h1 := wS_nn (k := k) fun i hi => h i (by omega)
    have h2 := h k (by omega)
    simp only [wS]; omega
theorem wsum_neg {l : List Int} (h : ¬ okAll l) : wsum l = -1 := if_neg h
theorem wsum_ok {l : List Int} (h : okAll l) : wsum l = wS l l.length ∧ 1 ≤ wsum l ∧ wsum l ≤ 4611686018427387903 := by
  have := wS_nn h.2.2
  have h1 := h.1
  have e : wsum l = wS l l.length := if_pos h
  rw [e]
  exact ⟨rfl, by omega, by omega⟩
theorem wsum_cases (l : List Int) : (okAll l ∧ 1 ≤ wsum l) ∨ (¬ okAll l ∧ wsum l = -1) := by
  by_cases h : okAll l
  · exact .inl ⟨h, (wsum_ok h).2.1⟩
  · exact .inr ⟨h, wsum_neg h⟩
set_option maxHeartbeats 1600000 in
theorem sum_any (l : List Int) (vl : Value) (w : World) (hs : Sl w 1 vl l.length (intsK .i64 l)) (hI : AllI l) : callE Try.prog 28 #[vl] w fun v w' => v = .int .i64 (wsum l) ∧ Below w.heap.size w w' := by
  obtain ⟨A, cap, rfl, hrd, hA, hc1, hc2⟩ := id hs
  refine calls_E Try.func28 rfl rfl rfl (Nat.le_of_ble_eq_true rfl) ?_
  by_cases h1 : l.length < 1
  · have h1' : (l.length : Int) < 1 := by omega
    have he : wsum l = -1 := wsum_neg fun h => by have := h.1; omega
    simp [go_sem, IntWalk.iteOmega, IntWalk.toNatUp, h1', he]
    exact Below.refl _ _
  by_cases h2 : 32 < l.length
  · have h1' : ¬ (l.length : Int) < 1 := by omega
    have h2' : (32 : Int) < l.length := by omega
    have he : wsum l = -1 := wsum_neg fun h => by have := h.2.1; omega
    simp [go_sem, IntWalk.iteOmega, IntWalk.toNatUp, h1', h2', he]
    exact Below.refl _ _
  have h1' : ¬ (l.length : Int) < 1 := by omega
  have h2' : ¬ (32 : Int) < l.length := by omega
  simp [go_sem, IntWalk.iteOmega, IntWalk.toNatUp, h1', h2']
  refine W_loop (fun st wr => ∃ i : Nat, i ≤ l.length ∧ st 3 = .int .i64 (4611686018427387903 - wS l i) ∧ st 14 = .slice A l.length cap ∧ st 15 = .int .i64 l.length ∧ st 16 = .int .i64 i ∧ okWs l i ∧ Below w.heap.size w wr) (fun st _ => l.length - (intOf (st 16)).toNat) ?_ ?_
  · exact ⟨0, by omega, by simp [go_sem, wS], by simp [go_sem], by simp [go_sem], by simp [go_sem], fun i hi => by omega, Below.refl _ _⟩
  · rintro st wr ⟨i, hi, e3, e14, e15, e16, hok, hbw⟩
    have hnn := wS_nn hok
    by_cases hlt : i < l.length
    · obtain ⟨b, o, rfl, hb, hc⟩ := hrd.cells (by omega)
      have y0 := hc _ _ (intsK_at hlt)
      rw [← hbw.cell hb] at y0
      have hlt' : (i : Int) < l.length := by omega
      have hst : wS l (i + 1) = wS l i + l.getD i 0 := rfl
      have hxI := hI _ (getD_mem hlt)
      have hbad : ¬ (1 ≤ l.getD i 0 ∧ l.getD i 0 ≤ 4611686018427387903 - wS l i) → wsum l = -1 := fun h => wsum_neg fun hh => h (hh.2.2 i hlt)
      have hgood : 1 ≤ l.getD i 0 ∧ l.getD i 0 ≤ 4611686018427387903 - wS l i → okWs l (i + 1) := fun h j hj => by
        rcases Nat.lt_or_ge j i with hj' | hj'
        · exact hok j hj'
        · obtain rfl : j = i := by omega
          exact h
      unfold InI at hxI
      generalize l.getD i 0 = x at *
      generalize wS l i = T at *
      by_cases g1 : x < 1
      · have he := hbad (by omega)
        simp [go_sem, IntWalk.iteOmega, IntWalk.toNatUp, e3, e14, e15, e16, hlt, hlt', y0, g1, he]
        exact hbw
      · by_cases g2 : 4611686018427387903 - T < x
        · have he := hbad (by omega)
          simp [go_sem, IntWalk.iteOmega, IntWalk.toNatUp, e3, e14, e15, e16, hlt, hlt', y0, g1, g2, he]
          exact hbw
        · have HK := hgood (by omega)
          simp [go_sem, IntWalk.iteOmega, IntWalk.toNatUp, e3, e14, e15, e16, hlt, hlt', y0, g1, g2]
          refine roundEnd.mk ⟨i + 1, by omega, ?_, by simp [go_sem, e14], by simp [go_sem, e15], by simp [go_sem], HK, hbw⟩ ?_
          · rw [hst]; simp [go_sem]; omega
          · simp [go_sem, intOf]; omega
    · obtain rfl : i = l.length := by omega
      have hk : okAll l := ⟨by omega, by omega, hok⟩
      have he := (wsum_ok hk).1
      simp [go_sem, IntWalk.iteOmega, IntWalk.toNatUp, e3, e14, e15, e16, he]
      refine ⟨?_, hbw⟩
      omega
/-- whose a unit is, from place k on -/
def ownF (u : Int) : List Int → Int → Int
  | [], k => k - 1
  | x :: l, k => if u < x then k else ownF (u - x) l (k + 1)
theorem ownF_at {u : Int} {l : List Int} {i : Nat} (h : i < l.length) : ownF u (l.drop i) i = if u < l.getD i 0 then (i : Int) else ownF (u - l.getD i 0) (l.drop (i + 1)) ((i + 1 : Nat) : Int) := by
  rw [List.drop_eq_getElem_cons h]
  simp [ownF, List.getD, h]
set_option maxHeartbeats 1600000 in
theorem owner_any (l : List Int) (u : Int) (hu : 0 ≤ u ∧ u ≤ 9223372036854775807) (vl : Value) (w : World) (hs : Sl w 1 vl l.length (intsK .i64 l)) (hok : okAll l) : callE Try.prog 29 #[vl, .int .i64 u] w fun v w' => v = .int .i64 (ownF u l 0) ∧ Below w.heap.size w w' := by
  obtain ⟨A, cap, rfl, hrd, hA, hc1, hc2⟩ := id hs
  refine calls_E Try.func29 rfl rfl rfl (Nat.le_of_ble_eq_true rfl) ?_
  simp [go_sem, IntWalk.iteOmega, IntWalk.toNatUp]
  have hn1 := hok.1
  refine W_loop (fun st wr => ∃ (i : Nat) (r : Int), i ≤ l.length ∧ st 1 = .int .i64 r ∧ st 5 = .int .i64 (if i = 0 then 0 else (i : Int) - 1) ∧ st 8 = .slice A l.length cap ∧ st 9 = .int .i64 l.length ∧ st 10 = .int .i64 i ∧ ownF u l 0 = ownF r (l.drop i) i ∧ 0 ≤ r ∧ r ≤ 9223372036854775807 ∧ Below w.heap.size w wr) (fun st _ => l.length - (intOf (st 10)).toNat) ?_ ?_
  · exact ⟨0, u, by omega, by simp [go_sem], by simp [go_sem], by simp [go_sem], by simp [go_sem], by simp [go_sem], by simp, by omega, by omega, Below.refl _ _⟩
  · rintro st wr ⟨i, r, hi, e1, e5, e8, e9, e10, hf, hr0, hr1, hbw⟩
    by_cases hlt : i < l.length
    · obtain ⟨b, o, rfl, hb, hc⟩ := hrd.cells (by omega)
      have y0 := hc _ _ (intsK_at hlt)
      rw [← hbw.cell hb] at y0
      have hlt' : (i : Int) < l.length := by omega
      have hfa := ownF_at (u := r) hlt
      rw [← hf] at hfa
      have hw1 := (hok.2.2 i hlt).1
      generalize l.getD i 0 = x at *
      by_cases hq : r < x
      · rw [if_pos hq] at hfa
        simp [go_sem, IntWalk.iteOmega, IntWalk.toNatUp, e1, e5, e8, e9, e10, hlt, hlt', y0, hq, hfa]
        exact hbw
      · rw [if_neg hq] at hfa
        simp [go_sem, IntWalk.iteOmega, IntWalk.toNatUp, e1, e5, e8, e9, e10, hlt, hlt', y0, hq]
        refine roundEnd.mk ⟨i + 1, r - x, by omega, by simp [go_sem], by simp [go_sem], by simp [go_sem, e8], by simp [go_sem, e9], by simp [go_sem], hfa, by omega, by omega, hbw⟩ ?_
        simp [go_sem, intOf]; omega
    · obtain rfl : i = l.length := by omega
      rw [List.drop_length] at hf
      have hf' : ownF u l 0 = (l.length : Int) - 1 := hf
      rw [if_neg (by omega)] at e5
      simp [go_sem, IntWalk.iteOmega, IntWalk.toNatUp, e1, e5, e8, e9, e10, hf']
      exact hbw
open Classical in
noncomputable def ownerV (l : List Int) (u : Int) : Int × Int := if ¬ okAll l then (0, 1) else if u < 0 ∨ wsum l ≤ u then (0, 4) else (ownF u l 0, 0)
noncomputable def ownerR (l : List Int) (u : Int) : Value := .tuple #[.int .i64 (ownerV l u).1, .int .i64 (ownerV l u).2]
set_option maxHeartbeats 1600000 in
theorem Owner_any (l : List Int) (u : Int) (hu : InI u) (vl : Value) (w : World) (hs : Sl w 1 vl l.length (intsK .i64 l)) (hI : AllI l) : callE Try.prog 10 #[vl, .int .i64 u] w fun v w' => v = ownerR l u ∧ Below w.heap.size w w' := by
  refine calls_E Try.func10 rfl rfl rfl (Nat.le_of_ble_eq_true rfl) ?_
  simp [go_sem, IntWalk.iteOmega, IntWalk.toNatUp]
  refine callE_of (sum_any l vl w hs hI) ?_
  rintro _ w1 ⟨rfl, k1⟩
  unfold InI at hu
  rcases wsum_cases l with ⟨hok, h1⟩ | ⟨hok, h1⟩
  · have h0 : ¬ wsum l < 0 := by omega
    by_cases g1 : u < 0
    · have he : ownerV l u = (0, 4) := by unfold ownerV; rw [if_neg (fun h => h hok), if_pos (.inl g1)]
      simp [go_sem, IntWalk.iteOmega, IntWalk.toNatUp, h0, g1, ownerR, he]
      exact k1
    · by_cases g2 : wsum l ≤ u
      · have he : ownerV l u = (0, 4) := by unfold ownerV; rw [if_neg (fun h => h hok), if_pos (.inr g2)]
        simp [go_sem, IntWalk.iteOmega, IntWalk.toNatUp, h0, g1, g2, ownerR, he]
        exact k1
      · have he : ownerV l u = (ownF u l 0, 0) := by unfold ownerV; rw [if_neg (fun h => h hok), if_neg (by omega)]
        simp [go_sem, IntWalk.iteOmega, IntWalk.toNatUp, h0, g1, g2]
        refine callE_of (owner_any l u (by omega) vl w1 (Sl_kept hs k1) hok) ?_
        rintro _ w2 ⟨rfl, k2⟩
        simp [go_sem, IntWalk.iteOmega, IntWalk.toNatUp, ownerR, he]
        exact ext_trans k1 k2
  · have he : ownerV l u = (0, 1) := if_pos hok
    rw [h1]
    simp [go_sem, IntWalk.iteOmega, IntWalk.toNatUp, ownerR, he]
    exact k1
theorem noinit_Owner : Try.prog.inits.idxOf? 10 = none := by kernel_rfl
set_option maxHeartbeats 1600000 in
theorem rsum_any (l : List Int) (vl : Value) (w : World) (hs : Sl w 1 vl l.length (intsK .i64 l)) (hI : AllI l) : callE Try.prog 30 #[vl] w fun v w' => (∃ n b, v = .tuple #[.int .i64 n, .bool b] ∧ (b = true ∧ okAll l ∧ n = wsum l ∨ b = false ∧ ¬ okAll l)) ∧ Below w.heap.size w w' := by
  obtain ⟨A, cap, rfl, hrd, hA, hc1, hc2⟩ := id hs
  refine calls_E Try.func30 rfl rfl rfl (Nat.le_of_ble_eq_true rfl) ?_
  by_cases h1 : l.length < 1
  · have h1' : (l.length : Int) < 1 := by omega
    simp [go_sem, IntWalk.iteOmega, IntWalk.toNatUp, h1']
    exact ⟨fun h => by have := h.1; omega, Below.refl _ _⟩
  by_cases h2 : 32 < l.length
  · have h1' : ¬ (l.length : Int) < 1 := by omega
    have h2' : (32 : Int) < l.length := by omega
    simp [go_sem, IntWalk.iteOmega, IntWalk.toNatUp, h1', h2']
    exact ⟨fun h => by have := h.2.1; omega, Below.refl _ _⟩
  have h1' : ¬ (l.length : Int) < 1 := by omega
  have h2' : ¬ (32 : Int) < l.length := by omega
  simp [go_sem, IntWalk.iteOmega, IntWalk.toNatUp, h1', h2']
  refine W_loop (fun st wr => ∃ i : Nat, i ≤ l.length ∧ st 0 = .slice A l.length cap ∧ st 4 = .int .i64 (wS l i) ∧ st 5 = .int .i64 i ∧ okWs l i ∧ Below w.heap.size w wr) (fun st _ => l.length - (intOf (st 5)).toNat) ?_ ?_
  · exact ⟨0, by omega, by simp [go_sem], by simp [go_sem, wS], by simp [go_sem], fun i hi => by omega, Below.refl _ _⟩
  · rintro st wr ⟨i, hi, e0, e4, e5, hok, hbw⟩
    have hnn := wS_nn hok
    by_cases hlt : i < l.length
    · obtain ⟨b, o, rfl, hb, hc⟩ := hrd.cells (by omega)
      have y0 := hc _ _ (intsK_at hlt)
      rw [← hbw.cell hb] at y0
      have hlt' : (i : Int) < l.length := by omega
      have hst : wS l (i + 1) = wS l i + l.getD i 0 := rfl
      have hxI := hI _ (getD_mem hlt)
      have hbad : ¬ (1 ≤ l.getD i 0 ∧ l.getD i 0 ≤ 4611686018427387903 - wS l i) → ¬ okAll l := fun h hh => h (hh.2.2 i hlt)
      have hgood : 1 ≤ l.getD i 0 ∧ l.getD i 0 ≤ 4611686018427387903 - wS l i → okWs l (i + 1) := fun h j hj => by
        rcases Nat.lt_or_ge j i with hj' | hj'
        · exact hok j hj'
        · obtain rfl : j = i := by omega
          exact h
      unfold InI at hxI
      generalize l.getD i 0 = x at *
      generalize wS l i = T at *
      by_cases g1 : x < 1
      · have he := hbad (by omega)
        simp [go_sem, IntWalk.iteOmega, IntWalk.toNatUp, e0, e4, e5, hlt, hlt', y0, g1, he]
        exact hbw
      · by_cases g2 : 4611686018427387903 - T < x
        · have he := hbad (by omega)
          simp [go_sem, IntWalk.iteOmega, IntWalk.toNatUp, e0, e4, e5, hlt, hlt', y0, g1, g2, he]
          exact hbw
        · have HK := hgood (by omega)
          simp [go_sem, IntWalk.iteOmega, IntWalk.toNatUp, e0, e4, e5, hlt, hlt', y0, g1, g2]
          refine roundEnd.mk ⟨i + 1, by omega, by simp [go_sem, e0], ?_, by simp [go_sem], HK, hbw⟩ ?_
          · rw [hst]; simp [go_sem]
          · simp [go_sem, intOf]; omega
    · obtain rfl : i = l.length := by omega
      have hk : okAll l := ⟨by omega, by omega, hok⟩
      have he := (wsum_ok hk).1
      simp [go_sem, IntWalk.iteOmega, IntWalk.toNatUp, e0, e4, e5]
      exact ⟨⟨hk, he.symm⟩, hbw⟩
set_option maxHeartbeats 1600000 in
theorem rOwner_any (l : List Int) (u : Int) (hu : InI u) (vl : Value) (w : World) (hs : Sl w 1 vl l.length (intsK .i64 l)) (hI : AllI l) : callE Try.prog 11 #[vl, .int .i64 u] w fun v w' => v = ownerR l u ∧ Below w.heap.size w w' := by
  have hsum := rsum_any l vl w hs hI
  obtain ⟨A, cap, rfl, hrd, hA, hc1, hc2⟩ := id hs
  refine calls_E Try.func11 rfl rfl rfl (Nat.le_of_ble_eq_true rfl) ?_
  simp [go_sem, IntWalk.iteOmega, IntWalk.toNatUp]
  refine callE_of hsum ?_
  rintro _ w1 ⟨⟨n, b, rfl, hb⟩, k1⟩
  unfold InI at hu
  rcases hb with ⟨rfl, hok, rfl⟩ | ⟨rfl, hok⟩
  · by_cases g1 : u < 0
    · have he : ownerV l u = (0, 4) := by unfold ownerV; rw [if_neg (fun h => h hok), if_pos (.inl g1)]
      simp [go_sem, IntWalk.iteOmega, IntWalk.toNatUp, g1, ownerR, he]
      exact k1
    · by_cases g2 : wsum l ≤ u
      · have he : ownerV l u = (0, 4) := by unfold ownerV; rw [if_neg (fun h => h hok), if_pos (.inr g2)]
        simp [go_sem, IntWalk.iteOmega, IntWalk.toNatUp, g1, g2, ownerR, he]
        exact k1
      · have he : ownerV l u = (ownF u l 0, 0) := by unfold ownerV; rw [if_neg (fun h => h hok), if_neg (by omega)]
        have hW := (wsum_ok hok).1
        simp [go_sem, IntWalk.iteOmega, IntWalk.toNatUp, g1, g2]
        refine W_loop (fun st wr => ∃ (i : Nat) (r : Int), i ≤ l.length ∧ st 0 = .slice A l.length cap ∧ st 1 = .int .i64 r ∧ st 8 = .int .i64 i ∧ ownF u l 0 = ownF r (l.drop i) i ∧ wS l i + r = u ∧ 0 ≤ r ∧ Below w.heap.size w wr) (fun st _ => l.length - (intOf (st 8)).toNat) ?_ ?_
        · exact ⟨0, u, by omega, by simp [go_sem], by simp [go_sem], by simp [go_sem], by simp, by simp [wS], by omega, k1⟩
        · rintro st wr ⟨i, r, hi, e0, e1, e8, hf, hwr, hr0, hbw⟩
          have hlt : i < l.length := by
            rcases Nat.lt_or_ge i l.length with h | h
            · exact h
            · obtain rfl : i = l.length := by omega
              omega
          obtain ⟨b, o, rfl, hb, hc⟩ := hrd.cells (by omega)
          have y0 := hc _ _ (intsK_at hlt)
          rw [← hbw.cell hb] at y0
          have hlt' : (i : Int) < l.length := by omega
          have hfa := ownF_at (u := r) hlt
          rw [← hf] at hfa
          have hw1 := (hok.2.2 i hlt).1
          have hnn := wS_nn (l := l) (k := i) fun j hj => hok.2.2 j (by omega)
          have hst : wS l (i + 1) = wS l i + l.getD i 0 := rfl
          generalize l.getD i 0 = x at *
          by_cases hq : r < x
          · rw [if_pos hq] at hfa
            have hq' : ¬ x ≤ r := by omega
            rw [hfa] at he
            simp [go_sem, IntWalk.iteOmega, IntWalk.toNatUp, e0, e1, e8, hlt, hlt', y0, hq', ownerR, he]
            exact hbw
          · rw [if_neg hq] at hfa
            have hq' : x ≤ r := by omega
            simp [go_sem, IntWalk.iteOmega, IntWalk.toNatUp, e0, e1, e8, hlt, hlt', y0, hq']
            refine roundEnd.mk ⟨i + 1, r - x, by omega, by simp [go_sem, e0], by simp [go_sem], by simp [go_sem], hfa, by rw [hst]; omega, by omega, hbw⟩ ?_
            simp [go_sem, intOf]; omega
  · have he : ownerV l u = (0, 1) := if_pos hok
    simp [go_sem, IntWalk.iteOmega, IntWalk.toNatUp, ownerR, he]
    exact k1
theorem noinit_rOwner : Try.prog.inits.idxOf? 11 = none := by kernel_rfl
end Go.Proofs.Ytmoafaaeeanofaa
