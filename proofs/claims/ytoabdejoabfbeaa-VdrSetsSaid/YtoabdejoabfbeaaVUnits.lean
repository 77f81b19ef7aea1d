/-
  few; Units, the program's and the document's; the law VdrUnits.
-/
import Derived.Test.YtoabdejoabfbeaaVRefs
import Derived.Test.YtoabdejoabfbeaaVLive
namespace Go.Proofs.Ytoabdejoabfbeaa
open Go.RowKit
set_option linter.unusedVariables false
set_option linter.unusedSimpArgs false
set_option maxRecDepth 10000
def NamesIn (l : List Vd) : Prop := ∀ x ∈ l, x.name.size ≤ 9223372036854775807
def WeightsIn (l : List Vd) : Prop := ∀ x ∈ l, -9223372036854775808 ≤ x.weight ∧ x.weight ≤ 9223372036854775807
open Classical in
noncomputable def fewV (l : List Vd) : Bool := decide ((∀ j, j < min l.length 100 → (vAt l j).name.size ≤ 300) ∧ l.length ≤ 50)
theorem few_50 {l : List Vd} (h : fewV l = true) : l.length ≤ 50 := by unfold fewV at h; rw [decide_eq_true_eq] at h; exact h.2
set_option maxHeartbeats 1600000 in
theorem few_any (l : List Vd) (vl : Value) (w : World) (hs : Sl w 2 vl l.length (vdrs l)) (hN : NamesIn l) : callE Try.prog 18 #[vl] w fun v w' => v = .bool (fewV l) ∧ Below w.heap.size w w' := by
  obtain ⟨A, cap, rfl, hrd, hA, hc1, hc2⟩ := id hs
  refine calls_E Try.func18 rfl rfl rfl (Nat.le_of_ble_eq_true rfl) ?_
  have hm0 : (0 : Int) ≤ min (l.length : Int) 100 := by omega
  have hm1 : min (l.length : Int) 100 ≤ cap := by omega
  have hm2 : (min (l.length : Int) 100).toNat = min l.length 100 := by omega
  have hm3 : min (l.length : Int) 100 ≤ l.length := by omega
  have hm4 : min (l.length : Int) 100 = ((min l.length 100 : Nat) : Int) := by omega
  have hm5 : (min (l.length : Int) 100).toNat ≤ cap := by omega
  simp [go_sem, IntWalk.iteOmega, IntWalk.toNatUp, hm4, hm0, hm1, hm2, hm3, hm5, show min l.length 100 ≤ cap by omega]
  refine W_loop (fun st wr => ∃ i : Nat, i ≤ min l.length 100 ∧ st 0 = .slice A l.length cap ∧ (∃ c, st 9 = .slice A (min l.length 100) c) ∧ st 10 = .int .i64 ((min l.length 100 : Nat) : Int) ∧ st 11 = .int .i64 i ∧ (∀ j, j < i → (vAt l j).name.size ≤ 300) ∧ Below w.heap.size w wr) (fun st _ => min l.length 100 - (intOf (st 11)).toNat) ?_ ?_
  · exact ⟨0, by omega, by simp [go_sem], ⟨cap, by simp [go_sem]⟩, by simp [go_sem], by simp [go_sem], fun j hj => by omega, Below.refl _ _⟩
  · rintro st wr ⟨i, hi, e0, ⟨c, e9⟩, e10, e11, hall, hbw⟩
    by_cases hlt : i < min l.length 100
    · have hlt2 : i < l.length := by omega
      obtain ⟨b, o, rfl, hb, hc⟩ := hrd.cells (by omega)
      obtain ⟨a0, a1⟩ := vdrs_at l i hlt2
      have x0 := hc _ _ a0
      have x1 := hc _ _ a1
      rw [← hbw.cell hb] at x0 x1
      rw [← Nat.add_assoc] at x1
      have hlt' : (i : Int) < ((min l.length 100 : Nat) : Int) := by omega
      have hst : ∀ j, j < i + 1 → j ≠ i → (vAt l j).name.size ≤ 300 := fun j hj hne => hall j (by omega)
      rw [vAt_eq hlt2] at x0 x1
      have hbad : 300 < (vAt l i).name.size → fewV l = false := fun h => by
        unfold fewV; rw [decide_eq_false_iff_not]; exact fun hh => absurd (hh.1 i hlt) (by omega)
      have kA := hbw.alloc hbw.size (.cells #[.string (vAt l i).name, .int .i64 (vAt l i).weight] 38)
      by_cases hq : 300 < (vAt l i).name.size
      · have hq' : (300 : Int) < (vAt l i).name.size := by omega
        have he := hbad hq
        generalize vAt l i = x at *
        simp [go_sem, IntWalk.iteOmega, IntWalk.toNatUp, e0, e9, e10, e11, hlt, hlt', x0, x1, hq', he]
        exact kA
      · have hq' : ¬ (300 : Int) < (vAt l i).name.size := by omega
        simp [go_sem, IntWalk.iteOmega, IntWalk.toNatUp, e0, e9, e10, e11, hlt, hlt', x0, x1, hq']
        refine roundEnd.mk ⟨i + 1, by omega, by simp [go_sem, e0], ⟨c, by simp [go_sem, e9]⟩, by simp [go_sem, e10], by simp [go_sem], fun j hj => ?_, kA⟩ ?_
        · by_cases hji : j = i
          · subst hji; omega
          · exact hst j hj hji
        · simp [go_sem, intOf]; omega
    · obtain rfl : i = min l.length 100 := by omega
      have he : fewV l = decide ((l.length : Int) ≤ 50) := by
        unfold fewV; apply decide_eq_decide.2; constructor
        · intro h; have := h.2; omega
        · intro h; exact ⟨hall, by omega⟩
      have hle : (min (l.length : Int) 100) ≤ 100 := by omega
      simp [go_sem, IntWalk.iteOmega, IntWalk.toNatUp, e0, e9, e10, e11, he]
      exact hbw
theorem noinit_few : Try.prog.inits.idxOf? 18 = none := by kernel_rfl
open Classical in
noncomputable def unitsV (l : List Vd) (i : Int) : Int × Int := if checkV l = 0 ∧ 0 ≤ i ∧ i < l.length then (wSum l i.toNat, (vAt l i.toNat).weight) else (0, 0)
noncomputable def unitsR (l : List Vd) (i : Int) : Value := .tuple #[.int .i64 (unitsV l i).1, .int .i64 (unitsV l i).2]
theorem vdrs_take (l : List Vd) (k : Nat) : ∀ (j : Nat) (u : Value), (vdrs (l.take k))[j]? = some u → (vdrs l)[j]? = some u := by
  intro j u h
  have e : vdrs l = vdrs (l.take k) ++ vdrs (l.drop k) := by
    unfold vdrs
    rw [← List.flatMap_append, List.take_append_drop]
  rw [e, List.getElem?_append_left (List.getElem?_eq_some_iff.1 h).1]
  exact h
/-- a part of the front of such a slice -/
theorem Sl_front {w : World} {A : Option Addr} {cap : Nat} {l : List Vd} (h : Sl w 2 (.slice A l.length cap) l.length (vdrs l)) {k : Nat} (hk : k ≤ l.length) : Sl w 2 (.slice A k cap) (l.take k).length (vdrs (l.take k)) := by
  obtain ⟨A', c', e, hrd, h1, h2, h3⟩ := h
  injection e with e1 e2 e3
  subst e1; subst e3
  have hlen : (l.take k).length = k := by simp; omega
  rw [hlen]
  refine ⟨A, cap, rfl, ⟨by rw [vdrs_length, hlen], fun hn => ?_⟩, fun hA => ⟨by have := h1 hA; omega, (h1 hA).2⟩, by omega, h3⟩
  obtain ⟨b, o, rfl, hb, hc⟩ := hrd.cells (by omega)
  exact ⟨b, o, rfl, hb, fun j u hu => hc j u (vdrs_take l k j u hu)⟩
theorem findV_take {name : ByteArray} : ∀ (l : List Vd) (k : Nat) (s : Int) (i : Nat), 0 ≤ s → i < k → findV name l s = s + i → findV name (l.take k) s = s + i
  | [], _, s, i, hs, _, h => by simp [findV] at h; omega
  | x :: l, 0, s, i, _, hk, _ => by omega
  | x :: l, k + 1, s, i, hs, hk, h => by
    simp only [List.take_succ_cons, findV] at h ⊢
    split
    · rename_i hq; rw [if_pos hq] at h; exact h
    · rename_i hq
      rw [if_neg hq] at h
      cases i with
      | zero =>
        exfalso
        have key : ∀ (l : List Vd) (s : Int), 0 ≤ s → findV name l s = -1 ∨ s ≤ findV name l s := by
          intro l
          induction l with
          | nil => intro s _; exact .inl rfl
          | cons y l ih =>
            intro s hs
            simp only [findV]
            split
            · exact .inr (Int.le_refl _)
            · rcases ih (s + 1) (by omega) with h | h
              · exact .inl h
              · exact .inr (by omega)
        rcases key l (s + 1) (by omega) with h' | h' <;> omega
      | succ i =>
        rw [findV_take l k (s + 1) i (by omega) (by omega) (by rw [h]; push_cast; omega)]
        push_cast; omega
theorem vAt_take {l : List Vd} {k j : Nat} (h : j < k) : vAt (l.take k) j = vAt l j := by
  unfold vAt
  simp [List.getD, List.getElem?_take, h]
theorem wSum_take {l : List Vd} {k : Nat} : ∀ {j : Nat}, j ≤ k → wSum (l.take k) j = wSum l j
  | 0, _ => rfl
  | j + 1, h => by simp only [wSum]; rw [wSum_take (by omega), vAt_take (by omega)]
theorem total_take {l : List Vd} (hc : checkV l = 0) {k : Nat} (hk : k ≤ l.length) : totalV (l.take k) = wSum l k := by
  obtain ⟨q1, q2, q3, q4⟩ := check0 hc
  have hlen : (l.take k).length = k := by simp; omega
  cases k with
  | zero =>
    unfold totalV
    simp [wSum]
  | succ k =>
    have hn : namesOk (l.take (k + 1)) (l.take (k + 1)).length := fun i hi => by
      rw [hlen] at hi
      rw [vAt_take hi]
      refine ⟨(q3 i (by omega)).1, ?_⟩
      have := findV_take (name := (vAt l i).name) l (k + 1) 0 i (by omega) hi (by rw [(q3 i (by omega)).2]; omega)
      rw [this]; omega
    have hw : wOk (l.take (k + 1)) (l.take (k + 1)).length := fun i hi => by
      rw [hlen] at hi
      rw [vAt_take hi, wSum_take (by omega)]
      exact q4 i (by omega)
    have hc0 : checkV (l.take (k + 1)) = 0 := by
      unfold checkV
      rw [if_neg (by rw [hlen]; omega), if_neg (fun h => h hn), if_neg (fun h => h hw)]
    unfold totalV
    rw [if_pos hc0, hlen, wSum_take (Nat.le_refl _)]
theorem NamesIn.take {l : List Vd} (h : NamesIn l) (k : Nat) : NamesIn (l.take k) := fun x hx => h x (List.mem_of_mem_take hx)
theorem WeightsIn.take {l : List Vd} (h : WeightsIn l) (k : Nat) : WeightsIn (l.take k) := fun x hx => h x (List.mem_of_mem_take hx)
set_option maxHeartbeats 3200000 in
theorem vunits_any (l : List Vd) (i : Int) (vl : Value) (w : World) (hs : Sl w 2 vl l.length (vdrs l)) (hN : NamesIn l) (hW : WeightsIn l) :
    callE Try.prog 21 #[vl, .int .i64 i] w fun v w' => v = unitsR l i ∧ Below w.heap.size w w' := by
  have hchk := vcheck_any l vl w hs hN hW
  obtain ⟨A, cap, rfl, hrd, hA, hc1, hc2⟩ := id hs
  refine calls_E Try.func21 rfl rfl rfl (Nat.le_of_ble_eq_true rfl) ?_
  simp [go_sem, IntWalk.iteOmega, IntWalk.toNatUp]
  refine callE_of hchk ?_
  rintro _ w1 ⟨rfl, k1⟩
  by_cases hck : checkV l = 0
  · by_cases h1 : i < 0
    · have he : unitsV l i = (0, 0) := if_neg (by omega)
      simp [go_sem, IntWalk.iteOmega, IntWalk.toNatUp, hck, h1, he, unitsR]
      exact k1
    · by_cases h2 : (l.length : Int) ≤ i
      · have he : unitsV l i = (0, 0) := if_neg (by omega)
        simp [go_sem, IntWalk.iteOmega, IntWalk.toNatUp, hck, h1, h2, he, unitsR]
        exact k1
      · obtain ⟨k, rfl⟩ : ∃ k : Nat, i = k := ⟨i.toNat, by omega⟩
        have hkl : k < l.length := by omega
        have he : unitsV l k = (wSum l k, (vAt l k).weight) := if_pos ⟨hck, by omega, by omega⟩
        obtain ⟨q1, q2, q3, q4⟩ := check0 hck
        have hk1 : ¬ (k : Int) < 0 := by omega
        have hkc : (k : Int) ≤ cap := by omega
        have hkc' : k ≤ cap := by omega
        simp [go_sem, IntWalk.iteOmega, IntWalk.toNatUp, hck, h2, hkc, hkc']
        refine W_loop (fun st wr => ∃ j : Nat, j ≤ k ∧ st 0 = .slice A l.length cap ∧ st 1 = .int .i64 k ∧ st 6 = .int .i64 (wSum l j) ∧ (∃ c, st 24 = .slice A k c) ∧ st 25 = .int .i64 k ∧ st 26 = .int .i64 j ∧ Below w.heap.size w wr) (fun st _ => k - (intOf (st 26)).toNat) ?_ ?_
        · exact ⟨0, by omega, by simp [go_sem], by simp [go_sem], by simp [go_sem, wSum], ⟨cap, by simp [go_sem]⟩, by simp [go_sem], by simp [go_sem], k1⟩
        · rintro st wr ⟨j, hj, e0, e1, e6, ⟨c, e24⟩, e25, e26, hbw⟩
          obtain ⟨b, o, rfl, hb, hc⟩ := hrd.cells (by omega)
          by_cases hlt : j < k
          · obtain ⟨a0, a1⟩ := vdrs_at l j (by omega)
            have x0 := hc _ _ a0
            have x1 := hc _ _ a1
            rw [← hbw.cell hb] at x0 x1
            rw [← Nat.add_assoc] at x1
            have hst : wSum l (j + 1) = wSum l j + (vAt l j).weight := rfl
            have n1 := wSum_nn (l := l) (k := j) fun m hm => q4 m (by omega)
            have n2 := wSum_nn (l := l) (k := j + 1) fun m hm => q4 m (by omega)
            rw [← vAt_eq (by omega)] at hst
            have hlt' : (j : Int) < k := by omega
            rw [hst] at n2
            generalize l[j] = x at *
            generalize wSum l j = T at *
            have kA := hbw.alloc hbw.size (.cells #[.string x.name, .int .i64 x.weight] 38)
            simp [go_sem, IntWalk.iteOmega, IntWalk.toNatUp, e0, e1, e6, e24, e25, e26, hlt, hlt', x0, x1]
            refine roundEnd.mk ⟨j + 1, by omega, by simp [go_sem, e0], by simp [go_sem, e1], ?_, ⟨c, by simp [go_sem, e24]⟩, by simp [go_sem, e25], by simp [go_sem], kA⟩ ?_
            · rw [hst]; simp [go_sem]
            · simp [go_sem, intOf]; omega
          · obtain rfl : j = k := by omega
            obtain ⟨a0, a1⟩ := vdrs_at l j hkl
            have x1 := hc _ _ a1
            rw [← hbw.cell hb] at x1
            rw [← Nat.add_assoc, vAt_eq hkl] at x1
            have hjl : (j : Int) < l.length := by omega
            simp [go_sem, IntWalk.iteOmega, IntWalk.toNatUp, e0, e1, e6, e24, e25, e26]
            refine W_still follows (by kernel_rfl) ?_
            simp [go_sem, IntWalk.iteOmega, IntWalk.toNatUp, e0, e1, e6, hjl, hkl, x1, unitsR, he]
            exact hbw.drew
  · have he : unitsV l i = (0, 0) := if_neg (by omega)
    have hb0 : (checkV l != 0) = true := by simpa using hck
    simp [go_sem, IntWalk.iteOmega, IntWalk.toNatUp, hb0, he, unitsR]
    exact k1
theorem noinit_vunits : Try.prog.inits.idxOf? 21 = none := by kernel_rfl
set_option maxHeartbeats 3200000 in
theorem runits_any (l : List Vd) (i : Int) (vl : Value) (w : World) (hs : Sl w 2 vl l.length (vdrs l)) (hN : NamesIn l) (hW : WeightsIn l) :
    callE Try.prog 26 #[vl, .int .i64 i] w fun v w' => v = unitsR l i ∧ Below w.heap.size w w' := by
  have hchk := rcheck_any l vl w hs hN hW
  obtain ⟨A, cap, rfl, hrd, hA, hc1, hc2⟩ := id hs
  refine calls_E Try.func26 rfl rfl rfl (Nat.le_of_ble_eq_true rfl) ?_
  simp [go_sem, IntWalk.iteOmega, IntWalk.toNatUp]
  refine callE_of hchk ?_
  rintro _ w1 ⟨rfl, k1⟩
  by_cases hck : checkV l = 0
  · by_cases h1 : i < 0
    · have he : unitsV l i = (0, 0) := if_neg (by omega)
      simp [go_sem, IntWalk.iteOmega, IntWalk.toNatUp, hck, h1, he, unitsR]
      exact k1
    · by_cases h2 : (l.length : Int) ≤ i
      · have he : unitsV l i = (0, 0) := if_neg (by omega)
        simp [go_sem, IntWalk.iteOmega, IntWalk.toNatUp, hck, h1, h2, he, unitsR]
        exact k1
      · obtain ⟨k, rfl⟩ : ∃ k : Nat, i = k := ⟨i.toNat, by omega⟩
        have hkl : k < l.length := by omega
        have he : unitsV l k = (wSum l k, (vAt l k).weight) := if_pos ⟨hck, by omega, by omega⟩
        have hkc : (k : Int) ≤ cap := by omega
        have hkc' : k ≤ cap := by omega
        have hjl : (k : Int) < l.length := by omega
        obtain ⟨b, o, rfl, hb, hc⟩ := hrd.cells (by omega)
        obtain ⟨a0, a1⟩ := vdrs_at l k hkl
        have x1 := hc _ _ a1
        rw [← k1.cell hb] at x1
        rw [← Nat.add_assoc, vAt_eq hkl] at x1
        have hb1 : b < w1.heap.size := Nat.lt_of_lt_of_le hb k1.size
        have htot := fun k' => anyCall_eq (W := w1) (k := k') noinit_rtotal (fun w' hw' => rtotal_any (l.take k) (.slice (some ⟨b, o, none⟩) k cap) w' (Sl_kept (Sl_front (Sl_kept hs k1) (by omega)) hw') (hN.take k) (hW.take k))
        rw [total_take hck (by omega)] at htot
        simp [go_sem, IntWalk.iteOmega, IntWalk.toNatUp, hck, h2, hkc, hkc']
        refine W_below follows (by kernel_rfl) ?_
        simp [go_sem, IntWalk.iteOmega, IntWalk.toNatUp, hkc, hkc', htot, hjl, hkl, x1, hb1, unitsR, he]
        exact fun w' h => k1.trans (h.mono k1.size)
  · have he : unitsV l i = (0, 0) := if_neg (by omega)
    have hb0 : (checkV l != 0) = true := by simpa using hck
    simp [go_sem, IntWalk.iteOmega, IntWalk.toNatUp, hb0, he, unitsR]
    exact k1
theorem noinit_runits : Try.prog.inits.idxOf? 26 = none := by kernel_rfl
end Go.Proofs.Ytoabdejoabfbeaa
