/-
  slices.Equal at three kinds of elements; slices.Index, slices.Contains, has at int64.
-/
import Derived.Test.YtmoafaaeeanofaaOpen
import Derived.Test.YtmoafaaeeanofaaAny
import Derived.Test.YtmoafaaeeanofaaTypes
namespace Go.Proofs.Ytmoafaaeeanofaa
open Go.RowKit
set_option linter.unusedVariables false
set_option linter.unusedSimpArgs false
set_option maxRecDepth 10000
def intsK (k : IntKind) (l : List Int) : List Value := l.map (Value.int k)
theorem intsK_at {k : IntKind} {l : List Int} {i : Nat} (h : i < l.length) : (intsK k l)[i]? = some (.int k (l.getD i 0)) := by
  simp [intsK, List.getD, h]
theorem eq_of_getD {xs ys : List Int} (h : xs.length = ys.length) (hj : ∀ j, j < xs.length → xs.getD j 0 = ys.getD j 0) : xs = ys := by
  apply List.ext_getElem h
  intro j h1 h2
  have := hj j h1
  simpa [List.getD, h1, h2] using this
theorem Sl_kept {w w' : World} {size n : Nat} {v : Value} {xs : List Value} (h : Sl w size v n xs) (hb : Below w.heap.size w w') : Sl w' size v n xs := by
  obtain ⟨A, c, h1, h2, h3⟩ := h
  exact ⟨A, c, h1, h2.keep hb, h3⟩
theorem getD_mem {l : List Int} {i : Nat} (h : i < l.length) : l.getD i 0 ∈ l := by
  simp [List.getD, h]
theorem take_succ_at {l : List Int} {i : Nat} (h : i < l.length) : l.take (i + 1) = l.take i ++ [l.getD i 0] := by
  rw [List.take_add_one, List.getElem?_eq_getElem h]
  simp [List.getD, h]
set_option maxHeartbeats 1600000 in
theorem equalI_any (xs ys : List Int) (vx vy : Value) (w : World) (hx : Sl w 1 vx xs.length (intsK .i64 xs)) (hy : Sl w 1 vy ys.length (intsK .i64 ys)) :
    callE Try.prog 14 #[vx, vy] w fun v w' => v = .bool (decide (xs = ys)) ∧ Below w.heap.size w w' := by
  obtain ⟨A, cap, rfl, hrx, hA, hc1, hc2⟩ := id hx
  obtain ⟨B, cap2, rfl, hry, hB, hd1, hd2⟩ := id hy
  refine calls_E Try.func14 rfl rfl rfl (Nat.le_of_ble_eq_true rfl) ?_
  by_cases hl : xs.length = ys.length
  · have hl' : ((xs.length : Int) != ys.length) = false := by simp [hl]
    simp [go_sem, IntWalk.iteOmega, IntWalk.toNatUp, hl']
    refine W_loop (fun st wr => ∃ i : Nat, i ≤ xs.length ∧ st 0 = .slice A xs.length cap ∧ st 1 = .slice B ys.length cap2 ∧ st 12 = .int .i64 xs.length ∧ st 13 = .int .i64 i ∧ (∀ j, j < i → xs.getD j 0 = ys.getD j 0) ∧ Below w.heap.size w wr) (fun st _ => xs.length - (intOf (st 13)).toNat) ?_ ?_
    · exact ⟨0, by omega, by simp [go_sem], by simp [go_sem], by simp [go_sem], by simp [go_sem], fun j hj => by omega, Below.refl _ _⟩
    · rintro st wr ⟨i, hi, e0, e1, e12, e13, hall, hbw⟩
      by_cases hlt : i < xs.length
      · obtain ⟨b, o, rfl, hb, hcx⟩ := hrx.cells (by omega)
        obtain ⟨b2, o2, rfl, hb2, hcy⟩ := hry.cells (by omega)
        have y0 := hcx _ _ (intsK_at hlt)
        have y1 := hcy _ _ (intsK_at (i := i) (by omega))
        rw [← hbw.cell hb] at y0
        rw [← hbw.cell hb2] at y1
        have hlt' : (i : Int) < xs.length := by omega
        have hlt2 : (i : Int) < ys.length := by omega
        have hlt3 : i < ys.length := by omega
        have hne : xs.getD i 0 ≠ ys.getD i 0 → decide (xs = ys) = false := fun h => by
          rw [decide_eq_false_iff_not]; intro e; exact h (by rw [e])
        have hsucc : xs.getD i 0 = ys.getD i 0 → ∀ j, j < i + 1 → xs.getD j 0 = ys.getD j 0 := fun h j hj => by
          by_cases hji : j = i
          · rw [hji]; exact h
          · exact hall j (by omega)
        generalize hX : xs.getD i 0 = x at y0 hne hsucc
        generalize hY : ys.getD i 0 = y at y1 hne hsucc
        by_cases hq : x = y
        · have hq' : (x != y) = false := by simp [hq]
          simp [go_sem, IntWalk.iteOmega, IntWalk.toNatUp, e0, e1, e12, e13, hlt, hlt']
          refine W_still follows (by kernel_rfl) ?_
          simp [go_sem, IntWalk.iteOmega, IntWalk.toNatUp, e0, e1, e12, e13, hlt, hlt', hlt2, hlt3, y0, y1, hq']
          refine roundEnd.mk ⟨i + 1, by omega, by simp [go_sem, e0], by simp [go_sem, e1], by simp [go_sem, e12], by simp [go_sem], hsucc hq, hbw.drew⟩ ?_
          simp [go_sem, intOf]; omega
        · have hq' : (x != y) = true := by simpa using hq
          have he := hne hq
          simp [go_sem, IntWalk.iteOmega, IntWalk.toNatUp, e0, e1, e12, e13, hlt, hlt']
          refine W_still follows (by kernel_rfl) ?_
          simp [go_sem, IntWalk.iteOmega, IntWalk.toNatUp, e0, e1, e12, e13, hlt, hlt', hlt2, hlt3, y0, y1, hq', he]
          exact hbw.drew
      · obtain rfl : i = xs.length := by omega
        have he : decide (xs = ys) = true := by rw [decide_eq_true_eq]; exact eq_of_getD hl hall
        simp [go_sem, IntWalk.iteOmega, IntWalk.toNatUp, e0, e1, e12, e13, he]
        exact hbw
  · have hl' : ((xs.length : Int) != ys.length) = true := bne_iff_ne.2 (by omega)
    have he : decide (xs = ys) = false := by rw [decide_eq_false_iff_not]; intro e; exact hl (by rw [e])
    simp [go_sem, IntWalk.iteOmega, IntWalk.toNatUp, hl', he]
    exact Below.refl _ _
theorem noinit_equalI : Try.prog.inits.idxOf? 14 = none := by kernel_rfl
set_option maxHeartbeats 1600000 in
theorem equalL_any (xs ys : List Int) (vx vy : Value) (w : World) (hx : Sl w 1 vx xs.length (intsK .i64 xs)) (hy : Sl w 1 vy ys.length (intsK .i64 ys)) :
    callE Try.prog 17 #[vx, vy] w fun v w' => v = .bool (decide (xs = ys)) ∧ Below w.heap.size w w' := by
  obtain ⟨A, cap, rfl, hrx, hA, hc1, hc2⟩ := id hx
  obtain ⟨B, cap2, rfl, hry, hB, hd1, hd2⟩ := id hy
  refine calls_E Try.func17 rfl rfl rfl (Nat.le_of_ble_eq_true rfl) ?_
  by_cases hl : xs.length = ys.length
  · have hl' : ((xs.length : Int) != ys.length) = false := by simp [hl]
    simp [go_sem, IntWalk.iteOmega, IntWalk.toNatUp, hl']
    refine W_loop (fun st wr => ∃ i : Nat, i ≤ xs.length ∧ st 0 = .slice A xs.length cap ∧ st 1 = .slice B ys.length cap2 ∧ st 12 = .int .i64 xs.length ∧ st 13 = .int .i64 i ∧ (∀ j, j < i → xs.getD j 0 = ys.getD j 0) ∧ Below w.heap.size w wr) (fun st _ => xs.length - (intOf (st 13)).toNat) ?_ ?_
    · exact ⟨0, by omega, by simp [go_sem], by simp [go_sem], by simp [go_sem], by simp [go_sem], fun j hj => by omega, Below.refl _ _⟩
    · rintro st wr ⟨i, hi, e0, e1, e12, e13, hall, hbw⟩
      by_cases hlt : i < xs.length
      · obtain ⟨b, o, rfl, hb, hcx⟩ := hrx.cells (by omega)
        obtain ⟨b2, o2, rfl, hb2, hcy⟩ := hry.cells (by omega)
        have y0 := hcx _ _ (intsK_at hlt)
        have y1 := hcy _ _ (intsK_at (i := i) (by omega))
        rw [← hbw.cell hb] at y0
        rw [← hbw.cell hb2] at y1
        have hlt' : (i : Int) < xs.length := by omega
        have hlt2 : (i : Int) < ys.length := by omega
        have hlt3 : i < ys.length := by omega
        have hne : xs.getD i 0 ≠ ys.getD i 0 → decide (xs = ys) = false := fun h => by
          rw [decide_eq_false_iff_not]; intro e; exact h (by rw [e])
        have hsucc : xs.getD i 0 = ys.getD i 0 → ∀ j, j < i + 1 → xs.getD j 0 = ys.getD j 0 := fun h j hj => by
          by_cases hji : j = i
          · rw [hji]; exact h
          · exact hall j (by omega)
        generalize hX : xs.getD i 0 = x at y0 hne hsucc
        generalize hY : ys.getD i 0 = y at y1 hne hsucc
        by_cases hq : x = y
        · have hq' : (x != y) = false := by simp [hq]
          simp [go_sem, IntWalk.iteOmega, IntWalk.toNatUp, e0, e1, e12, e13, hlt, hlt']
          refine W_still follows (by kernel_rfl) ?_
          simp [go_sem, IntWalk.iteOmega, IntWalk.toNatUp, e0, e1, e12, e13, hlt, hlt', hlt2, hlt3, y0, y1, hq']
          refine roundEnd.mk ⟨i + 1, by omega, by simp [go_sem, e0], by simp [go_sem, e1], by simp [go_sem, e12], by simp [go_sem], hsucc hq, hbw.drew⟩ ?_
          simp [go_sem, intOf]; omega
        · have hq' : (x != y) = true := by simpa using hq
          have he := hne hq
          simp [go_sem, IntWalk.iteOmega, IntWalk.toNatUp, e0, e1, e12, e13, hlt, hlt']
          refine W_still follows (by kernel_rfl) ?_
          simp [go_sem, IntWalk.iteOmega, IntWalk.toNatUp, e0, e1, e12, e13, hlt, hlt', hlt2, hlt3, y0, y1, hq', he]
          exact hbw.drew
      · obtain rfl : i = xs.length := by omega
        have he : decide (xs = ys) = true := by rw [decide_eq_true_eq]; exact eq_of_getD hl hall
        simp [go_sem, IntWalk.iteOmega, IntWalk.toNatUp, e0, e1, e12, e13, he]
        exact hbw
  · have hl' : ((xs.length : Int) != ys.length) = true := bne_iff_ne.2 (by omega)
    have he : decide (xs = ys) = false := by rw [decide_eq_false_iff_not]; intro e; exact hl (by rw [e])
    simp [go_sem, IntWalk.iteOmega, IntWalk.toNatUp, hl', he]
    exact Below.refl _ _
theorem noinit_equalL : Try.prog.inits.idxOf? 17 = none := by kernel_rfl
set_option maxHeartbeats 1600000 in
theorem equalU_any (xs ys : List Int) (vx vy : Value) (w : World) (hx : Sl w 1 vx xs.length (intsK .u64 xs)) (hy : Sl w 1 vy ys.length (intsK .u64 ys)) :
    callE Try.prog 19 #[vx, vy] w fun v w' => v = .bool (decide (xs = ys)) ∧ Below w.heap.size w w' := by
  obtain ⟨A, cap, rfl, hrx, hA, hc1, hc2⟩ := id hx
  obtain ⟨B, cap2, rfl, hry, hB, hd1, hd2⟩ := id hy
  refine calls_E Try.func19 rfl rfl rfl (Nat.le_of_ble_eq_true rfl) ?_
  by_cases hl : xs.length = ys.length
  · have hl' : ((xs.length : Int) != ys.length) = false := by simp [hl]
    simp [go_sem, IntWalk.iteOmega, IntWalk.toNatUp, hl']
    refine W_loop (fun st wr => ∃ i : Nat, i ≤ xs.length ∧ st 0 = .slice A xs.length cap ∧ st 1 = .slice B ys.length cap2 ∧ st 12 = .int .i64 xs.length ∧ st 13 = .int .i64 i ∧ (∀ j, j < i → xs.getD j 0 = ys.getD j 0) ∧ Below w.heap.size w wr) (fun st _ => xs.length - (intOf (st 13)).toNat) ?_ ?_
    · exact ⟨0, by omega, by simp [go_sem], by simp [go_sem], by simp [go_sem], by simp [go_sem], fun j hj => by omega, Below.refl _ _⟩
    · rintro st wr ⟨i, hi, e0, e1, e12, e13, hall, hbw⟩
      by_cases hlt : i < xs.length
      · obtain ⟨b, o, rfl, hb, hcx⟩ := hrx.cells (by omega)
        obtain ⟨b2, o2, rfl, hb2, hcy⟩ := hry.cells (by omega)
        have y0 := hcx _ _ (intsK_at hlt)
        have y1 := hcy _ _ (intsK_at (i := i) (by omega))
        rw [← hbw.cell hb] at y0
        rw [← hbw.cell hb2] at y1
        have hlt' : (i : Int) < xs.length := by omega
        have hlt2 : (i : Int) < ys.length := by omega
        have hlt3 : i < ys.length := by omega
        have hne : xs.getD i 0 ≠ ys.getD i 0 → decide (xs = ys) = false := fun h => by
          rw [decide_eq_false_iff_not]; intro e; exact h (by rw [e])
        have hsucc : xs.getD i 0 = ys.getD i 0 → ∀ j, j < i + 1 → xs.getD j 0 = ys.getD j 0 := fun h j hj => by
          by_cases hji : j = i
          · rw [hji]; exact h
          · exact hall j (by omega)
        generalize hX : xs.getD i 0 = x at y0 hne hsucc
        generalize hY : ys.getD i 0 = y at y1 hne hsucc
        by_cases hq : x = y
        · have hq' : (x != y) = false := by simp [hq]
          simp [go_sem, IntWalk.iteOmega, IntWalk.toNatUp, e0, e1, e12, e13, hlt, hlt']
          refine W_still follows (by kernel_rfl) ?_
          simp [go_sem, IntWalk.iteOmega, IntWalk.toNatUp, e0, e1, e12, e13, hlt, hlt', hlt2, hlt3, y0, y1, hq']
          refine roundEnd.mk ⟨i + 1, by omega, by simp [go_sem, e0], by simp [go_sem, e1], by simp [go_sem, e12], by simp [go_sem], hsucc hq, hbw.drew⟩ ?_
          simp [go_sem, intOf]; omega
        · have hq' : (x != y) = true := by simpa using hq
          have he := hne hq
          simp [go_sem, IntWalk.iteOmega, IntWalk.toNatUp, e0, e1, e12, e13, hlt, hlt']
          refine W_still follows (by kernel_rfl) ?_
          simp [go_sem, IntWalk.iteOmega, IntWalk.toNatUp, e0, e1, e12, e13, hlt, hlt', hlt2, hlt3, y0, y1, hq', he]
          exact hbw.drew
      · obtain rfl : i = xs.length := by omega
        have he : decide (xs = ys) = true := by rw [decide_eq_true_eq]; exact eq_of_getD hl hall
        simp [go_sem, IntWalk.iteOmega, IntWalk.toNatUp, e0, e1, e12, e13, he]
        exact hbw
  · have hl' : ((xs.length : Int) != ys.length) = true := bne_iff_ne.2 (by omega)
    have he : decide (xs = ys) = false := by rw [decide_eq_false_iff_not]; intro e; exact hl (by rw [e])
    simp [go_sem, IntWalk.iteOmega, IntWalk.toNatUp, hl', he]
    exact Below.refl _ _
theorem noinit_equalU : Try.prog.inits.idxOf? 19 = none := by kernel_rfl
/-- the place of a number, from place k on -/
def idxV (x : Int) : List Int → Int → Int
  | [], _ => -1
  | y :: l, k => if x = y then k else idxV x l (k + 1)
theorem idxV_at {x : Int} {l : List Int} {i : Nat} (h : i < l.length) : idxV x (l.drop i) i = if x = l.getD i 0 then (i : Int) else idxV x (l.drop (i + 1)) ((i + 1 : Nat) : Int) := by
  rw [List.drop_eq_getElem_cons h]
  simp [idxV, List.getD, h]
theorem idxV_mem {x : Int} : ∀ (l : List Int) (k : Int), 0 ≤ k → (0 ≤ idxV x l k ↔ x ∈ l)
  | [], k, _ => by simp [idxV]
  | y :: l, k, hk => by
    simp only [idxV, List.mem_cons]
    by_cases h : x = y
    · simp [h, hk]
    · rw [if_neg h, idxV_mem l (k + 1) (by omega)]; simp [h]
set_option maxHeartbeats 1600000 in
theorem index_any (xs : List Int) (x : Int) (vx : Value) (w : World) (hx : Sl w 1 vx xs.length (intsK .i64 xs)) :
    callE Try.prog 31 #[vx, .int .i64 x] w fun v w' => v = .int .i64 (idxV x xs 0) ∧ Below w.heap.size w w' := by
  obtain ⟨A, cap, rfl, hrx, hA, hc1, hc2⟩ := id hx
  refine calls_E Try.func31 rfl rfl rfl (Nat.le_of_ble_eq_true rfl) ?_
  simp [go_sem, IntWalk.iteOmega, IntWalk.toNatUp]
  refine W_loop (fun st wr => ∃ i : Nat, i ≤ xs.length ∧ st 0 = .slice A xs.length cap ∧ st 1 = .int .i64 x ∧ st 7 = .int .i64 xs.length ∧ st 8 = .int .i64 i ∧ idxV x xs 0 = idxV x (xs.drop i) i ∧ Below w.heap.size w wr) (fun st _ => xs.length - (intOf (st 8)).toNat) ?_ ?_
  · exact ⟨0, by omega, by simp [go_sem], by simp [go_sem], by simp [go_sem], by simp [go_sem], by simp, Below.refl _ _⟩
  · rintro st wr ⟨i, hi, e0, e1, e7, e8, hf, hbw⟩
    by_cases hlt : i < xs.length
    · obtain ⟨b, o, rfl, hb, hcx⟩ := hrx.cells (by omega)
      have y0 := hcx _ _ (intsK_at hlt)
      rw [← hbw.cell hb] at y0
      have hlt' : (i : Int) < xs.length := by omega
      have hfa := idxV_at (x := x) hlt
      rw [← hf] at hfa
      generalize xs.getD i 0 = y at *
      by_cases hq : x = y
      · rw [if_pos hq] at hfa
        subst hq
        simp [go_sem, IntWalk.iteOmega, IntWalk.toNatUp, e0, e1, e7, e8, hlt, hlt', y0, hfa]
        exact hbw
      · have hq' : (x == y) = false := beq_eq_false_iff_ne.2 hq
        rw [if_neg hq] at hfa
        simp [go_sem, IntWalk.iteOmega, IntWalk.toNatUp, e0, e1, e7, e8, hlt, hlt', y0, hq']
        refine roundEnd.mk ⟨i + 1, by omega, by simp [go_sem, e0], by simp [go_sem, e1], by simp [go_sem, e7], by simp [go_sem], hfa, hbw⟩ ?_
        simp [go_sem, intOf]; omega
    · obtain rfl : i = xs.length := by omega
      rw [List.drop_length] at hf
      have hf' : idxV x xs 0 = -1 := hf
      simp [go_sem, IntWalk.iteOmega, IntWalk.toNatUp, e0, e1, e7, e8, hf']
      exact hbw
theorem contains_any (xs : List Int) (x : Int) (vx : Value) (w : World) (hx : Sl w 1 vx xs.length (intsK .i64 xs)) :
    callE Try.prog 15 #[vx, .int .i64 x] w fun v w' => v = .bool (decide (x ∈ xs)) ∧ Below w.heap.size w w' := by
  refine calls_E Try.func15 rfl rfl rfl (Nat.le_of_ble_eq_true rfl) ?_
  simp [go_sem, IntWalk.iteOmega, IntWalk.toNatUp]
  refine callE_of (index_any xs x vx w hx) ?_
  rintro _ w1 ⟨rfl, k1⟩
  have he : decide (x ∈ xs) = decide (0 ≤ idxV x xs 0) := decide_eq_decide.2 (idxV_mem xs 0 (by omega)).symm
  rw [he]
  simp [go_sem, IntWalk.iteOmega, IntWalk.toNatUp]
  exact k1
set_option maxHeartbeats 1600000 in
theorem has_any (xs : List Int) (x : Int) (vx : Value) (w : World) (hx : Sl w 1 vx xs.length (intsK .i64 xs)) :
    callE Try.prog 41 #[vx, .int .i64 x] w fun v w' => v = .bool (decide (x ∈ xs)) ∧ Below w.heap.size w w' := by
  obtain ⟨A, cap, rfl, hrx, hA, hc1, hc2⟩ := id hx
  refine calls_E Try.func41 rfl rfl rfl (Nat.le_of_ble_eq_true rfl) ?_
  simp [go_sem, IntWalk.iteOmega, IntWalk.toNatUp]
  refine W_loop (fun st wr => ∃ i : Nat, i ≤ xs.length ∧ st 0 = .slice A xs.length cap ∧ st 1 = .int .i64 x ∧ st 5 = .int .i64 i ∧ (¬ x ∈ xs.take i) ∧ Below w.heap.size w wr) (fun st _ => xs.length - (intOf (st 5)).toNat) ?_ ?_
  · exact ⟨0, by omega, by simp [go_sem], by simp [go_sem], by simp [go_sem], by simp, Below.refl _ _⟩
  · rintro st wr ⟨i, hi, e0, e1, e5, hf, hbw⟩
    by_cases hlt : i < xs.length
    · obtain ⟨b, o, rfl, hb, hcx⟩ := hrx.cells (by omega)
      have y0 := hcx _ _ (intsK_at hlt)
      rw [← hbw.cell hb] at y0
      have hlt' : (i : Int) < xs.length := by omega
      have htk := take_succ_at hlt
      have hmem := getD_mem hlt
      generalize xs.getD i 0 = y at *
      by_cases hq : y = x
      · have he : decide (x ∈ xs) = true := by rw [decide_eq_true_eq, ← hq]; exact hmem
        have hq' : (y == x) = true := by simp [hq]
        simp [go_sem, IntWalk.iteOmega, IntWalk.toNatUp, e0, e1, e5, hlt, hlt', y0, hq', he]
        exact hbw
      · have hq' : (y == x) = false := beq_eq_false_iff_ne.2 hq
        simp [go_sem, IntWalk.iteOmega, IntWalk.toNatUp, e0, e1, e5, hlt, hlt', y0, hq']
        refine roundEnd.mk ⟨i + 1, by omega, by simp [go_sem, e0], by simp [go_sem, e1], by simp [go_sem], ?_, hbw⟩ ?_
        · rw [htk]; intro h; rcases List.mem_append.1 h with h | h
          · exact hf h
          · exact hq (List.mem_singleton.1 h).symm
        · simp [go_sem, intOf]; omega
    · obtain rfl : i = xs.length := by omega
      rw [List.take_length] at hf
      have he : decide (x ∈ xs) = false := by rw [decide_eq_false_iff_not]; exact hf
      simp [go_sem, IntWalk.iteOmega, IntWalk.toNatUp, e0, e1, e5, he]
      exact hbw
end Go.Proofs.Ytmoafaaeeanofaa
