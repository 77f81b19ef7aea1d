/-
  VdrTexts, VdrBack: their walks; what they share.
-/
import Derived.Test.YtoabdejoabfbeaaDoorTParse2
import Derived.Test.YtoabdejoabfbeaaDoorVLive
import Derived.Test.YtoabdejoabfbeaaDoorVEq
import Derived.Test.YtoabdejoabfbeaaDoorStru
namespace Go.Proofs.YtoabdejoabfbeaaDoor
open Go.RowKit
open Go.Lib (cut decDigits)
set_option linter.unusedVariables false
set_option linter.unusedSimpArgs false
set_option maxRecDepth 10000
def NamesIn (l : List Vd) : Prop := ∀ x ∈ l, x.name.size ≤ 9223372036854775807
def WeightsIn (l : List Vd) : Prop := ∀ x ∈ l, -9223372036854775808 ≤ x.weight ∧ x.weight ≤ 9223372036854775807
open Classical in
noncomputable def fewV (l : List Vd) : Bool := decide ((∀ j, j < min l.length 100 → (vAt l j).name.size ≤ 300) ∧ l.length ≤ 50)
theorem few_50 {l : List Vd} (h : fewV l = true) : l.length ≤ 50 := by unfold fewV at h; rw [decide_eq_true_eq] at h; exact h.2
set_option maxHeartbeats 1600000 in
theorem few_any (l : List Vd) (vl : Value) (w : World) (hs : Sl w 2 vl l.length (vdrs l)) (hN : NamesIn l) : callE Tryd.prog 6 #[vl] w fun v w' => v = .bool (fewV l) ∧ Below w.heap.size w w' := by
  obtain ⟨A, cap, rfl, hrd, hA, hc1, hc2⟩ := id hs
  refine calls_E Tryd.func6 rfl rfl rfl (Nat.le_of_ble_eq_true rfl) ?_
  have hm0 : (0 : Int) ≤ min (l.length : Int) 100 := by omega
  have hm1 : min (l.length : Int) 100 ≤ cap := by omega
  have hm2 : (min (l.length : Int) 100).toNat = min l.length 100 := by omega
  have hm3 : min (l.length : Int) 100 ≤ l.length := by omega
  have hm4 : min (l.length : Int) 100 = ((min l.length 100 : Nat) : Int) := by omega
  have hm5 : (min (l.length : Int) 100).toNat ≤ cap := by omega
  simp [go_sem, IntWalk.iteOmega, IntWalk.toNatUp, hm4, hm0, hm1, hm2, hm3, hm5, show min l.length 100 ≤ cap by omega]
  refine W_loop (fun st wr => ∃ i : Nat, i ≤ min l.length 100 ∧ st 0 = .slice A l.length cap ∧ (∃ c, st 9 = .slice A (min l.length 100) c) ∧ st 10 = .int .i64 ((min l.length 100 : Nat) : Int) ∧ st 11 = .int .i64 i ∧ (∀ j, j < i → (vAt l j).name.size ≤ 300) ∧ Below w.heap.size w wr) (fun st _ => min l.length 100 - (intOf (st 11)).toNat) ?_ ?_
  · exact ⟨0, by omega, by simp [go_sem], ⟨cap, by simp [go_sem]⟩, by simp [go_sem], by simp [go_sem], fun j hj => by omega, Below.refl _ _⟩
  · rintro st wr ⟨i, hi, e0, ⟨c, e9⟩, e10, e11, hall, hbw⟩
    by_cases hlt : i < min l.length 100
    · have hlt2 : i < l.length := by omega
      obtain ⟨b, o, rfl, hb, hc⟩ := hrd.cells (by omega)
      obtain ⟨a0, a1⟩ := vdrs_at l i hlt2
      have x0 := hc _ _ a0
      have x1 := hc _ _ a1
      rw [← hbw.cell hb] at x0 x1
      rw [← Nat.add_assoc] at x1
      have hlt' : (i : Int) < ((min l.length 100 : Nat) : Int) := by omega
      have hst : ∀ j, j < i + 1 → j ≠ i → (vAt l j).name.size ≤ 300 := fun j hj hne => hall j (by omega)
      rw [vAt_eq hlt2] at x0 x1
      have hbad : 300 < (vAt l i).name.size → fewV l = false := fun h => by
        unfold fewV; rw [decide_eq_false_iff_not]; exact fun hh => absurd (hh.1 i hlt) (by omega)
      have kA := hbw.alloc hbw.size (.cells #[.string (vAt l i).name, .int .i64 (vAt l i).weight] 32)
      by_cases hq : 300 < (vAt l i).name.size
      · have hq' : (300 : Int) < (vAt l i).name.size := by omega
        have he := hbad hq
        generalize vAt l i = x at *
        simp [go_sem, IntWalk.iteOmega, IntWalk.toNatUp, e0, e9, e10, e11, hlt, hlt', x0, x1, hq', he]
        exact kA
      · have hq' : ¬ (300 : Int) < (vAt l i).name.size := by omega
        simp [go_sem, IntWalk.iteOmega, IntWalk.toNatUp, e0, e9, e10, e11, hlt, hlt', x0, x1, hq']
        refine roundEnd.mk ⟨i + 1, by omega, by simp [go_sem, e0], ⟨c, by simp [go_sem, e9]⟩, by simp [go_sem, e10], by simp [go_sem], fun j hj => ?_, kA⟩ ?_
        · by_cases hji : j = i
          · subst hji; omega
          · exact hst j hj hji
        · simp [go_sem, intOf]; omega
    · obtain rfl : i = min l.length 100 := by omega
      have he : fewV l = decide ((l.length : Int) ≤ 50) := by
        unfold fewV; apply decide_eq_decide.2; constructor
        · intro h; have := h.2; omega
        · intro h; exact ⟨hall, by omega⟩
      have hle : (min (l.length : Int) 100) ≤ 100 := by omega
      simp [go_sem, IntWalk.iteOmega, IntWalk.toNatUp, e0, e9, e10, e11, he]
      exact hbw
set_option maxHeartbeats 1600000 in
theorem equalV_same (xs : List Vd) (vx vy : Value) (w : World) (hx : Sl w 2 vx xs.length (vdrs xs)) (hy : Sl w 2 vy xs.length (vdrs xs)) :
    callE Tryd.prog 11 #[vx, vy] w fun v w' => v = .bool true ∧ Below w.heap.size w w' := by
  obtain ⟨A, cap, rfl, hrx, hA, hc1, hc2⟩ := id hx
  obtain ⟨B, cap2, rfl, hry, hB, hd1, hd2⟩ := id hy
  refine calls_E Tryd.func11 rfl rfl rfl (Nat.le_of_ble_eq_true rfl) ?_
  simp [go_sem, IntWalk.iteOmega, IntWalk.toNatUp]
  refine W_loop (fun st wr => ∃ i : Nat, i ≤ xs.length ∧ st 0 = .slice A xs.length cap ∧ st 1 = .slice B xs.length cap2 ∧ st 12 = .int .i64 xs.length ∧ st 13 = .int .i64 i ∧ Below w.heap.size w wr) (fun st _ => xs.length - (intOf (st 13)).toNat) ?_ ?_
  · exact ⟨0, by omega, by simp [go_sem], by simp [go_sem], by simp [go_sem], by simp [go_sem], Below.refl _ _⟩
  · rintro st wr ⟨i, hi, e0, e1, e12, e13, hbw⟩
    by_cases hlt : i < xs.length
    · obtain ⟨b, o, rfl, hb, hcx⟩ := hrx.cells (by omega)
      obtain ⟨b2, o2, rfl, hb2, hcy⟩ := hry.cells (by omega)
      obtain ⟨a0, a1⟩ := vdrs_at xs i hlt
      have x0 := hcx _ _ a0
      have x1 := hcx _ _ a1
      have y0 := hcy _ _ a0
      have y1 := hcy _ _ a1
      rw [← hbw.cell hb] at x0 x1
      rw [← hbw.cell hb2] at y0 y1
      rw [← Nat.add_assoc] at x1 y1
      have hlt' : (i : Int) < xs.length := by omega
      generalize xs[i] = x at *
      have hq := run_neq_vd x x wr.drew
      simp only [vdv, and_self, decide_true, Bool.not_true] at hq
      simp [go_sem, IntWalk.iteOmega, IntWalk.toNatUp, e0, e1, e12, e13, hlt, hlt']
      refine W_still follows (by kernel_rfl) ?_
      simp [go_sem, IntWalk.iteOmega, IntWalk.toNatUp, e0, e1, e12, e13, hlt, hlt', x0, x1, y0, y1, hq]
      refine roundEnd.mk ⟨i + 1, by omega, by simp [go_sem, e0], by simp [go_sem, e1], by simp [go_sem, e12], by simp [go_sem], hbw.drew⟩ ?_
      simp [go_sem, intOf]; omega
    · obtain rfl : i = xs.length := by omega
      simp [go_sem, IntWalk.iteOmega, IntWalk.toNatUp, e0, e1, e12, e13]
      exact hbw
section
open Go.ChangeShapes Go.WideShapes
theorem open_vdrs {H : Type} {enc : TypeId × Value → H} {W : World} {base b0 : Nat} {sp : Nat → Bool} {held : Bool} {v : Value} {d : DataW H} {ps : List MemPlace} (hval : Value.okWide Tryd.prog W .any base 22 v)
    (hd : DataW.Trod enc Tryd.prog W b0 sp held 22 v d ps) : ∃ l : List Vd, Sl W 2 v l.length (vdrs l) ∧ NamesIn l ∧ WeightsIn l := by
  have hc : Tryd.prog.cellsOf 32 = 2 := by kernel_rfl
  obtain ⟨n, xs, hs, hi⟩ := open_sl (P := Tryd.prog) Tryd.underlying22 (by rw [hc]; omega) hval hd
  rw [hc] at hs hi
  have hlen : xs.length = n * 2 := by obtain ⟨A, c, _, h, _⟩ := hs; exact h.len
  obtain ⟨l, h1, h2, h3⟩ := list_of_elems (m := 2) (fun o : Vd => [.string o.name, .int .i64 o.weight]) (fun o => o.name.size ≤ 9223372036854775807 ∧ -9223372036854775808 ≤ o.weight ∧ o.weight ≤ 9223372036854775807) n xs hlen (fun i hin => by
    obtain ⟨fuel, y, hy⟩ := hi i hin
    obtain ⟨hl, hcs⟩ := trod_leafs (L := [(0, some .string, 1), (1, some (.int .i64), 1)]) (by kernel_rfl) (by rfl) hy
    rw [hc] at hl
    obtain ⟨v0, e0, s, rfl, hs0⟩ := hcs 0 .string (by simp)
    obtain ⟨v1, e1, a, rfl, ha⟩ := hcs 1 (.int .i64) (by simp)
    refine ⟨⟨s, a⟩, ?_, by unfold maxLen at hs0; exact hs0, bounds_i64 ha⟩
    match hm : (xs.drop (i * 2)).take 2, hl with
    | [p, q], _ =>
      rw [hm] at e0 e1
      simp at e0 e1
      rw [e0, e1])
  subst h1
  exact ⟨l, by rw [h2] at hs; exact hs, fun x hx => (h3 x hx).1, fun x hx => (h3 x hx).2⟩
end
end Go.Proofs.YtoabdejoabfbeaaDoor
