/-
  Units: the program's and the document's.
-/
import Derived.Test.YtmoafaaeeanofaaSInsert
import Derived.Test.YtmoafaaeeanofaaSPlain
namespace Go.Proofs.Ytmoafaaeeanofaa
open Go.RowKit
set_option linter.unusedVariables false
set_option linter.unusedSimpArgs false
set_option maxRecDepth 10000
theorem cnt_append (a b : List Int) (x : Int) : cnt (a ++ b) x = cnt a x + cnt b x := by unfold cnt; rw [List.countP_append]; simp
theorem cnt_mono (l : List Int) {x y : Int} (h : x ≤ y) : cnt l x ≤ cnt l y := by
  unfold cnt
  have := List.countP_mono_left (l := l) (p := fun z => decide (z < x)) (q := fun z => decide (z < y)) (fun z _ hz => by simp at hz ⊢; omega)
  omega
def boolN : Value → Nat
  | .bool true => 1
  | _ => 0
set_option maxHeartbeats 3200000 in
theorem left_any (l : List Int) (n : Int) (hl : l.length ≤ 64) (hnd : l.Nodup) (hI : ∀ x ∈ l, 0 ≤ x ∧ x ≤ 4611686018427387903) (hn : 0 ≤ n ∧ n ≤ 4611686018427387903) (vl : Value) (w : World) (hs : Sl w 1 vl l.length (intsK .i64 l)) :
    callE Try.prog 34 #[vl, .int .i64 n] w fun v w' => v = .int .i64 (freeV l n) ∧ Below w.heap.size w w' := by
  obtain ⟨A, cap, rfl, hrd, hA, hc1, hc2⟩ := id hs
  refine calls_E Try.func34 rfl rfl rfl (Nat.le_of_ble_eq_true rfl) ?_
  simp [go_sem, IntWalk.iteOmega, IntWalk.toNatUp]
  refine W_loop (fun st wr => ∃ (x : Int) (g : Bool), st 0 = .slice A l.length cap ∧ st 1 = .int .i64 n ∧ st 5 = .int .i64 x ∧ st 6 = .bool g ∧ n ≤ x ∧ x ≤ n + l.length ∧ x ≤ n + cnt l (x + 1) ∧ (∀ z, n ≤ z → z < x → z < n + cnt l (z + 1)) ∧ (g = false → x = n + cnt l (x + 1)) ∧ Below w.heap.size w wr)
    (fun st _ => (2 * (n + l.length - intOf (st 5))).toNat + boolN (st 6)) ?_ ?_
  · have := (cnt_nn l (n + 1)).1
    exact ⟨n, true, by simp [go_sem], by simp [go_sem], by simp [go_sem], by simp [go_sem], by omega, by omega, by omega, fun z h1 h2 => by omega, fun h => (by cases h), Below.refl _ _⟩
  · rintro st wr ⟨x, g, e0, e1, e5, e6, hx0, hx1, hx2, hinv, hg, hbw⟩
    cases g with
    | true =>
      simp [go_sem, IntWalk.iteOmega, IntWalk.toNatUp, e0, e1, e5, e6]
      refine W_loop (fun st wr => ∃ i : Nat, i ≤ l.length ∧ st 0 = .slice A l.length cap ∧ st 1 = .int .i64 n ∧ st 5 = .int .i64 x ∧ st 6 = .bool false ∧ st 7 = .int .i64 (cnt (l.take i) (x + 1)) ∧ st 8 = .int .i64 i ∧ Below w.heap.size w wr) (fun st _ => l.length - (intOf (st 8)).toNat) ?_ ?_
      · exact ⟨0, by omega, by simp [go_sem, e0], by simp [go_sem, e1], by simp [go_sem, e5], by simp [go_sem], by simp [go_sem, cnt], by simp [go_sem], hbw⟩
      · rintro st2 wr2 ⟨i, hi, f0, f1, f5, f6, f7, f8, hbw2⟩
        by_cases hlt : i < l.length
        · obtain ⟨b, o, rfl, hb, hc⟩ := hrd.cells (by omega)
          have y0 := hc _ _ (intsK_at hlt)
          rw [← hbw2.cell hb] at y0
          have hlt' : (i : Int) < l.length := by omega
          have htk := take_succ_at hlt
          have hcn := cnt_nn (l.take i) (x + 1)
          have hyI := hI _ (getD_mem hlt)
          have hti : (l.take i).length ≤ 64 := by rw [List.length_take]; omega
          generalize l.getD i 0 = y at *
          by_cases hq : y ≤ x
          · have hc1 : cnt (l.take (i + 1)) (x + 1) = cnt (l.take i) (x + 1) + 1 := by rw [htk, cnt_append]; simp [cnt, Int.lt_add_one_iff, hq]
            simp [go_sem, IntWalk.iteOmega, IntWalk.toNatUp, f0, f1, f5, f6, f7, f8, hlt, hlt', y0, hq]
            refine roundEnd.mk ⟨i + 1, by omega, by simp [go_sem, f0], by simp [go_sem, f1], by simp [go_sem, f5], by simp [go_sem, f6], ?_, by simp [go_sem], hbw2⟩ ?_
            · rw [hc1]; simp [go_sem]
            · simp [go_sem, intOf]; omega
          · have hc1 : cnt (l.take (i + 1)) (x + 1) = cnt (l.take i) (x + 1) := by rw [htk, cnt_append]; simp [cnt, Int.lt_add_one_iff, hq]
            simp [go_sem, IntWalk.iteOmega, IntWalk.toNatUp, f0, f1, f5, f6, f7, f8, hlt, hlt', y0, hq]
            refine roundEnd.mk ⟨i + 1, by omega, by simp [go_sem, f0], by simp [go_sem, f1], by simp [go_sem, f5], by simp [go_sem, f6], ?_, by simp [go_sem], hbw2⟩ ?_
            · rw [hc1]; simp [go_sem, f7]
            · simp [go_sem, intOf]; omega
        · obtain rfl : i = l.length := by omega
          rw [List.take_length] at f7
          have hcn := cnt_nn l (x + 1)
          generalize hC : cnt l (x + 1) = C at *
          by_cases hq : x = n + C
          · have hq' : (x != n + C) = false := by simp [hq]
            simp [go_sem, IntWalk.iteOmega, IntWalk.toNatUp, f0, f1, f5, f6, f7, f8, hq']
            refine roundEnd.mk ⟨x, false, by simp [go_sem, f0], by simp [go_sem, f1], by simp [go_sem, f5], by simp [go_sem, f6], hx0, hx1, by omega, hinv, fun _ => by omega, hbw2⟩ ?_
            simp [go_sem, intOf, boolN, f5, f6, e5, e6]
          · have hq' : (x != n + C) = true := by simpa using hq
            have hm := cnt_mono l (show x + 1 ≤ n + C + 1 by omega)
            have hm2 := (cnt_nn l (n + C + 1)).2
            simp [go_sem, IntWalk.iteOmega, IntWalk.toNatUp, f0, f1, f5, f6, f7, f8, hq']
            refine roundEnd.mk ⟨n + C, true, by simp [go_sem, f0], by simp [go_sem, f1], by simp [go_sem], by simp [go_sem], by omega, by omega, by omega, fun z h1 h2 => ?_, fun h => (by cases h), hbw2⟩ ?_
            · by_cases hz : z < x
              · exact hinv z h1 hz
              · have := cnt_mono l (show x + 1 ≤ z + 1 by omega)
                omega
            · simp [go_sem, intOf, boolN, e5, e6]; omega
    | false =>
      have hfix := hg rfl
      have hfree : FreeP l n x := by
        have hs := cnt_succ hnd x
        have hnotin : x ∉ l := by
          intro hm
          rw [if_pos hm] at hs
          have h0 := (cnt_nn l x).1
          have := hinv (x - 1) (by omega) (by omega)
          rw [show x - 1 + 1 = x by omega] at this
          omega
        rw [if_neg hnotin] at hs
        exact ⟨hnotin, by omega⟩
      have hfv := freeV_eq hnd hfree
      have hdec : decide (x ∈ l) = false := by simpa using hfree.1
      simp [go_sem, IntWalk.iteOmega, IntWalk.toNatUp, e0, e1, e5, e6]
      refine W_loop (fun st w2 => st 0 = .slice A l.length cap ∧ st 5 = .int .i64 x ∧ Below w.heap.size w w2) (fun st _ => 0) ?_ ?_
      · exact ⟨by simp [go_sem, e0], by simp [go_sem, e5], hbw⟩
      · rintro st2 w2 ⟨f0, f5, hb2⟩
        simp [go_sem, IntWalk.iteOmega, IntWalk.toNatUp, f0, f5]
        refine callE_of (has_any l x _ w2 (Sl_kept hs hb2)) ?_
        rintro _ w3 ⟨rfl, k3⟩
        rw [hdec]
        simp [go_sem, IntWalk.iteOmega, IntWalk.toNatUp, f0, f5, hfv]
        exact hb2.trans (k3.mono hb2.size)
theorem draw_any (ds : List Int) (j : Nat) (vd : Value) (w : World) (hs : Sl w 1 vd ds.length (intsK .u64 ds)) : callE Try.prog 32 #[vd, .int .i64 j] w fun v w' => v = .int .u64 (drawV ds j) ∧ Below w.heap.size w w' := by
  obtain ⟨A, cap, rfl, hrd, hA, hc1, hc2⟩ := id hs
  refine calls_E Try.func32 rfl rfl rfl (Nat.le_of_ble_eq_true rfl) ?_
  by_cases hlt : j < ds.length
  · obtain ⟨b, o, rfl, hb, hc⟩ := hrd.cells (by omega)
    have y0 := hc _ _ (intsK_at hlt)
    have hlt' : (j : Int) < ds.length := by omega
    simp [go_sem, IntWalk.iteOmega, IntWalk.toNatUp, hlt, hlt', y0, drawV]
    exact Below.refl _ _
  · have hlt' : ¬ (j : Int) < ds.length := by omega
    have he : drawV ds j = 0 := by unfold drawV; simp [List.getD, List.getElem?_eq_none (show ds.length ≤ j by omega)]
    simp [go_sem, IntWalk.iteOmega, IntWalk.toNatUp, hlt', he]
    exact Below.refl _ _
end Go.Proofs.Ytmoafaaeeanofaa
