/-
  A set's text: both walks.
-/
import Derived.Test.YtoabdejoabfbeaaDoorTApp
namespace Go.Proofs.YtoabdejoabfbeaaDoor
open Go.RowKit
open Go.Lib (decDigits strCells byteCells)
set_option linter.unusedVariables false
set_option linter.unusedSimpArgs false
set_option maxRecDepth 10000
def textTo (l : List Vd) (i : Nat) : List UInt8 := (l.take i).flatMap lineV
noncomputable def textV (l : List Vd) : List UInt8 := if checkV l = 0 then textTo l l.length else []
theorem textTo_succ {l : List Vd} {i : Nat} (h : i < l.length) : textTo l (i + 1) = textTo l i ++ lineV l[i] := by
  unfold textTo
  rw [List.take_add_one, List.getElem?_eq_getElem h, List.flatMap_append]
  simp
theorem line_len (x : Vd) (hw : 0 ≤ x.weight ∧ x.weight ≤ 9223372036854775807) (hn : x.name.size ≤ 100000) : (lineV x).length ≤ 100022 := by
  have hs1 : x.name.size = x.name.data.toList.length := by rw [Array.length_toList]; rfl
  have := Go.Lib.nDigits_le20 x.weight.toNat (by omega)
  unfold lineV
  simp only [List.length_append, List.length_cons, List.length_nil, Go.Lib.decDigits_length]
  omega
theorem textTo_len {l : List Vd} (hW : ∀ i, (h : i < l.length) → 0 ≤ (l[i]).weight ∧ (l[i]).weight ≤ 9223372036854775807) (hn : ∀ x ∈ l, x.name.size ≤ 100000) : ∀ i, i ≤ l.length → (textTo l i).length ≤ i * 100022 := by
  intro i
  induction i with
  | zero => intro _; simp [textTo]
  | succ i ih =>
    intro hi
    have h : i < l.length := by omega
    have := ih (by omega)
    have := line_len l[i] (hW i h) (hn _ (List.getElem_mem h))
    rw [textTo_succ h, List.length_append]
    omega
theorem noinit_line : Tryd.prog.inits.idxOf? 20 = none := by kernel_rfl
set_option maxHeartbeats 1600000 in
theorem rtext_any (l : List Vd) (vl : Value) (w : World) (hs : Sl w 2 vl l.length (vdrs l)) (hN : ∀ x ∈ l, x.name.size ≤ 100000) (hW : ∀ x ∈ l, -9223372036854775808 ≤ x.weight ∧ x.weight ≤ 9223372036854775807) :
    callE Tryd.prog 8 #[vl] w fun v w' => v = .tuple #[.string (strOf (textV l)), .int .i64 (checkV l)] ∧ Below w.heap.size w w' := by
  have hchk := rcheck_any l vl w hs (fun x hx => by have := hN x hx; omega) hW
  obtain ⟨A, cap, rfl, hrd, hA, hc1, hc2⟩ := id hs
  refine calls_E Tryd.func8 rfl rfl rfl (Nat.le_of_ble_eq_true rfl) ?_
  simp [go_sem, IntWalk.iteOmega, IntWalk.toNatUp]
  refine callE_of hchk ?_
  rintro _ w1 ⟨rfl, k1⟩
  by_cases hck : checkV l = 0
  · have hb0 : (checkV l != 0) = false := by simp [hck]
    have he : textV l = textTo l l.length := by unfold textV; rw [if_pos hck]
    obtain ⟨q1, q2, q3, q4⟩ := check0 hck
    have hW' : ∀ i, (h : i < l.length) → 0 ≤ (l[i]).weight ∧ (l[i]).weight ≤ 9223372036854775807 := fun i h => by
      have h1 := (q4 i h).1
      rw [← vAt_eq h] at h1
      exact ⟨by omega, (hW _ (List.getElem_mem h)).2⟩
    have htl := textTo_len hW' hN
    simp [go_sem, IntWalk.iteOmega, IntWalk.toNatUp, hb0]
    refine W_loop (fun st wr => ∃ (i : Nat), i ≤ l.length ∧ st 0 = .slice A l.length cap ∧ st 5 = .string (strOf (textTo l i)) ∧ st 6 = .int .i64 i ∧ Below w.heap.size w wr) (fun st _ => l.length - (intOf (st 6)).toNat) ?_ ?_
    · exact ⟨0, by omega, by simp [go_sem], by simp [go_sem, textTo, strOf], by simp [go_sem], k1⟩
    · rintro st wr ⟨i, hi, e0, e5, e6, hbw⟩
      by_cases hlt : i < l.length
      · obtain ⟨b, o, rfl, hb, hc⟩ := hrd.cells (by omega)
        obtain ⟨a0, a1⟩ := vdrs_at l i hlt
        have x0 := hc _ _ a0
        have x1 := hc _ _ a1
        rw [← hbw.cell hb] at x0 x1
        rw [← Nat.add_assoc] at x1
        have hst := textTo_succ hlt
        have hl1 := htl (i + 1) (by omega)
        have hw' := hW' i hlt
        have hn' := hN _ (List.getElem_mem hlt)
        have hlt' : (i : Int) < l.length := by omega
        rw [hst, List.length_append] at hl1
        generalize l[i] = x at *
        generalize textTo l i = T at *
        simp [go_sem, IntWalk.iteOmega, IntWalk.toNatUp, e0, e5, e6, hlt, hlt', x0, x1]
        refine callE_of (line_any x hw' hn' wr) ?_
        rintro _ w2 ⟨rfl, k2⟩
        have hsz : ¬ 9223372036854775807 < T.length + (lineV x).length := by omega
        simp [go_sem, IntWalk.iteOmega, IntWalk.toNatUp, e0, e5, e6, strOf_size, hsz, strOf_app]
        refine roundEnd.mk ⟨i + 1, by omega, by simp [go_sem, e0], ?_, by simp [go_sem], ext_trans hbw k2⟩ ?_
        · rw [hst]; simp [go_sem]
        · simp [go_sem, intOf]; omega
      · obtain rfl : i = l.length := by omega
        simp [go_sem, IntWalk.iteOmega, IntWalk.toNatUp, e0, e5, e6, he, hck]
        exact hbw
  · have hb0 : (checkV l != 0) = true := by simpa using hck
    have he : textV l = [] := by unfold textV; rw [if_neg hck]
    simp [go_sem, IntWalk.iteOmega, IntWalk.toNatUp, hb0, he]
    exact ⟨rfl, k1⟩
end Go.Proofs.YtoabdejoabfbeaaDoor
