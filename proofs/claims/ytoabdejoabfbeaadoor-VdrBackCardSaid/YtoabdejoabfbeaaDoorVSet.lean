/-
  Sets of validators: a name's place, whether a set may be.
-/
import Derived.Test.YtoabdejoabfbeaaDoorVName
import Derived.Test.YtoabdejoabfbeaaDoorOpen
namespace Go.Proofs.YtoabdejoabfbeaaDoor
open Go.RowKit
set_option linter.unusedVariables false
set_option linter.unusedSimpArgs false
set_option maxRecDepth 10000
structure Vd where
  name : ByteArray
  weight : Int
def vdrs (l : List Vd) : List Value := l.flatMap fun o => [.string o.name, .int .i64 o.weight]
theorem vdrs_length : ∀ l : List Vd, (vdrs l).length = l.length * 2
  | [] => rfl
  | o :: l => by
    have := vdrs_length l
    simp only [vdrs, List.flatMap_cons, List.length_append, List.length_cons, List.length_nil] at this ⊢
    omega
theorem vdrs_at : ∀ (l : List Vd) (i : Nat) (h : i < l.length), (vdrs l)[i * 2]? = some (.string (l[i]).name) ∧ (vdrs l)[i * 2 + 1]? = some (.int .i64 (l[i]).weight)
  | o :: l, 0, h => ⟨rfl, rfl⟩
  | o :: l, i + 1, h => by
    have := vdrs_at l i (by simpa using h)
    have e : ∀ j, (vdrs (o :: l))[(i + 1) * 2 + j]? = (vdrs l)[i * 2 + j]? := fun j => by
      show ([Value.string o.name, .int .i64 o.weight] ++ vdrs l)[(i + 1) * 2 + j]? = _
      rw [List.getElem?_append_right (by simp; omega)]
      congr 1
      simp; omega
    have e0 := e 0
    simp only [Nat.add_zero] at e0
    rw [e0, e 1]
    simpa using this
/-- the place of a name, from place k on -/
def findV (name : ByteArray) : List Vd → Int → Int
  | [], _ => -1
  | x :: l, k => if x.name.toList = name.toList then k else findV name l (k + 1)
theorem findV_at {name : ByteArray} {l : List Vd} {i : Nat} (h : i < l.length) : findV name (l.drop i) i = if (l[i]).name.toList = name.toList then (i : Int) else findV name (l.drop (i + 1)) ((i + 1 : Nat) : Int) := by
  rw [List.drop_eq_getElem_cons h]
  simp [findV]
set_option maxHeartbeats 1600000 in
theorem vfind_any (l : List Vd) (name : ByteArray) (vl : Value) (w : World) (hs : Sl w 2 vl l.length (vdrs l)) : callE Tryd.prog 25 #[vl, .string name] w fun v w' => v = .int .i64 (findV name l 0) ∧ Below w.heap.size w w' := by
  obtain ⟨A, cap, rfl, hrd, hA, hc1, hc2⟩ := id hs
  refine calls_E Tryd.func25 rfl rfl rfl (Nat.le_of_ble_eq_true rfl) ?_
  simp [go_sem, IntWalk.iteOmega, IntWalk.toNatUp]
  refine W_loop (fun st wr => ∃ i : Nat, i ≤ l.length ∧ st 1 = .string name ∧ st 7 = .slice A l.length cap ∧ st 8 = .int .i64 l.length ∧ st 9 = .int .i64 i ∧ findV name l 0 = findV name (l.drop i) i ∧ Below w.heap.size w wr) (fun st _ => l.length - (intOf (st 9)).toNat) ?_ ?_
  · exact ⟨0, by omega, by simp [go_sem], by simp [go_sem], by simp [go_sem], by simp [go_sem], by simp, Below.refl _ _⟩
  · rintro st wr ⟨i, hi, e1, e7, e8, e9, hf, hbw⟩
    by_cases hlt : i < l.length
    · obtain ⟨b, o, rfl, hb, hc⟩ := hrd.cells (by omega)
      obtain ⟨a0, a1⟩ := vdrs_at l i hlt
      have x0 := hc _ _ a0
      have x1 := hc _ _ a1
      rw [← hbw.cell hb] at x0 x1
      rw [← Nat.add_assoc] at x1
      have hfa := findV_at (name := name) hlt
      rw [← hf] at hfa
      have hlt' : (i : Int) < l.length := by omega
      generalize l[i] = x at *
      have kA := hbw.alloc hbw.size (.cells #[.string x.name, .int .i64 x.weight] 32)
      by_cases hq : x.name.toList = name.toList
      · have hq' : (x.name.toList == name.toList) = true := by simp [hq]
        rw [if_pos hq] at hfa
        simp [go_sem, IntWalk.iteOmega, IntWalk.toNatUp, e1, e7, e8, e9, hlt, hlt', x0, x1, hq', hfa]
        exact kA
      · have hq' : (x.name.toList == name.toList) = false := beq_eq_false_iff_ne.2 hq
        rw [if_neg hq] at hfa
        simp [go_sem, IntWalk.iteOmega, IntWalk.toNatUp, e1, e7, e8, e9, hlt, hlt', x0, x1, hq']
        refine roundEnd.mk ⟨i + 1, by omega, by simp [go_sem, e1], by simp [go_sem, e7], by simp [go_sem, e8], by simp [go_sem], hfa, kA⟩ ?_
        simp [go_sem, intOf]; omega
    · obtain rfl : i = l.length := by omega
      rw [List.drop_length] at hf
      have hf' : findV name l 0 = -1 := hf
      simp [go_sem, IntWalk.iteOmega, IntWalk.toNatUp, e1, e7, e8, e9, hf']
      exact hbw
theorem noinit_vfind : Tryd.prog.inits.idxOf? 25 = none := by kernel_rfl
end Go.Proofs.YtoabdejoabfbeaaDoor
