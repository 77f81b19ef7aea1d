/-
  gate.Of; all that are told of a gate.
-/
import Derived.Test.YtilpmnbnjeahnaaGTold
import Derived.Test.YtilpmnbnjeahnaaGInv
import Derived.Test.YtilpmnbnjeahnaaOwnLaw
namespace Go.Proofs.Ytilpmnbnjeahnaa
open Go.RowKit
set_option linter.unusedVariables false
set_option linter.unusedSimpArgs false
set_option maxRecDepth 10000
def GSt.val (x : GSt) : Value := .agg #[.int .i64 x.many, .int .i64 x.large, .int .i64 x.own, .int .i64 x.drops]
def GSt.zero : GSt := ⟨0, 0, 0, 0⟩
/-- what Of answers -/
def GS.ofV (S : GS) (v : Int) : GSt × Int := if 0 ≤ v ∧ v < S.n then (S.st v.toNat, 0) else (GSt.zero, 1)
theorem of_any (B g : Nat) (S : GS) (w : World) (h : GateIn w B g S) (v : Int) :
    callE Try.prog 19 #[.pointer (some ⟨g, 0, none⟩), .int .i64 v] w fun u w' => u = .tuple #[(S.ofV v).1.val, .int .i64 (S.ofV v).2] ∧ Below w.heap.size w w' := by
  have kA := ext_alloc w (.cells #[.int .i64 0, .int .i64 0, .int .i64 0, .int .i64 0] 44)
  have hG := h.grow kA
  have hno := fun k => callE_eq noinit_none (none_runs B g S _ hG) k
  obtain ⟨sv, m, b, h1, h2, h3, hg, hsh, hmp, ⟨cs, hb, hcs, hall⟩, hn⟩ := hG
  have hcell := hg.cell
  simp only [gcells] at hcell
  have hbcell := hb.cell
  have hblt := hb.lt
  have hglt := hg.lt
  by_cases c1 : v < 0
  · have e : S.ofV v = (GSt.zero, 1) := by rw [GS.ofV, if_neg (by omega)]
    rw [e]
    refine calls_E Try.func19 rfl rfl rfl (Nat.le_of_ble_eq_true rfl) ?_
    simp [go_sem, IntWalk.iteOmega, IntWalk.toNatUp, hno, hcell, c1, GSt.val, GSt.zero]
    exact ext_alloc _ _
  · by_cases c2 : (S.n : Int) ≤ v
    · have e : S.ofV v = (GSt.zero, 1) := by rw [GS.ofV, if_neg (by omega)]
      rw [e]
      refine calls_E Try.func19 rfl rfl rfl (Nat.le_of_ble_eq_true rfl) ?_
      simp [go_sem, IntWalk.iteOmega, IntWalk.toNatUp, hno, hcell, c1, c2, GSt.val, GSt.zero]
      exact ext_alloc _ _
    · obtain ⟨u, rfl⟩ : ∃ u : Nat, v = u := ⟨v.toNat, by omega⟩
      have hu : u < S.n := by omega
      have e : S.ofV u = (S.st u, 0) := by rw [GS.ofV, if_pos (by omega)]; simp
      rw [e]
      obtain ⟨x0, x1, x2, x3⟩ := hall u hu
      refine calls_E Try.func19 rfl rfl rfl (Nat.le_of_ble_eq_true rfl) ?_
      simp [go_sem, IntWalk.iteOmega, IntWalk.toNatUp, hno, hcell, c1, c2, hu, hbcell, x0, x1, x2, x3, GSt.val]
      exact ext_alloc _ _
theorem noinit_of : Try.prog.inits.idxOf? 19 = none := by kernel_rfl
end Go.Proofs.Ytilpmnbnjeahnaa
