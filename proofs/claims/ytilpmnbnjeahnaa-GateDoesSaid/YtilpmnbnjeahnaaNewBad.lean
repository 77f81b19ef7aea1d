/-
  gate.New, where it refuses.
-/
import Derived.Test.YtilpmnbnjeahnaaGNew
namespace Go.Proofs.Ytilpmnbnjeahnaa
open Go.RowKit
set_option linter.unusedVariables false
set_option linter.unusedSimpArgs false
set_option maxRecDepth 10000
set_option maxHeartbeats 3200000 in
theorem new_bad (c : GCfg) (l : List Int) (vl : Value) (w : World) (hs : Sl w 1 vl l.length (ints .i64 l)) (hbad : ¬ (cfgOk c ∧ okW l = true)) :
    callE Try.prog 15 #[c.val, vl] w fun u w' => ∃ e : Int, (e == 0) = false ∧ u = .tuple #[.pointer none, .int .i64 e] ∧ Below w.heap.size w w' := by
  have hB0 := ext_alloc w (.cells #[.int .i64 c.large, .int .i64 c.each, .int .i64 c.own, .int .i64 c.many, .int .i64 c.size] 23)
  have hchk := check_any c (w.alloc (.cells #[.int .i64 c.large, .int .i64 c.each, .int .i64 c.own, .int .i64 c.many, .int .i64 c.size] 23))
  unfold GCfg.val at hchk ⊢
  refine calls_E Try.func15 rfl rfl rfl (Nat.le_of_ble_eq_true rfl) ?_
  simp [go_sem, IntWalk.iteOmega, IntWalk.toNatUp]
  refine callE_of hchk ?_
  rintro _ w1 ⟨rfl, hB1⟩
  have hBw1 := ext_trans hB0 hB1
  by_cases hc : cfgOk c
  · have he : cfgE c = 0 := if_pos hc
    have he' : (cfgE c == 0) = true := by rw [he]; rfl
    have hk : okW l = false := by
      cases h : okW l with
      | false => rfl
      | true => exact absurd ⟨hc, h⟩ hbad
    have hs1 : Sl w1 1 vl l.length (ints .i64 l) := Sl_keep hs hBw1
    have hsum : ∀ k, callE Try.prog 29 #[vl] w1 k = k (.int .i64 (if okW l then sumW l else -1)) w1 := fun k => callE_eq noinit_gsum (gsum_runs l vl w1 hs1) k
    rw [hk, if_neg (by simp)] at hsum
    simp [go_sem, IntWalk.iteOmega, IntWalk.toNatUp, he, he', hsum]
    exact ⟨1, by simp, rfl, hBw1⟩
  · have he : cfgE c = 160 := if_neg hc
    have he' : (cfgE c == 0) = false := by rw [he]; rfl
    simp [go_sem, IntWalk.iteOmega, IntWalk.toNatUp, he, he']
    exact ⟨160, by simp, rfl, hBw1⟩
end Go.Proofs.Ytilpmnbnjeahnaa
