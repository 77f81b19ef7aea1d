/-
  gate.Check and the document's; gate.New.
-/
import Derived.Test.YtilpmnbnjeahnaaGEnter
namespace Go.Proofs.Ytilpmnbnjeahnaa
open Go.RowKit
set_option linter.unusedVariables false
set_option linter.unusedSimpArgs false
set_option maxRecDepth 10000
def cfgOk (c : GCfg) : Prop := 0 ≤ c.large ∧ c.large ≤ 1073741824 ∧ 0 ≤ c.own ∧ c.own ≤ 1073741824 ∧ 0 ≤ c.size ∧ c.size ≤ 1073741824 ∧ 0 ≤ c.each ∧ c.each ≤ c.large ∧ 1 ≤ c.many ∧ c.many ≤ 65536
instance (c : GCfg) : Decidable (cfgOk c) := by unfold cfgOk; infer_instance
def cfgE (c : GCfg) : Int := if cfgOk c then 0 else 160
def GCfg.val (c : GCfg) : Value := .agg #[.int .i64 c.large, .int .i64 c.each, .int .i64 c.own, .int .i64 c.many, .int .i64 c.size]
set_option maxHeartbeats 3200000 in
theorem check_any (c : GCfg) (w : World) : callE Try.prog 13 #[c.val] w fun u w' => u = .int .i64 (cfgE c) ∧ Below w.heap.size w w' := by
  unfold GCfg.val
  refine calls_E Try.func13 rfl rfl rfl (Nat.le_of_ble_eq_true rfl) ?_
  by_cases a0 : 0 ≤ c.large ∧ c.large ≤ 1073741824
  rotate_left
  · have he : cfgE c = 160 := if_neg (by unfold cfgOk; omega)
    simp [go_sem, IntWalk.iteOmega, IntWalk.toNatUp, a0, he]
    exact ext_alloc _ _
  by_cases a1 : 0 ≤ c.own ∧ c.own ≤ 1073741824
  rotate_left
  · have he : cfgE c = 160 := if_neg (by unfold cfgOk; omega)
    simp [go_sem, IntWalk.iteOmega, IntWalk.toNatUp, a0, a1, he]
    exact ext_alloc _ _
  by_cases a2 : 0 ≤ c.size ∧ c.size ≤ 1073741824
  rotate_left
  · have he : cfgE c = 160 := if_neg (by unfold cfgOk; omega)
    simp [go_sem, IntWalk.iteOmega, IntWalk.toNatUp, a0, a1, a2, he]
    exact ext_alloc _ _
  by_cases a3 : c.each < 0
  · have he : cfgE c = 160 := if_neg (by unfold cfgOk; omega)
    simp [go_sem, IntWalk.iteOmega, IntWalk.toNatUp, a0, a1, a2, a3, he]
    exact ext_alloc _ _
  by_cases a4 : c.large < c.each
  · have he : cfgE c = 160 := if_neg (by unfold cfgOk; omega)
    simp [go_sem, IntWalk.iteOmega, IntWalk.toNatUp, a0, a1, a2, a3, a4, he]
    exact ext_alloc _ _
  by_cases a5 : c.many < 1
  · have he : cfgE c = 160 := if_neg (by unfold cfgOk; omega)
    simp [go_sem, IntWalk.iteOmega, IntWalk.toNatUp, a0, a1, a2, a3, a4, a5, he]
    exact ext_alloc _ _
  by_cases a6 : 65536 < c.many
  · have he : cfgE c = 160 := if_neg (by unfold cfgOk; omega)
    simp [go_sem, IntWalk.iteOmega, IntWalk.toNatUp, a0, a1, a2, a3, a4, a5, a6, he]
    exact ext_alloc _ _
  have he : cfgE c = 0 := if_pos (by unfold cfgOk; omega)
  simp [go_sem, IntWalk.iteOmega, IntWalk.toNatUp, a0, a1, a2, a3, a4, a5, a6, he]
  exact ext_alloc _ _
set_option maxHeartbeats 6400000 in
theorem rcheck_any (c : GCfg) (w : World) : callE Try.prog 14 #[c.val] w fun u w' => u = .int .i64 (cfgE c) ∧ Below w.heap.size w w' := by
  unfold GCfg.val
  refine calls_E Try.func14 rfl rfl rfl (Nat.le_of_ble_eq_true rfl) ?_
  by_cases a0 : c.large < 0
  · have he : cfgE c = 160 := if_neg (by unfold cfgOk; omega)
    simp [go_sem, IntWalk.iteOmega, IntWalk.toNatUp, a0, he]
    exact ext_alloc _ _
  by_cases a1 : 1073741824 < c.large
  · have he : cfgE c = 160 := if_neg (by unfold cfgOk; omega)
    simp [go_sem, IntWalk.iteOmega, IntWalk.toNatUp, a0, a1, he]
    exact ext_alloc _ _
  by_cases a2 : c.own < 0
  · have he : cfgE c = 160 := if_neg (by unfold cfgOk; omega)
    simp [go_sem, IntWalk.iteOmega, IntWalk.toNatUp, a0, a1, a2, he]
    exact ext_alloc _ _
  by_cases a3 : 1073741824 < c.own
  · have he : cfgE c = 160 := if_neg (by unfold cfgOk; omega)
    simp [go_sem, IntWalk.iteOmega, IntWalk.toNatUp, a0, a1, a2, a3, he]
    exact ext_alloc _ _
  by_cases a4 : c.size < 0
  · have he : cfgE c = 160 := if_neg (by unfold cfgOk; omega)
    simp [go_sem, IntWalk.iteOmega, IntWalk.toNatUp, a0, a1, a2, a3, a4, he]
    exact ext_alloc _ _
  by_cases a5 : 1073741824 < c.size
  · have he : cfgE c = 160 := if_neg (by unfold cfgOk; omega)
    simp [go_sem, IntWalk.iteOmega, IntWalk.toNatUp, a0, a1, a2, a3, a4, a5, he]
    exact ext_alloc _ _
  by_cases a6 : c.each < 0
  · have he : cfgE c = 160 := if_neg (by unfold cfgOk; omega)
    simp [go_sem, IntWalk.iteOmega, IntWalk.toNatUp, a0, a1, a2, a3, a4, a5, a6, he]
    exact ext_alloc _ _
  by_cases a7 : c.large < c.each
  · have he : cfgE c = 160 := if_neg (by unfold cfgOk; omega)
    simp [go_sem, IntWalk.iteOmega, IntWalk.toNatUp, a0, a1, a2, a3, a4, a5, a6, a7, he]
    exact ext_alloc _ _
  by_cases a8 : c.many < 1
  · have he : cfgE c = 160 := if_neg (by unfold cfgOk; omega)
    simp [go_sem, IntWalk.iteOmega, IntWalk.toNatUp, a0, a1, a2, a3, a4, a5, a6, a7, a8, he]
    exact ext_alloc _ _
  by_cases a9 : 65536 < c.many
  · have he : cfgE c = 160 := if_neg (by unfold cfgOk; omega)
    simp [go_sem, IntWalk.iteOmega, IntWalk.toNatUp, a0, a1, a2, a3, a4, a5, a6, a7, a8, a9, he]
    exact ext_alloc _ _
  have he : cfgE c = 0 := if_pos (by unfold cfgOk; omega)
  simp [go_sem, IntWalk.iteOmega, IntWalk.toNatUp, a0, a1, a2, a3, a4, a5, a6, a7, a8, a9, he]
  exact ext_alloc _ _
theorem noinit_check : Try.prog.inits.idxOf? 13 = none := by kernel_rfl
theorem noinit_rcheck : Try.prog.inits.idxOf? 14 = none := by kernel_rfl
theorem noinit_gshare : Try.prog.inits.idxOf? 11 = none := by kernel_rfl
end Go.Proofs.Ytilpmnbnjeahnaa
