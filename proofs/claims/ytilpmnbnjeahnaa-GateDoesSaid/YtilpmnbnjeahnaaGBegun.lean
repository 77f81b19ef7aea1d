/-
  begun: the law's own example of a gate.
-/
import Derived.Test.YtilpmnbnjeahnaaGNew
namespace Go.Proofs.Ytilpmnbnjeahnaa
open Go.RowKit
set_option linter.unusedVariables false
set_option linter.unusedSimpArgs false
set_option maxRecDepth 10000
def cSome : GCfg := ⟨10, 6, 8, 9, 100⟩
def s0 : GS := GS.new cSome [1, 3]
def s1 : GS := (s0.enter 0 8).1
def s2 : GS := (s1.enter 0 1).1
def s3 : GS := (s2.enter 1 10).1
def s4 : GS := (s3.leave 1).1
theorem r0 : (s0.enter 0 8).2 = (1, 0) := by kernel_rfl
theorem r1 : (s1.enter 0 1).2 = (0, 6) := by kernel_rfl
theorem r2 : (s2.enter 1 10).2 = (2, 0) := by kernel_rfl
theorem r3 : (s3.leave 1).2 = 0 := by kernel_rfl
theorem l3 : s3.free = 0 := by kernel_rfl
theorem l4 : s4.free = 6 := by kernel_rfl
theorem q0 : atG s0.next s0.l = none := by kernel_rfl
theorem q1 : atG s1.next s1.l = none := by kernel_rfl
theorem q2 : atG s2.next s2.l = none := by kernel_rfl
theorem in3 : ∀ x ∈ s3.l, x.2.v < s3.n := by
  have e : s3.l = [(1, ⟨0, 6, 2⟩), (2, ⟨1, 4, 6⟩)] := by kernel_rfl
  have en : s3.n = 2 := by kernel_rfl
  rw [e, en]
  intro x hx
  simp at hx
  rcases hx with rfl | rfl <;> decide
theorem some_any (w : World) : callE Try.prog 28 #[] w fun u w' => u = cSome.val ∧ Below w.heap.size w w' := by
  refine calls_E Try.func28 rfl rfl rfl (Nat.le_of_ble_eq_true rfl) ?_
  simp [go_sem, IntWalk.iteOmega, IntWalk.toNatUp, GCfg.val, cSome]
  exact ext_alloc _ _
theorem ok13 : okW [1, 3] = true := by decide
set_option maxHeartbeats 3200000 in
theorem begun_any (w' : World) : callE Try.prog 10 #[] w' fun u w'' => u = .bool true ∧ Below w'.heap.size w' w'' := by
  refine calls_E Try.func10 rfl rfl rfl (Nat.le_of_ble_eq_true rfl) ?_
  simp [go_sem, IntWalk.iteOmega, IntWalk.toNatUp]
  refine callE_of (some_any w') ?_
  rintro _ w ⟨rfl, k0⟩
  simp [go_sem, IntWalk.iteOmega, IntWalk.toNatUp]
  have kN := ext_alloc w (.cells #[.int .i64 1, .int .i64 3] 2)
  have hNew : Blk (w.alloc (.cells #[.int .i64 1, .int .i64 3] 2)) w.heap.size 2 #[.int .i64 1, .int .i64 3] := Blk.self_ rfl
  have hs : Sl (w.alloc (.cells #[.int .i64 1, .int .i64 3] 2)) 1 (.slice (some ⟨w.heap.size, 0, none⟩) 2 2) 2 (ints .i64 [1, 3]) :=
    ⟨_, 2, rfl, ⟨by simp [ints], fun _ => ⟨_, 0, rfl, hNew.lt, fun j u hu => by rw [hNew.cell]; simpa [ints] using hu⟩⟩, by simp, by omega, by omega⟩
  refine callE_of (new_any cSome [1, 3] _ _ hs (by decide) ok13) ?_
  rintro _ w1 ⟨g, rfl, hG0, k1⟩
  generalize hBB : (w.alloc (.cells #[.int .i64 1, .int .i64 3] 2)).heap.size = B at *
  have hBw : w.heap.size ≤ B := by rw [← hBB]; exact kN.size
  have hB1 : B ≤ w1.heap.size := by have := k1.size; omega
  simp [go_sem, IntWalk.iteOmega, IntWalk.toNatUp]
  refine callE_of (enter_any B g s0 w1 hG0 q0 0 8) ?_
  rintro _ w2 ⟨rfl, hG1, k2⟩
  rw [show (s0.enter 0 8).2.1 = 1 from congrArg Prod.fst r0, show (s0.enter 0 8).2.2 = 0 from congrArg Prod.snd r0]
  simp [go_sem, IntWalk.iteOmega, IntWalk.toNatUp]
  refine callE_of (enter_any B g s1 w2 hG1 q1 0 1) ?_
  rintro _ w3 ⟨rfl, hG2, k3⟩
  rw [show (s1.enter 0 1).2.1 = 0 from congrArg Prod.fst r1, show (s1.enter 0 1).2.2 = 6 from congrArg Prod.snd r1]
  simp [go_sem, IntWalk.iteOmega, IntWalk.toNatUp]
  refine callE_of (enter_any B g s2 w3 hG2 q2 1 10) ?_
  rintro _ w4 ⟨rfl, hG3, k4⟩
  rw [show (s2.enter 1 10).2.1 = 2 from congrArg Prod.fst r2, show (s2.enter 1 10).2.2 = 0 from congrArg Prod.snd r2]
  have hl3 := fun k => callE_eq noinit_large (large_runs B g s3 w4 hG3) k
  rw [l3] at hl3
  simp [go_sem, IntWalk.iteOmega, IntWalk.toNatUp, hl3]
  have hB4 : B ≤ w4.heap.size := by have := k2.size; have := k3.size; have := k4.size; omega
  refine callE_of (leave_any B g s3 w4 hB4 hG3 in3 1) ?_
  rintro _ w5 ⟨rfl, hG4, k5⟩
  rw [r3]
  have hl4 := fun k => callE_eq noinit_large (large_runs B g s4 w5 hG4) k
  rw [l4] at hl4
  simp [go_sem, IntWalk.iteOmega, IntWalk.toNatUp, hl4]
  exact ext_trans k0 (kN.trans (((((k1.trans k2).trans k3).trans k4).trans k5).mono hBw))
theorem noinit_begun : Try.prog.inits.idxOf? 10 = none := by kernel_rfl
end Go.Proofs.Ytilpmnbnjeahnaa
