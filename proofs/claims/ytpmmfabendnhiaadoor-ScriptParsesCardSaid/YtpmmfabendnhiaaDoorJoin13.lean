/-
  Texts joined: PCheck, PRelax.
-/
import Derived.Test.YtpmmfabendnhiaaDoorJoin12
namespace Go.Proofs.YtpmmfabendnhiaaDoor
open Go.RowKit
open Go.Lib (strCells byteCells decDigits)
set_option linter.unusedVariables false
set_option linter.unusedSimpArgs false
set_option maxRecDepth 10000
def may1 (n : Int) : Bool := decide (0 ≤ n ∧ n ≤ 4611686018427387903)
/-- Three numbers that may be written. -/
theorem may_any (a b c : Int) {w : World} {g : Nat} (hX : Blk w g 2 #[.int .i64 a, .int .i64 b, .int .i64 c]) :
    callE Tryd.prog 43 #[.slice (some ⟨g, 0, none⟩) 3 3] w fun v w' => v = .bool (may1 a && (may1 b && may1 c)) ∧ w' = w := by
  have x0 := hX.cell 0
  have x1 := hX.cell 1
  have x2 := hX.cell 2
  have hlt := hX.lt
  refine calls_E Tryd.func43 rfl rfl rfl (Nat.le_of_ble_eq_true rfl) ?_
  have hm : ∀ n : Int, may1 n = true → ¬ n < 0 ∧ ¬ 4611686018427387903 < n := by intro n h; simp [may1] at h; omega
  have hn : ∀ n : Int, may1 n = false → n < 0 ∨ 4611686018427387903 < n ∧ ¬ n < 0 := by intro n h; simp [may1] at h; omega
  simp [go_sem, IntWalk.iteOmega, IntWalk.toNatUp]
  refine W_rounds [(), (), (), ()] ?_
  cases ha : may1 a with
  | false =>
    rcases hn a ha with q | ⟨q, q'⟩
    · simp [go_sem, IntWalk.iteOmega, IntWalk.toNatUp, x0, hlt, q]
    · simp [go_sem, IntWalk.iteOmega, IntWalk.toNatUp, x0, hlt, q, q']
  | true =>
    obtain ⟨a1, a2⟩ := hm a ha
    cases hb : may1 b with
    | false =>
      rcases hn b hb with q | ⟨q, q'⟩
      · simp [go_sem, IntWalk.iteOmega, IntWalk.toNatUp, x0, x1, hlt, a1, a2, q]
      · simp [go_sem, IntWalk.iteOmega, IntWalk.toNatUp, x0, x1, hlt, a1, a2, q, q']
    | true =>
      obtain ⟨b1, b2⟩ := hm b hb
      cases hc : may1 c with
      | false =>
        rcases hn c hc with q | ⟨q, q'⟩
        · simp [go_sem, IntWalk.iteOmega, IntWalk.toNatUp, x0, x1, x2, hlt, a1, a2, b1, b2, q]
        · simp [go_sem, IntWalk.iteOmega, IntWalk.toNatUp, x0, x1, x2, hlt, a1, a2, b1, b2, q, q']
      | true =>
        obtain ⟨c1, c2⟩ := hm c hc
        simp [go_sem, IntWalk.iteOmega, IntWalk.toNatUp, x0, x1, x2, hlt, a1, a2, b1, b2, c1, c2]
theorem bits_at : ∀ k : Fin 12, bits .and .i64 (bitsK k.val) 1 = (if hN k.val then 1 else 0) ∧ bits .and .i64 (bitsK k.val) 2 = (if hT k.val then 2 else 0) ∧ bits .and .i64 (bitsK k.val) 4 = (if hK k.val then 4 else 0) ∧ bits .and .i64 (bitsK k.val) 8 = (if hB k.val then 8 else 0) ∧ bits .and .i64 (bitsK k.val) 16 = (if hD k.val then 16 else 0) := by decide +kernel
/-- What a move must be to be written. -/
def checkB (k : Nat) (node to_ n : Int) (lb ld : Nat) : Bool :=
  decide (k ≠ 0) && (may1 node && (may1 to_ && may1 n)) && decide (lb ≤ 4009) && decide (ld ≤ 64) && (hN k || decide (node = 0)) && (hT k || decide (to_ = 0)) && (hK k || decide (n = 0)) && (hB k || decide (lb = 0)) && (hD k || decide (ld = 0))
set_option maxHeartbeats 12800000 in
theorem check_any (k : Nat) (hk : k ≤ 11) (node to_ n : Int) (A B : Option Addr) (lb cb ld cd : Nat) (w : World) :
    callE Tryd.prog 18 #[.agg #[.int .i64 k, .int .i64 node, .int .i64 to_, .int .i64 n, .slice A lb cb, .slice B ld cd]] w fun v w' => v = .int .i64 (if checkB k node to_ n lb ld then 0 else 270) ∧ Below w.heap.size w w' := by
  refine calls_E Tryd.func18 rfl rfl rfl (Nat.le_of_ble_eq_true rfl) ?_
  have hem : (strOf (nameK k)).toList.isEmpty = decide (k = 0) := by
    rw [ByteArray.toList_eq]
    rcases (by omega : k = 0 ∨ k = 1 ∨ k = 2 ∨ k = 3 ∨ k = 4 ∨ k = 5 ∨ k = 6 ∨ k = 7 ∨ k = 8 ∨ k = 9 ∨ k = 10 ∨ k = 11) with rfl | rfl | rfl | rfl | rfl | rfl | rfl | rfl | rfl | rfl | rfl | rfl <;> rfl
  have kE : ∀ a b, Below w.heap.size w ((w.alloc a).alloc b) := fun a b => ext_trans (ext_alloc _ _) (ext_alloc _ _)
  by_cases h0 : k = 0
  · rw [decide_eq_true h0] at hem
    have hc : checkB k node to_ n lb ld = false := by simp [checkB, h0]
    rw [hc]
    simp [go_sem, IntWalk.iteOmega, IntWalk.toNatUp, formE k hk, hem]
    exact kE _ _
  rw [decide_eq_false h0] at hem
  simp [go_sem, IntWalk.iteOmega, IntWalk.toNatUp, formE k hk, hem]
  obtain ⟨W, hW⟩ : ∃ W, (w.alloc (.cells #[.int .i64 k, .int .i64 node, .int .i64 to_, .int .i64 n, .slice A lb cb, .slice B ld cd] 48)).alloc (.cells #[.int .i64 (bitsK k)] 3) = W := ⟨_, rfl⟩
  rw [hW]
  obtain ⟨n0, n1, kW, sW⟩ := news2 hW.symm
  have sz : w.heap.size + 1 + 1 = W.heap.size := sW.symm
  rw [sz]
  have kA := ext_alloc W (.cells #[.int .i64 node, .int .i64 to_, .int .i64 n] 2)
  have m0 := n0.keep kA
  have m1 := n1.keep kA
  refine callE_of (may_any node to_ n (Blk.self_ rfl)) ?_
  rintro _ w1 ⟨rfl, rfl⟩
  generalize W.alloc (.cells #[.int .i64 node, .int .i64 to_, .int .i64 n] 2) = W1 at *
  have K1 : Below w.heap.size w W1 := ext_trans kW kA
  cases hm : (may1 node && (may1 to_ && may1 n)) with
  | false =>
    have hc : checkB k node to_ n lb ld = false := by simp only [checkB, hm]; simp
    rw [hc]
    simp [go_sem, IntWalk.iteOmega, IntWalk.toNatUp]
    exact K1
  | true =>
  have x4 := m0.cell 4
  have x5 := m0.cell 5
  by_cases h1 : lb ≤ 4009
  case neg =>
    have hc : checkB k node to_ n lb ld = false := by simp only [checkB, decide_eq_false h1]; simp
    have g1 : (4009 : Int) < lb := by omega
    rw [hc]
    simp [go_sem, IntWalk.iteOmega, IntWalk.toNatUp, x4, g1]
    exact K1
  have g1 : ¬ (4009 : Int) < lb := by omega
  by_cases h2 : ld ≤ 64
  case neg =>
    have hc : checkB k node to_ n lb ld = false := by simp only [checkB, decide_eq_false h2]; simp
    have g2 : (64 : Int) < ld := by omega
    rw [hc]
    simp [go_sem, IntWalk.iteOmega, IntWalk.toNatUp, x4, x5, g1, g2]
    exact K1
  have g2 : ¬ (64 : Int) < ld := by omega
  obtain ⟨b1, b2, b4, b8, b16⟩ := bits_at ⟨k, by omega⟩
  simp only at b1 b2 b4 b8 b16
  have hh : W1.cell? ⟨w.heap.size + 1, 0, none⟩ = some (.int .i64 (bitsK k)) := m1.cell 0
  have r1 := fun k => callE_eq noinit_lacks (lacks_runs hh b1) k
  have r2 := fun k => callE_eq noinit_lacks (lacks_runs hh b2) k
  have r4 := fun k => callE_eq noinit_lacks (lacks_runs hh b4) k
  have r8 := fun k => callE_eq noinit_lacks (lacks_runs hh b8) k
  have r16 := fun k => callE_eq noinit_lacks (lacks_runs hh b16) k
  have x1 := m0.cell 1
  have x2 := m0.cell 2
  have x3 := m0.cell 3
  have hcb : checkB k node to_ n lb ld = ((hN k || decide (node = 0)) && (hT k || decide (to_ = 0)) && (hK k || decide (n = 0)) && (hB k || decide (lb = 0)) && (hD k || decide (ld = 0))) := by
    unfold checkB
    rw [hm, decide_eq_true h0, decide_eq_true h1, decide_eq_true h2]
    simp
  rw [hcb]
  have hlt := m0.lt
  clear hcb b1 b2 b4 b8 b16 hh m0 m1 n0 n1 kW sW sz kA hm hem kE hW
  simp [go_sem, IntWalk.iteOmega, IntWalk.toNatUp, x4, x5, g1, g2, enters_lacks]
  rcases (by omega : k = 1 ∨ k = 2 ∨ k = 3 ∨ k = 4 ∨ k = 5 ∨ k = 6 ∨ k = 7 ∨ k = 8 ∨ k = 9 ∨ k = 10 ∨ k = 11) with rfl | rfl | rfl | rfl | rfl | rfl | rfl | rfl | rfl | rfl | rfl
  · simp only [show hN 1 = true from rfl, show hT 1 = false from rfl, show hK 1 = false from rfl, show hB 1 = false from rfl, show hD 1 = true from rfl, if_true, if_false, Bool.false_eq_true, Bool.true_or, Bool.false_or, Bool.true_and] at r1 r2 r4 r8 r16 ⊢
    clear g1 g2 h0 h1 h2 hk
    by_cases q0 : to_ = 0
    case neg =>
      have g : (to_ != 0) = true := by simp [q0]
      simp [go_sem, IntWalk.iteOmega, IntWalk.toNatUp, enters_lacks, r1, r2, r4, r8, r16, x1, x2, x3, x4, x5, hlt, g, q0]
      exact ⟨by simp [hN, hT, hK, hB, hD, *], K1⟩
    subst q0
    by_cases q1 : n = 0
    case neg =>
      have g : (n != 0) = true := by simp [q1]
      simp [go_sem, IntWalk.iteOmega, IntWalk.toNatUp, enters_lacks, r1, r2, r4, r8, r16, x1, x2, x3, x4, x5, hlt, g, q1]
      exact ⟨by simp [hN, hT, hK, hB, hD, *], K1⟩
    subst q1
    by_cases q2 : lb = 0
    case neg =>
      have g : (0 : Int) < lb := by omega
      simp [go_sem, IntWalk.iteOmega, IntWalk.toNatUp, enters_lacks, r1, r2, r4, r8, r16, x1, x2, x3, x4, x5, hlt, g, q2]
      exact ⟨by simp [hN, hT, hK, hB, hD, *], K1⟩
    subst q2
    simp [go_sem, IntWalk.iteOmega, IntWalk.toNatUp, enters_lacks, r1, r2, r4, r8, r16, x1, x2, x3, x4, x5, hlt]
    exact ⟨by simp [hN, hT, hK, hB, hD, *], K1⟩
  · simp only [show hN 2 = true from rfl, show hT 2 = false from rfl, show hK 2 = false from rfl, show hB 2 = false from rfl, show hD 2 = true from rfl, if_true, if_false, Bool.false_eq_true, Bool.true_or, Bool.false_or, Bool.true_and] at r1 r2 r4 r8 r16 ⊢
    clear g1 g2 h0 h1 h2 hk
    by_cases q0 : to_ = 0
    case neg =>
      have g : (to_ != 0) = true := by simp [q0]
      simp [go_sem, IntWalk.iteOmega, IntWalk.toNatUp, enters_lacks, r1, r2, r4, r8, r16, x1, x2, x3, x4, x5, hlt, g, q0]
      exact ⟨by simp [hN, hT, hK, hB, hD, *], K1⟩
    subst q0
    by_cases q1 : n = 0
    case neg =>
      have g : (n != 0) = true := by simp [q1]
      simp [go_sem, IntWalk.iteOmega, IntWalk.toNatUp, enters_lacks, r1, r2, r4, r8, r16, x1, x2, x3, x4, x5, hlt, g, q1]
      exact ⟨by simp [hN, hT, hK, hB, hD, *], K1⟩
    subst q1
    by_cases q2 : lb = 0
    case neg =>
      have g : (0 : Int) < lb := by omega
      simp [go_sem, IntWalk.iteOmega, IntWalk.toNatUp, enters_lacks, r1, r2, r4, r8, r16, x1, x2, x3, x4, x5, hlt, g, q2]
      exact ⟨by simp [hN, hT, hK, hB, hD, *], K1⟩
    subst q2
    simp [go_sem, IntWalk.iteOmega, IntWalk.toNatUp, enters_lacks, r1, r2, r4, r8, r16, x1, x2, x3, x4, x5, hlt]
    exact ⟨by simp [hN, hT, hK, hB, hD, *], K1⟩
  · simp only [show hN 3 = true from rfl, show hT 3 = false from rfl, show hK 3 = true from rfl, show hB 3 = false from rfl, show hD 3 = true from rfl, if_true, if_false, Bool.false_eq_true, Bool.true_or, Bool.false_or, Bool.true_and] at r1 r2 r4 r8 r16 ⊢
    clear g1 g2 h0 h1 h2 hk
    by_cases q0 : to_ = 0
    case neg =>
      have g : (to_ != 0) = true := by simp [q0]
      simp [go_sem, IntWalk.iteOmega, IntWalk.toNatUp, enters_lacks, r1, r2, r4, r8, r16, x1, x2, x3, x4, x5, hlt, g, q0]
      exact ⟨by simp [hN, hT, hK, hB, hD, *], K1⟩
    subst q0
    by_cases q1 : lb = 0
    case neg =>
      have g : (0 : Int) < lb := by omega
      simp [go_sem, IntWalk.iteOmega, IntWalk.toNatUp, enters_lacks, r1, r2, r4, r8, r16, x1, x2, x3, x4, x5, hlt, g, q1]
      exact ⟨by simp [hN, hT, hK, hB, hD, *], K1⟩
    subst q1
    simp [go_sem, IntWalk.iteOmega, IntWalk.toNatUp, enters_lacks, r1, r2, r4, r8, r16, x1, x2, x3, x4, x5, hlt]
    exact ⟨by simp [hN, hT, hK, hB, hD, *], K1⟩
  · simp only [show hN 4 = true from rfl, show hT 4 = false from rfl, show hK 4 = false from rfl, show hB 4 = true from rfl, show hD 4 = true from rfl, if_true, if_false, Bool.false_eq_true, Bool.true_or, Bool.false_or, Bool.true_and] at r1 r2 r4 r8 r16 ⊢
    clear g1 g2 h0 h1 h2 hk
    by_cases q0 : to_ = 0
    case neg =>
      have g : (to_ != 0) = true := by simp [q0]
      simp [go_sem, IntWalk.iteOmega, IntWalk.toNatUp, enters_lacks, r1, r2, r4, r8, r16, x1, x2, x3, x4, x5, hlt, g, q0]
      exact ⟨by simp [hN, hT, hK, hB, hD, *], K1⟩
    subst q0
    by_cases q1 : n = 0
    case neg =>
      have g : (n != 0) = true := by simp [q1]
      simp [go_sem, IntWalk.iteOmega, IntWalk.toNatUp, enters_lacks, r1, r2, r4, r8, r16, x1, x2, x3, x4, x5, hlt, g, q1]
      exact ⟨by simp [hN, hT, hK, hB, hD, *], K1⟩
    subst q1
    simp [go_sem, IntWalk.iteOmega, IntWalk.toNatUp, enters_lacks, r1, r2, r4, r8, r16, x1, x2, x3, x4, x5, hlt]
    exact ⟨by simp [hN, hT, hK, hB, hD, *], K1⟩
  · simp only [show hN 5 = false from rfl, show hT 5 = false from rfl, show hK 5 = true from rfl, show hB 5 = false from rfl, show hD 5 = true from rfl, if_true, if_false, Bool.false_eq_true, Bool.true_or, Bool.false_or, Bool.true_and] at r1 r2 r4 r8 r16 ⊢
    clear g1 g2 h0 h1 h2 hk
    by_cases q0 : node = 0
    case neg =>
      have g : (node != 0) = true := by simp [q0]
      simp [go_sem, IntWalk.iteOmega, IntWalk.toNatUp, enters_lacks, r1, r2, r4, r8, r16, x1, x2, x3, x4, x5, hlt, g, q0]
      exact ⟨by simp [hN, hT, hK, hB, hD, *], K1⟩
    subst q0
    by_cases q1 : to_ = 0
    case neg =>
      have g : (to_ != 0) = true := by simp [q1]
      simp [go_sem, IntWalk.iteOmega, IntWalk.toNatUp, enters_lacks, r1, r2, r4, r8, r16, x1, x2, x3, x4, x5, hlt, g, q1]
      exact ⟨by simp [hN, hT, hK, hB, hD, *], K1⟩
    subst q1
    by_cases q2 : lb = 0
    case neg =>
      have g : (0 : Int) < lb := by omega
      simp [go_sem, IntWalk.iteOmega, IntWalk.toNatUp, enters_lacks, r1, r2, r4, r8, r16, x1, x2, x3, x4, x5, hlt, g, q2]
      exact ⟨by simp [hN, hT, hK, hB, hD, *], K1⟩
    subst q2
    simp [go_sem, IntWalk.iteOmega, IntWalk.toNatUp, enters_lacks, r1, r2, r4, r8, r16, x1, x2, x3, x4, x5, hlt]
    exact ⟨by simp [hN, hT, hK, hB, hD, *], K1⟩
  · simp only [show hN 6 = false from rfl, show hT 6 = false from rfl, show hK 6 = true from rfl, show hB 6 = false from rfl, show hD 6 = false from rfl, if_true, if_false, Bool.false_eq_true, Bool.true_or, Bool.false_or, Bool.true_and] at r1 r2 r4 r8 r16 ⊢
    clear g1 g2 h0 h1 h2 hk
    by_cases q0 : node = 0
    case neg =>
      have g : (node != 0) = true := by simp [q0]
      simp [go_sem, IntWalk.iteOmega, IntWalk.toNatUp, enters_lacks, r1, r2, r4, r8, r16, x1, x2, x3, x4, x5, hlt, g, q0]
      exact ⟨by simp [hN, hT, hK, hB, hD, *], K1⟩
    subst q0
    by_cases q1 : to_ = 0
    case neg =>
      have g : (to_ != 0) = true := by simp [q1]
      simp [go_sem, IntWalk.iteOmega, IntWalk.toNatUp, enters_lacks, r1, r2, r4, r8, r16, x1, x2, x3, x4, x5, hlt, g, q1]
      exact ⟨by simp [hN, hT, hK, hB, hD, *], K1⟩
    subst q1
    by_cases q2 : lb = 0
    case neg =>
      have g : (0 : Int) < lb := by omega
      simp [go_sem, IntWalk.iteOmega, IntWalk.toNatUp, enters_lacks, r1, r2, r4, r8, r16, x1, x2, x3, x4, x5, hlt, g, q2]
      exact ⟨by simp [hN, hT, hK, hB, hD, *], K1⟩
    subst q2
    by_cases q3 : ld = 0
    case neg =>
      have g : (0 : Int) < ld := by omega
      simp [go_sem, IntWalk.iteOmega, IntWalk.toNatUp, enters_lacks, r1, r2, r4, r8, r16, x1, x2, x3, x4, x5, hlt, g, q3]
      exact ⟨by simp [hN, hT, hK, hB, hD, *], K1⟩
    subst q3
    simp [go_sem, IntWalk.iteOmega, IntWalk.toNatUp, enters_lacks, r1, r2, r4, r8, r16, x1, x2, x3, x4, x5, hlt]
    exact ⟨by simp [hN, hT, hK, hB, hD, *], K1⟩
  · simp only [show hN 7 = false from rfl, show hT 7 = false from rfl, show hK 7 = true from rfl, show hB 7 = false from rfl, show hD 7 = false from rfl, if_true, if_false, Bool.false_eq_true, Bool.true_or, Bool.false_or, Bool.true_and] at r1 r2 r4 r8 r16 ⊢
    clear g1 g2 h0 h1 h2 hk
    by_cases q0 : node = 0
    case neg =>
      have g : (node != 0) = true := by simp [q0]
      simp [go_sem, IntWalk.iteOmega, IntWalk.toNatUp, enters_lacks, r1, r2, r4, r8, r16, x1, x2, x3, x4, x5, hlt, g, q0]
      exact ⟨by simp [hN, hT, hK, hB, hD, *], K1⟩
    subst q0
    by_cases q1 : to_ = 0
    case neg =>
      have g : (to_ != 0) = true := by simp [q1]
      simp [go_sem, IntWalk.iteOmega, IntWalk.toNatUp, enters_lacks, r1, r2, r4, r8, r16, x1, x2, x3, x4, x5, hlt, g, q1]
      exact ⟨by simp [hN, hT, hK, hB, hD, *], K1⟩
    subst q1
    by_cases q2 : lb = 0
    case neg =>
      have g : (0 : Int) < lb := by omega
      simp [go_sem, IntWalk.iteOmega, IntWalk.toNatUp, enters_lacks, r1, r2, r4, r8, r16, x1, x2, x3, x4, x5, hlt, g, q2]
      exact ⟨by simp [hN, hT, hK, hB, hD, *], K1⟩
    subst q2
    by_cases q3 : ld = 0
    case neg =>
      have g : (0 : Int) < ld := by omega
      simp [go_sem, IntWalk.iteOmega, IntWalk.toNatUp, enters_lacks, r1, r2, r4, r8, r16, x1, x2, x3, x4, x5, hlt, g, q3]
      exact ⟨by simp [hN, hT, hK, hB, hD, *], K1⟩
    subst q3
    simp [go_sem, IntWalk.iteOmega, IntWalk.toNatUp, enters_lacks, r1, r2, r4, r8, r16, x1, x2, x3, x4, x5, hlt]
    exact ⟨by simp [hN, hT, hK, hB, hD, *], K1⟩
  · simp only [show hN 8 = true from rfl, show hT 8 = true from rfl, show hK 8 = false from rfl, show hB 8 = true from rfl, show hD 8 = false from rfl, if_true, if_false, Bool.false_eq_true, Bool.true_or, Bool.false_or, Bool.true_and] at r1 r2 r4 r8 r16 ⊢
    clear g1 g2 h0 h1 h2 hk
    by_cases q0 : n = 0
    case neg =>
      have g : (n != 0) = true := by simp [q0]
      simp [go_sem, IntWalk.iteOmega, IntWalk.toNatUp, enters_lacks, r1, r2, r4, r8, r16, x1, x2, x3, x4, x5, hlt, g, q0]
      exact ⟨by simp [hN, hT, hK, hB, hD, *], K1⟩
    subst q0
    by_cases q1 : ld = 0
    case neg =>
      have g : (0 : Int) < ld := by omega
      simp [go_sem, IntWalk.iteOmega, IntWalk.toNatUp, enters_lacks, r1, r2, r4, r8, r16, x1, x2, x3, x4, x5, hlt, g, q1]
      exact ⟨by simp [hN, hT, hK, hB, hD, *], K1⟩
    subst q1
    simp [go_sem, IntWalk.iteOmega, IntWalk.toNatUp, enters_lacks, r1, r2, r4, r8, r16, x1, x2, x3, x4, x5, hlt]
    exact ⟨by simp [hN, hT, hK, hB, hD, *], K1⟩
  · simp only [show hN 9 = true from rfl, show hT 9 = false from rfl, show hK 9 = true from rfl, show hB 9 = false from rfl, show hD 9 = false from rfl, if_true, if_false, Bool.false_eq_true, Bool.true_or, Bool.false_or, Bool.true_and] at r1 r2 r4 r8 r16 ⊢
    clear g1 g2 h0 h1 h2 hk
    by_cases q0 : to_ = 0
    case neg =>
      have g : (to_ != 0) = true := by simp [q0]
      simp [go_sem, IntWalk.iteOmega, IntWalk.toNatUp, enters_lacks, r1, r2, r4, r8, r16, x1, x2, x3, x4, x5, hlt, g, q0]
      exact ⟨by simp [hN, hT, hK, hB, hD, *], K1⟩
    subst q0
    by_cases q1 : lb = 0
    case neg =>
      have g : (0 : Int) < lb := by omega
      simp [go_sem, IntWalk.iteOmega, IntWalk.toNatUp, enters_lacks, r1, r2, r4, r8, r16, x1, x2, x3, x4, x5, hlt, g, q1]
      exact ⟨by simp [hN, hT, hK, hB, hD, *], K1⟩
    subst q1
    by_cases q2 : ld = 0
    case neg =>
      have g : (0 : Int) < ld := by omega
      simp [go_sem, IntWalk.iteOmega, IntWalk.toNatUp, enters_lacks, r1, r2, r4, r8, r16, x1, x2, x3, x4, x5, hlt, g, q2]
      exact ⟨by simp [hN, hT, hK, hB, hD, *], K1⟩
    subst q2
    simp [go_sem, IntWalk.iteOmega, IntWalk.toNatUp, enters_lacks, r1, r2, r4, r8, r16, x1, x2, x3, x4, x5, hlt]
    exact ⟨by simp [hN, hT, hK, hB, hD, *], K1⟩
  · simp only [show hN 10 = true from rfl, show hT 10 = false from rfl, show hK 10 = false from rfl, show hB 10 = false from rfl, show hD 10 = false from rfl, if_true, if_false, Bool.false_eq_true, Bool.true_or, Bool.false_or, Bool.true_and] at r1 r2 r4 r8 r16 ⊢
    clear g1 g2 h0 h1 h2 hk
    by_cases q0 : to_ = 0
    case neg =>
      have g : (to_ != 0) = true := by simp [q0]
      simp [go_sem, IntWalk.iteOmega, IntWalk.toNatUp, enters_lacks, r1, r2, r4, r8, r16, x1, x2, x3, x4, x5, hlt, g, q0]
      exact ⟨by simp [hN, hT, hK, hB, hD, *], K1⟩
    subst q0
    by_cases q1 : n = 0
    case neg =>
      have g : (n != 0) = true := by simp [q1]
      simp [go_sem, IntWalk.iteOmega, IntWalk.toNatUp, enters_lacks, r1, r2, r4, r8, r16, x1, x2, x3, x4, x5, hlt, g, q1]
      exact ⟨by simp [hN, hT, hK, hB, hD, *], K1⟩
    subst q1
    by_cases q2 : lb = 0
    case neg =>
      have g : (0 : Int) < lb := by omega
      simp [go_sem, IntWalk.iteOmega, IntWalk.toNatUp, enters_lacks, r1, r2, r4, r8, r16, x1, x2, x3, x4, x5, hlt, g, q2]
      exact ⟨by simp [hN, hT, hK, hB, hD, *], K1⟩
    subst q2
    by_cases q3 : ld = 0
    case neg =>
      have g : (0 : Int) < ld := by omega
      simp [go_sem, IntWalk.iteOmega, IntWalk.toNatUp, enters_lacks, r1, r2, r4, r8, r16, x1, x2, x3, x4, x5, hlt, g, q3]
      exact ⟨by simp [hN, hT, hK, hB, hD, *], K1⟩
    subst q3
    simp [go_sem, IntWalk.iteOmega, IntWalk.toNatUp, enters_lacks, r1, r2, r4, r8, r16, x1, x2, x3, x4, x5, hlt]
    exact ⟨by simp [hN, hT, hK, hB, hD, *], K1⟩
  · simp only [show hN 11 = true from rfl, show hT 11 = false from rfl, show hK 11 = true from rfl, show hB 11 = false from rfl, show hD 11 = false from rfl, if_true, if_false, Bool.false_eq_true, Bool.true_or, Bool.false_or, Bool.true_and] at r1 r2 r4 r8 r16 ⊢
    clear g1 g2 h0 h1 h2 hk
    by_cases q0 : to_ = 0
    case neg =>
      have g : (to_ != 0) = true := by simp [q0]
      simp [go_sem, IntWalk.iteOmega, IntWalk.toNatUp, enters_lacks, r1, r2, r4, r8, r16, x1, x2, x3, x4, x5, hlt, g, q0]
      exact ⟨by simp [hN, hT, hK, hB, hD, *], K1⟩
    subst q0
    by_cases q1 : lb = 0
    case neg =>
      have g : (0 : Int) < lb := by omega
      simp [go_sem, IntWalk.iteOmega, IntWalk.toNatUp, enters_lacks, r1, r2, r4, r8, r16, x1, x2, x3, x4, x5, hlt, g, q1]
      exact ⟨by simp [hN, hT, hK, hB, hD, *], K1⟩
    subst q1
    by_cases q2 : ld = 0
    case neg =>
      have g : (0 : Int) < ld := by omega
      simp [go_sem, IntWalk.iteOmega, IntWalk.toNatUp, enters_lacks, r1, r2, r4, r8, r16, x1, x2, x3, x4, x5, hlt, g, q2]
      exact ⟨by simp [hN, hT, hK, hB, hD, *], K1⟩
    subst q2
    simp [go_sem, IntWalk.iteOmega, IntWalk.toNatUp, enters_lacks, r1, r2, r4, r8, r16, x1, x2, x3, x4, x5, hlt]
    exact ⟨by simp [hN, hT, hK, hB, hD, *], K1⟩
end Go.Proofs.YtpmmfabendnhiaaDoor
namespace Go.Proofs.YtpmmfabendnhiaaDoor
open Go.Lib (decDigits)
set_option linter.unusedVariables false
set_option linter.unusedSimpArgs false
abbrev Tks := Wds × Bool
def stN (b : Bool) (x : Tks) : Nat × Tks := if b then ((numT x.1).getD 0, x.1.tail, x.2 || (numT x.1).isNone) else (0, x)
def stB (b : Bool) (x : Tks) : List UInt8 × Tks := if b then (bytesL (x.1.headD []), x.1.tail, x.2 || (bytesV (x.1.headD [])).isNone) else ([], x)
def drawsG (ws : Wds) : List Nat := ws.map fun w => (numV w).getD 0
def drawsX (ws : Wds) : Bool := ws.any fun w => (numV w).isNone
def s1 (k : Nat) (ws : Wds) := stN (hN k) (ws, false)
def s2 (k : Nat) (ws : Wds) := stN (hT k) (s1 k ws).2
def s3 (k : Nat) (ws : Wds) := stN (hK k) (s2 k ws).2
def s4 (k : Nat) (ws : Wds) := stB (hB k) (s3 k ws).2
def mvR (k : Nat) (ws : Wds) : Mv := ⟨k, (s1 k ws).1, (s2 k ws).1, (s3 k ws).1, (s4 k ws).1, drawsG (s4 k ws).2.1⟩
def badR (k : Nat) (ws : Wds) : Bool := (s4 k ws).2.2 || drawsX (s4 k ws).2.1
theorem stN_some {b : Bool} {ws r : Wds} {n : Nat} {d : Bool} (h : takeNum b ws = some (n, r)) : stN b (ws, d) = (n, r, d) := by
  cases b with
  | false => cases h; rfl
  | true =>
    cases ws with
    | nil => cases h
    | cons w ws =>
      unfold takeNum at h
      simp only at h
      unfold stN numT
      simp only [if_true]
      split at h
      · rename_i m hm
        split at h
        · rename_i hle
          cases h
          simp [hm, hle]
        · cases h
      · cases h
theorem stN_none {b : Bool} {ws : Wds} {d : Bool} (h : takeNum b ws = none) : (stN b (ws, d)).2.2 = true := by
  cases b with
  | false => cases h
  | true =>
    cases ws with
    | nil => simp [stN, numT]
    | cons w ws =>
      unfold takeNum at h
      simp only at h
      unfold stN numT
      simp only [if_true]
      split at h
      · rename_i m hm
        split at h
        · cases h
        · rename_i hle; simp [hm, hle]
      · rename_i hm; simp [hm]
theorem stN_bad {b : Bool} {x : Tks} (h : x.2 = true) : (stN b x).2.2 = true := by
  unfold stN; split <;> simp [h]
theorem stB_some {b : Bool} {ws r : Wds} {l : List UInt8} {d : Bool} (h : takeBytes b ws = some (l, r)) : stB b (ws, d) = (l, r, d) := by
  cases b with
  | false => cases h; rfl
  | true =>
    cases ws with
    | nil => cases h
    | cons w ws =>
      unfold takeBytes at h
      simp only at h
      unfold stB
      simp only [if_true, List.headD_cons, List.tail_cons]
      split at h
      · rename_i m hm
        cases h
        simp [hm, bytesL]
      · cases h
theorem stB_none {b : Bool} {ws : Wds} {d : Bool} (h : takeBytes b ws = none) : (stB b (ws, d)).2.2 = true := by
  cases b with
  | false => cases h
  | true =>
    cases ws with
    | nil => simp [stB, bytesV]
    | cons w ws =>
      unfold takeBytes at h
      simp only at h
      unfold stB
      simp only [if_true, List.headD_cons, List.tail_cons]
      split at h
      · cases h
      · rename_i hm; simp [hm]
theorem stB_bad {b : Bool} {x : Tks} (h : x.2 = true) : (stB b x).2.2 = true := by
  unfold stB; split <;> simp [h]
theorem nums_some : ∀ {ws : Wds} {l : List Nat}, numsV ws = some l → drawsG ws = l ∧ drawsX ws = false
  | [], l, h => by cases h; exact ⟨rfl, rfl⟩
  | w :: ws, l, h => by
    unfold numsV at h
    split at h
    · rename_i n m h1 h2
      cases h
      obtain ⟨g1, g2⟩ := nums_some h2
      simp only [drawsG, drawsX] at g1 g2 ⊢
      simp [h1, g1, g2]
    · cases h
theorem nums_none : ∀ {ws : Wds}, numsV ws = none → drawsX ws = true
  | [], h => by cases h
  | w :: ws, h => by
    unfold numsV at h
    split at h
    · cases h
    · rename_i h2
      simp only [drawsX, List.any_cons, Bool.or_eq_true]
      cases h1 : numV w with
      | none => simp
      | some n =>
        cases h3 : numsV ws with
        | none => exact .inr (by simpa [drawsX] using nums_none h3)
        | some l => exact absurd h3 (h2 n l h1)
theorem numT_le {ws : Wds} : (numT ws).getD 0 ≤ maxStake := by
  unfold numT
  split
  · simp
  · split
    · split
      · rename_i h; simpa using h
      · simp
    · simp
theorem stN_le {b : Bool} {x : Tks} : (stN b x).1 ≤ maxStake := by
  unfold stN
  split
  · exact numT_le
  · simp
theorem stN_zero {x : Tks} : (stN false x).1 = 0 := rfl
theorem numV_le {w : List UInt8} {n : Nat} (h : numV w = some n) : n ≤ 18446744073709551615 := by
  unfold numV at h
  split at h
  · cases h
  · split at h
    · rename_i h2; cases h; exact h2.2
    · cases h
theorem drawsG_le (ws : Wds) : ∀ d ∈ drawsG ws, d ≤ 18446744073709551615 := by
  intro d hd
  simp only [drawsG, List.mem_map] at hd
  obtain ⟨w, _, rfl⟩ := hd
  cases h : numV w with
  | none => simp
  | some n => simpa using numV_le h
/-- What is read so is the move that the words say. -/
theorem relax_read (k : Nat) (ws : Wds) : (match readV k ws with | some m => badR k ws = false ∧ m = mvR k ws ∧ (hD k = false → (mvR k ws).draws = []) | none => badR k ws = true ∨ hD k = false ∧ (mvR k ws).draws ≠ []) := by
  unfold readV
  cases h1 : takeNum (hN k) ws with
  | none =>
    simp only
    left
    have e1 : (s1 k ws).2.2 = true := stN_none h1
    have e2 : (s2 k ws).2.2 = true := stN_bad e1
    have e3 : (s3 k ws).2.2 = true := stN_bad e2
    have e4 : (s4 k ws).2.2 = true := stB_bad e3
    simp [badR, e4]
  | some p1 =>
    obtain ⟨a, w1⟩ := p1
    simp only
    have e1 : s1 k ws = (a, w1, false) := stN_some h1
    cases h2 : takeNum (hT k) w1 with
    | none =>
      simp only
      left
      have e2 : (s2 k ws).2.2 = true := by unfold s2; rw [e1]; exact stN_none h2
      have e3 : (s3 k ws).2.2 = true := stN_bad e2
      have e4 : (s4 k ws).2.2 = true := stB_bad e3
      simp [badR, e4]
    | some p2 =>
      obtain ⟨t, w2⟩ := p2
      simp only
      have e2 : s2 k ws = (t, w2, false) := by unfold s2; rw [e1]; exact stN_some h2
      cases h3 : takeNum (hK k) w2 with
      | none =>
        simp only
        left
        have e3 : (s3 k ws).2.2 = true := by unfold s3; rw [e2]; exact stN_none h3
        have e4 : (s4 k ws).2.2 = true := stB_bad e3
        simp [badR, e4]
      | some p3 =>
        obtain ⟨n, w3⟩ := p3
        simp only
        have e3 : s3 k ws = (n, w3, false) := by unfold s3; rw [e2]; exact stN_some h3
        cases h4 : takeBytes (hB k) w3 with
        | none =>
          simp only
          left
          have e4 : (s4 k ws).2.2 = true := by unfold s4; rw [e3]; exact stB_none h4
          simp [badR, e4]
        | some p4 =>
          obtain ⟨b, w4⟩ := p4
          simp only
          have e4 : s4 k ws = (b, w4, false) := by unfold s4; rw [e3]; exact stB_some h4
          cases hD' : hD k with
          | true =>
            cases h5 : numsV w4 with
            | none =>
              simp only [takeDraws, h5]
              left
              simp [badR, e4, nums_none h5]
            | some d =>
              obtain ⟨g1, g2⟩ := nums_some h5
              simp only [takeDraws, h5]
              refine ⟨?_, ?_, fun h => by cases h⟩
              · simp [badR, e4, g2]
              · simp [mvR, e1, e2, e3, e4, g1]
          | false =>
            cases w4 with
            | nil =>
              simp only [takeDraws]
              refine ⟨?_, ?_, fun _ => ?_⟩
              · simp [badR, e4, drawsX]
              · simp [mvR, e1, e2, e3, e4, drawsG]
              · simp [mvR, e4, drawsG]
            | cons x r =>
              simp only [takeDraws]
              right
              refine ⟨trivial, ?_⟩
              simp [mvR, e4, drawsG]
theorem may1_nat {n : Nat} (h : n ≤ maxStake) : may1 n = true := by
  unfold maxStake at h
  simp only [may1, decide_eq_true_eq]
  omega
theorem stB_zero {x : Tks} : (stB false x).1 = [] := rfl
/-- The move of a line, as the program finds it. -/
theorem move_relax {t : List UInt8} {w : List UInt8} {ws : Wds} (ht : wordsV t = w :: ws) :
    moveV 4009 t = if badR (kindV w) ws = false ∧ checkB (kindV w) (mvR (kindV w) ws).node (mvR (kindV w) ws).rcv (mvR (kindV w) ws).n (mvR (kindV w) ws).bytes.length (mvR (kindV w) ws).draws.length = true then some (mvR (kindV w) ws) else none := by
  unfold moveV
  rw [ht]
  simp only
  generalize hk : kindV w = k
  by_cases h0 : k = 0
  · rw [if_pos h0, if_neg]
    rintro ⟨-, h⟩
    simp [checkB, h0] at h
  · rw [if_neg h0]
    have hr := relax_read k ws
    have c1 : may1 (mvR k ws).node = true := may1_nat stN_le
    have c2 : may1 (mvR k ws).rcv = true := may1_nat stN_le
    have c3 : may1 (mvR k ws).n = true := may1_nat stN_le
    have z1 : hN k = false → (mvR k ws).node = 0 := fun h => by simp [mvR, s1, h, stN]
    have z2 : hT k = false → (mvR k ws).rcv = 0 := fun h => by simp [mvR, s2, h, stN]
    have z3 : hK k = false → (mvR k ws).n = 0 := fun h => by simp [mvR, s3, h, stN]
    have z4 : hB k = false → (mvR k ws).bytes = [] := fun h => by simp [mvR, s4, h, stB]
    have hc : checkB k (mvR k ws).node (mvR k ws).rcv (mvR k ws).n (mvR k ws).bytes.length (mvR k ws).draws.length = true ↔ ((mvR k ws).fits' 4009 ∧ (hD k = false → (mvR k ws).draws = [])) := by
      unfold checkB Mv.fits'
      rw [c1, c2, c3]
      simp only [Bool.and_eq_true, Bool.or_eq_true, decide_eq_true_eq, Bool.and_self, Bool.true_and]
      constructor
      · rintro ⟨⟨⟨⟨⟨⟨⟨-, h1⟩, h2⟩, -⟩, -⟩, -⟩, -⟩, h3⟩
        refine ⟨⟨h1, h2⟩, fun h => ?_⟩
        rcases h3 with h3 | h3
        · rw [h] at h3; cases h3
        · exact List.eq_nil_of_length_eq_zero h3
      · rintro ⟨⟨h1, h2⟩, h3⟩
        refine ⟨⟨⟨⟨⟨⟨⟨⟨h0, trivial⟩, h1⟩, h2⟩, ?_⟩, ?_⟩, ?_⟩, ?_⟩, ?_⟩
        · cases h : hN k with
          | true => exact .inl rfl
          | false => right; rw [z1 h]; rfl
        · cases h : hT k with
          | true => exact .inl rfl
          | false => right; rw [z2 h]; rfl
        · cases h : hK k with
          | true => exact .inl rfl
          | false => right; rw [z3 h]; rfl
        · cases h : hB k with
          | true => exact .inl rfl
          | false => right; rw [z4 h]; rfl
        · cases h : hD k with
          | true => exact .inl rfl
          | false => right; rw [h3 h]; rfl
    cases hv : readV k ws with
    | none =>
      rw [hv] at hr
      simp only
      rw [if_neg]
      rintro ⟨g1, g2⟩
      rcases hr with h | ⟨h1, h2⟩
      · rw [g1] at h; cases h
      · exact h2 ((hc.1 g2).2 h1)
    | some m =>
      rw [hv] at hr
      obtain ⟨h1, rfl, h3⟩ := hr
      simp only
      by_cases hf : (mvR k ws).fits' 4009
      · rw [if_pos hf, if_pos ⟨h1, hc.2 ⟨hf, h3⟩⟩]
      · rw [if_neg hf, if_neg]
        rintro ⟨-, g⟩
        exact hf (hc.1 g).1
theorem mvR_ok {k : Nat} {ws : Wds} (h : hD k = false → (mvR k ws).draws = []) : (mvR k ws).OK := by
  refine ⟨?_, ?_, ?_, fun e => ?_, h, drawsG_le _⟩
  · show if hN k then _ else _
    cases e : hN k with
    | true => simp; exact stN_le
    | false => simp [mvR, s1, e, stN]
  · show if hT k then _ else _
    cases e : hT k with
    | true => simp; exact stN_le
    | false => simp [mvR, s2, e, stN]
  · show if hK k then _ else _
    cases e : hK k with
    | true => simp; exact stN_le
    | false => simp [mvR, s3, e, stN]
  · have e' : hB k = false := e
    simp [mvR, s4, e', stB]
end Go.Proofs.YtpmmfabendnhiaaDoor
