/-
  AtLeast, the program's and the document's.
-/
import Derived.Test.YtoabdejoabfbeaaVTimes
namespace Go.Proofs.Ytoabdejoabfbeaa
open Go.RowKit
set_option linter.unusedVariables false
set_option linter.unusedSimpArgs false
set_option maxRecDepth 10000
def atLeastV (s t n d : Int) : Bool := decide (¬ (s < 0 ∨ t < 0 ∨ n < 0 ∨ d < 1) ∧ t * n ≤ s * d)
theorem atLeastV_bad {s t n d : Int} (h : s < 0 ∨ t < 0 ∨ n < 0 ∨ d < 1) : atLeastV s t n d = false := by simp [atLeastV, h]
theorem atLeastV_nat {s t n d : Nat} (hd : 1 ≤ d) : atLeastV s t n d = decide (t * n ≤ s * d) := by
  unfold atLeastV
  apply decide_eq_decide.2
  have h1 : (t : Int) * n = ((t * n : Nat) : Int) := by simp
  have h2 : (s : Int) * d = ((s * d : Nat) : Int) := by simp
  rw [h1, h2]
  omega
def geF (a b : Nat → Nat) : Nat → Bool
  | 0 => true
  | k + 1 => if a k = b k then geF a b k else decide (b k < a k)
theorem ge_eq (x0 x1 x2 x3 x4 x5 y0 y1 y2 y3 y4 y5 : Nat) : geW [x5, x4, x3, x2, x1, x0] [y5, y4, y3, y2, y1, y0] = geF (fun j => [x0, x1, x2, x3, x4, x5].getD j 0) (fun j => [y0, y1, y2, y3, y4, y5].getD j 0) 6 := by
  simp [geW, geF]
set_option maxHeartbeats 1600000 in
theorem vatleast_any (s t n d : Int) (hs : s ≤ 9223372036854775807) (ht : t ≤ 9223372036854775807) (hn : n ≤ 9223372036854775807) (hd : d ≤ 9223372036854775807) (w : World) :
    callE Try.prog 14 #[.int .i64 s, .int .i64 t, .int .i64 n, .int .i64 d] w fun v w' => v = .bool (atLeastV s t n d) ∧ Below w.heap.size w w' := by
  refine calls_E Try.func14 rfl rfl rfl (Nat.le_of_ble_eq_true rfl) ?_
  by_cases h1 : s < 0
  · simp [go_sem, IntWalk.iteOmega, IntWalk.toNatUp, h1, atLeastV_bad (.inl h1)]
    exact Below.refl _ _
  by_cases h2 : t < 0
  · simp [go_sem, IntWalk.iteOmega, IntWalk.toNatUp, h1, h2, atLeastV_bad (.inr (.inl h2))]
    exact Below.refl _ _
  by_cases h3 : n < 0
  · simp [go_sem, IntWalk.iteOmega, IntWalk.toNatUp, h1, h2, h3, atLeastV_bad (.inr (.inr (.inl h3)))]
    exact Below.refl _ _
  by_cases h4 : d < 1
  · simp [go_sem, IntWalk.iteOmega, IntWalk.toNatUp, h1, h2, h3, h4, atLeastV_bad (.inr (.inr (.inr h4)))]
    exact Below.refl _ _
  obtain ⟨a, rfl⟩ : ∃ a : Nat, s = a := ⟨s.toNat, by omega⟩
  obtain ⟨b, rfl⟩ : ∃ b : Nat, t = b := ⟨t.toNat, by omega⟩
  obtain ⟨c, rfl⟩ : ∃ c : Nat, n = c := ⟨n.toNat, by omega⟩
  obtain ⟨e, rfl⟩ : ∃ e : Nat, d = e := ⟨d.toNat, by omega⟩
  have f1 := wrapN a (by omega)
  have f2 := wrapN b (by omega)
  have f3 := wrapN c (by omega)
  have f4 := wrapN e (by omega)
  have m1 := fun k => callE_eq noinit_mul64 (mul64_runs a e (by omega) (by omega) w) k
  have m2 := fun k => callE_eq noinit_mul64 (mul64_runs b c (by omega) (by omega) w) k
  rw [atLeastV_nat (by omega), ← geHi]
  generalize a * e / 18446744073709551616 = p at *
  generalize a * e % 18446744073709551616 = q at *
  generalize b * c / 18446744073709551616 = r at *
  generalize b * c % 18446744073709551616 = z at *
  by_cases g1 : r < p
  · have g1' : (r : Int) < p := by omega
    simp [go_sem, IntWalk.iteOmega, IntWalk.toNatUp, h1, h2, h3, h4, f1, f2, f3, f4, m1, m2, g1', g1]
    exact Below.refl _ _
  · have g1' : ¬ (r : Int) < p := by omega
    by_cases g2 : p = r
    · subst g2
      simp [go_sem, IntWalk.iteOmega, IntWalk.toNatUp, h1, h2, h3, h4, f1, f2, f3, f4, m1, m2]
      exact Below.refl _ _
    · have g2' : ((p : Int) == r) = false := beq_eq_false_iff_ne.2 (by omega)
      simp [go_sem, IntWalk.iteOmega, IntWalk.toNatUp, h1, h2, h3, h4, f1, f2, f3, f4, m1, m2, g1', g1, g2', g2]
      exact Below.refl _ _
set_option maxHeartbeats 1600000 in
theorem ratleast_any (s t n d : Int) (hs : s ≤ 9223372036854775807) (ht : t ≤ 9223372036854775807) (hn : n ≤ 9223372036854775807) (hd : d ≤ 9223372036854775807) (w : World) :
    callE Try.prog 15 #[.int .i64 s, .int .i64 t, .int .i64 n, .int .i64 d] w fun v w' => v = .bool (atLeastV s t n d) ∧ Below w.heap.size w w' := by
  refine calls_E Try.func15 rfl rfl rfl (Nat.le_of_ble_eq_true rfl) ?_
  by_cases h1 : s < 0
  · simp [go_sem, IntWalk.iteOmega, IntWalk.toNatUp, h1, atLeastV_bad (.inl h1)]
    exact Below.refl _ _
  by_cases h2 : t < 0
  · simp [go_sem, IntWalk.iteOmega, IntWalk.toNatUp, h1, h2, atLeastV_bad (.inr (.inl h2))]
    exact Below.refl _ _
  by_cases h3 : n < 0
  · simp [go_sem, IntWalk.iteOmega, IntWalk.toNatUp, h1, h2, h3, atLeastV_bad (.inr (.inr (.inl h3)))]
    exact Below.refl _ _
  by_cases h4 : d < 1
  · simp [go_sem, IntWalk.iteOmega, IntWalk.toNatUp, h1, h2, h3, h4, atLeastV_bad (.inr (.inr (.inr h4)))]
    exact Below.refl _ _
  obtain ⟨a, rfl⟩ : ∃ a : Nat, s = a := ⟨s.toNat, by omega⟩
  obtain ⟨b, rfl⟩ : ∃ b : Nat, t = b := ⟨t.toNat, by omega⟩
  obtain ⟨c, rfl⟩ : ∃ c : Nat, n = c := ⟨n.toNat, by omega⟩
  obtain ⟨e, rfl⟩ : ∃ e : Nat, d = e := ⟨d.toNat, by omega⟩
  rw [atLeastV_nat (by omega)]
  simp [go_sem, IntWalk.iteOmega, IntWalk.toNatUp, h1, h2, h3, h4]
  refine callE_of (times_any a e (by omega) (by omega) w) ?_
  rintro _ w1 ⟨⟨x0, x1, x2, x3, x4, x5, rfl, hx, ex⟩, k1⟩
  simp [go_sem, IntWalk.iteOmega, IntWalk.toNatUp, iv]
  refine callE_of (times_any b c (by omega) (by omega) w1) ?_
  rintro _ w2 ⟨⟨y0, y1, y2, y3, y4, y5, rfl, hy, ey⟩, k2⟩
  have kk := ext_trans k1 k2
  obtain ⟨i0, i1, i2, i3, i4, i5⟩ := hx
  obtain ⟨j0, j1, j2, j3, j4, j5⟩ := hy
  have hge := ge6 ⟨i0, i1, i2, i3, i4, i5⟩ ⟨j0, j1, j2, j3, j4, j5⟩
  rw [ex, ey] at hge
  rw [← hge]
  simp [go_sem, IntWalk.iteOmega, IntWalk.toNatUp, iv]
  refine W_at fun W hW => ?_
  obtain ⟨b0, b1, hB, hsz⟩ := news2 hW
  have hB := ext_trans kk hB
  clear hW
  have c0 := b0.cell
  have c1 := b1.cell
  refine W_loop (fun st wr => ∃ k : Nat, k ≤ 6 ∧ st 9 = .pointer (some ⟨w2.heap.size, 0, none⟩) ∧ st 10 = .pointer (some ⟨w2.heap.size + 1, 0, none⟩) ∧ st 11 = .int .i64 ((k : Int) - 1) ∧
      geW [x5, x4, x3, x2, x1, x0] [y5, y4, y3, y2, y1, y0] = geF (fun j => [x0, x1, x2, x3, x4, x5].getD j 0) (fun j => [y0, y1, y2, y3, y4, y5].getD j 0) k ∧ Below W.heap.size W wr) (fun st _ => (intOf (st 11) + 1).toNat) ?_ ?_
  · exact ⟨6, by omega, by simp [go_sem], by simp [go_sem], by simp [go_sem], ge_eq .., Below.refl _ _⟩
  · rintro st wr ⟨k, hk, e9, e10, e11, hg, hbw⟩
    cases k with
    | zero =>
      rw [hg]
      simp [go_sem, IntWalk.iteOmega, IntWalk.toNatUp, e9, e10, e11, geF]
      exact hB.trans (hbw.mono hB.size)
    | succ k =>
      have hkk : ((k + 1 : Nat) : Int) - 1 = k := by omega
      rw [hkk] at e11
      have d0 : wr.cell? ⟨w2.heap.size, k, none⟩ = some (iv ([x0, x1, x2, x3, x4, x5].getD k 0)) := by
        rw [(b0.keep hbw).cell]
        rcases (by omega : k = 0 ∨ k = 1 ∨ k = 2 ∨ k = 3 ∨ k = 4 ∨ k = 5) with rfl | rfl | rfl | rfl | rfl | rfl <;> rfl
      have d1 : wr.cell? ⟨w2.heap.size + 1, k, none⟩ = some (iv ([y0, y1, y2, y3, y4, y5].getD k 0)) := by
        rw [(b1.keep hbw).cell]
        rcases (by omega : k = 0 ∨ k = 1 ∨ k = 2 ∨ k = 3 ∨ k = 4 ∨ k = 5) with rfl | rfl | rfl | rfl | rfl | rfl <;> rfl
      have h6 : (k : Int) < 6 := by omega
      by_cases hq : [x0, x1, x2, x3, x4, x5].getD k 0 = [y0, y1, y2, y3, y4, y5].getD k 0
      · have hg' : geW [x5, x4, x3, x2, x1, x0] [y5, y4, y3, y2, y1, y0] = geF (fun j => [x0, x1, x2, x3, x4, x5].getD j 0) (fun j => [y0, y1, y2, y3, y4, y5].getD j 0) k := hg.trans (if_pos hq)
        clear hg
        rw [← hq] at d1
        generalize [x0, x1, x2, x3, x4, x5].getD k 0 = X at *
        simp only [iv] at d0 d1
        simp [go_sem, IntWalk.iteOmega, IntWalk.toNatUp, e9, e10, e11]
        refine W_still follows (by kernel_rfl) ?_
        simp [go_sem, IntWalk.iteOmega, IntWalk.toNatUp, e9, e10, e11, d0, d1]
        refine roundEnd.mk ⟨k, by omega, by simp [go_sem, e9], by simp [go_sem, e10], by simp [go_sem], hg', hbw.drew⟩ ?_
        simp [go_sem, intOf]
      · have hg' : geF (fun j => [x0, x1, x2, x3, x4, x5].getD j 0) (fun j => [y0, y1, y2, y3, y4, y5].getD j 0) (k + 1) = decide ([y0, y1, y2, y3, y4, y5].getD k 0 < [x0, x1, x2, x3, x4, x5].getD k 0) := if_neg hq
        rw [hg, hg']
        clear hg hg'
        generalize [x0, x1, x2, x3, x4, x5].getD k 0 = X at *
        generalize [y0, y1, y2, y3, y4, y5].getD k 0 = Y at *
        simp only [iv] at d0 d1
        have hq' : ((X : Int) != Y) = true := bne_iff_ne.2 (by omega)
        simp [go_sem, IntWalk.iteOmega, IntWalk.toNatUp, e9, e10, e11]
        refine W_still follows (by kernel_rfl) ?_
        simp [go_sem, IntWalk.iteOmega, IntWalk.toNatUp, e9, e10, e11, d0, d1, hq']
        refine W_still follows (by kernel_rfl) ?_
        simp [go_sem, IntWalk.iteOmega, IntWalk.toNatUp, e9, e10, e11, d0, d1]
        exact (hB.trans (hbw.mono hB.size)).drew.drew
theorem noinit_vatleast : Try.prog.inits.idxOf? 14 = none := by kernel_rfl
theorem noinit_ratleast : Try.prog.inits.idxOf? 15 = none := by kernel_rfl
end Go.Proofs.Ytoabdejoabfbeaa
