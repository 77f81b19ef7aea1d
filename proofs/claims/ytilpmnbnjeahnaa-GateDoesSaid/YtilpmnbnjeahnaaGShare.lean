/-
  gate.Share and the document's: the same share.
-/
import Derived.Test.YtilpmnbnjeahnaaGDiv
import Derived.Test.YtilpmnbnjeahnaaGSums
import Derived.Test.YtilpmnbnjeahnaaGBits
namespace Go.Proofs.Ytilpmnbnjeahnaa
open Go.RowKit
set_option linter.unusedVariables false
set_option linter.unusedSimpArgs false
set_option maxRecDepth 10000
theorem div64_whole (N m : Nat) (hm : m < 18446744073709551616) (hN : N < 18446744073709551616 * m) (w : World) :
    callE Try.prog 32 #[.int .u64 ((N / 18446744073709551616 : Nat) : Int), .int .u64 ((N % 18446744073709551616 : Nat) : Int), .int .u64 m] w fun v w' =>
      v = .tuple #[.int .u64 ((N / m : Nat) : Int), .int .u64 ((N % m : Nat) : Int)] ∧ Below w.heap.size w w' := by
  have h := div64_any (N / 18446744073709551616) (N % 18446744073709551616) m (Nat.mod_lt _ (by omega)) hm ((Nat.div_lt_iff_lt_mul (by omega)).2 (by rw [Nat.mul_comm]; exact hN)) w
  rw [Nat.div_add_mod' N 18446744073709551616] at h
  exact h
set_option maxHeartbeats 1600000 in
theorem gshare_any (own v : Int) (l : List Int) (vl : Value) (w : World) (hs : Sl w 1 vl l.length (ints .i64 l)) :
    callE Try.prog 11 #[.int .i64 own, vl, .int .i64 v] w fun u w' => u = .tuple #[.int .i64 (shareOf own l v), .int .i64 (shareE own l v)] ∧ Below w.heap.size w w' := by
  have hsum : ∀ k, callE Try.prog 29 #[vl] w k = k (.int .i64 (if okW l then sumW l else -1)) w := fun k => callE_eq noinit_gsum (gsum_runs l vl w hs) k
  obtain ⟨A, c, rfl, hrd, hA, hc1, hc2⟩ := hs

  by_cases hk : okW l = true
  · have hp := okW_pos hk
    have hw := okW_of hk
    simp only [hk, if_true] at hsum
    by_cases h1 : 0 ≤ own ∧ own ≤ 1073741824
    · by_cases h2 : v < 0
      · have ho : shareOk own l v = false := by simp [shareOk]; omega
        refine calls_E Try.func11 rfl rfl rfl (Nat.le_of_ble_eq_true rfl) ?_
        simp [go_sem, IntWalk.iteOmega, IntWalk.toNatUp, hsum, h1, h2, show ¬ sumW l < 0 by omega, shareOf, shareE, ho]
        exact Below.refl _ _
      · by_cases h3 : v < l.length
        · have ho : shareOk own l v = true := by simp [shareOk, hk]; omega
          obtain ⟨o, rfl⟩ : ∃ o : Nat, own = o := ⟨own.toNat, by omega⟩
          obtain ⟨u, rfl⟩ : ∃ u : Nat, v = u := ⟨v.toNat, by omega⟩
          have hx := okTo_at hw.2.2 (show u < l.length by omega)
          obtain ⟨b, oo, rfl, hb, hc⟩ := hrd.cells (by omega)
          have x0 := hc u _ (ints_at (by omega))
          have hm : sumTo l l.length = sumW l := rfl
          rw [hm] at hx
          generalize hX : l.getD u 0 = X at *
          generalize hM : sumW l = M at *
          obtain ⟨x, rfl⟩ : ∃ x : Nat, X = x := ⟨X.toNat, by omega⟩
          obtain ⟨m, rfl⟩ : ∃ m : Nat, M = m := ⟨M.toNat, by omega⟩
          have f1 := wrapN o (by omega)
          have f2 := wrapN x (by omega)
          have f3 := wrapN m (by omega)
          have hmul := fun k => callE_eq noinit_mul64 (mul64_runs o x (by omega) (by omega) w) k
          refine calls_E Try.func11 rfl rfl rfl (Nat.le_of_ble_eq_true rfl) ?_
          simp [go_sem, IntWalk.iteOmega, IntWalk.toNatUp, hsum, h1, h2, h3, show ¬ (m : Int) < 0 by omega, x0, f1, f2, f3, hmul]
          have hox : o * x ≤ 1073741824 * m := Nat.mul_le_mul (by omega) (by omega)
          refine callE_of (div64_whole (o * x) m (by omega) (by omega) w) ?_
          rintro _ w1 ⟨rfl, hB⟩
          have hq : o * x / m ≤ 1073741824 := Nat.div_le_of_le_mul (show o * x ≤ m * 1073741824 by omega)
          have hsh : shareOf o l u = ((o * x / m : Nat) : Int) := by
            rw [shareOf, if_pos ho, Int.toNat_natCast, hX, hM]; simp
          generalize o * x / m = q at *
          have fq : IntKind.i64.wrap (q : Int) = (q : Int) := by rw [IntKind.wrap_i64]; omega
          simp [go_sem, IntWalk.iteOmega, IntWalk.toNatUp, hsh, shareE, ho, fq]
          exact hB
        · have ho : shareOk own l v = false := by simp [shareOk]; omega
          refine calls_E Try.func11 rfl rfl rfl (Nat.le_of_ble_eq_true rfl) ?_
          simp [go_sem, IntWalk.iteOmega, IntWalk.toNatUp, hsum, h1, h2, h3, show ¬ sumW l < 0 by omega, shareOf, shareE, ho]
          exact Below.refl _ _
    · have ho : shareOk own l v = false := by simp [shareOk]; omega
      refine calls_E Try.func11 rfl rfl rfl (Nat.le_of_ble_eq_true rfl) ?_
      simp [go_sem, IntWalk.iteOmega, IntWalk.toNatUp, hsum, h1, shareOf, shareE, ho]
      exact Below.refl _ _
  · have ho : shareOk own l v = false := by simp [shareOk, hk]
    simp only [hk] at hsum
    refine calls_E Try.func11 rfl rfl rfl (Nat.le_of_ble_eq_true rfl) ?_
    by_cases h1 : 0 ≤ own ∧ own ≤ 1073741824 <;> simp [go_sem, IntWalk.iteOmega, IntWalk.toNatUp, hsum, h1, shareOf, shareE, ho] <;> exact Below.refl _ _
set_option maxHeartbeats 3200000 in
theorem rshare_runs (own v : Int) (l : List Int) (vl : Value) (w : World) (hs : Sl w 1 vl l.length (ints .i64 l)) :
    Runs Try.prog 12 #[.int .i64 own, vl, .int .i64 v] w (.tuple #[.int .i64 (shareOf own l v), .int .i64 (shareE own l v)]) w := by
  have hsum : ∀ k, callE Try.prog 18 #[vl] w k = k (.tuple #[.int .i64 (if okW l then sumW l else 0), .bool (okW l)]) w := fun k => callE_eq noinit_rsum (rsum_runs l vl w hs) k
  obtain ⟨A, c, rfl, hrd, hA, hc1, hc2⟩ := hs
  refine runs_of_callE ?_
  by_cases hk : okW l = true
  · have hp := okW_pos hk
    have hw := okW_of hk
    simp only [hk, if_true] at hsum
    by_cases h1 : own < 0
    · have ho : shareOk own l v = false := by simp [shareOk]; omega
      refine calls_E Try.func12 rfl rfl rfl (Nat.le_of_ble_eq_true rfl) ?_
      simp [go_sem, IntWalk.iteOmega, IntWalk.toNatUp, hsum, h1, shareOf, shareE, ho]
    · by_cases h1' : 1073741824 < own
      · have ho : shareOk own l v = false := by simp [shareOk]; omega
        refine calls_E Try.func12 rfl rfl rfl (Nat.le_of_ble_eq_true rfl) ?_
        simp [go_sem, IntWalk.iteOmega, IntWalk.toNatUp, hsum, h1, h1', shareOf, shareE, ho]
      · by_cases h2 : v < 0
        · have ho : shareOk own l v = false := by simp [shareOk]; omega
          refine calls_E Try.func12 rfl rfl rfl (Nat.le_of_ble_eq_true rfl) ?_
          simp [go_sem, IntWalk.iteOmega, IntWalk.toNatUp, hsum, h1, h1', h2, shareOf, shareE, ho]
        · by_cases h3 : v < l.length
          · have ho : shareOk own l v = true := by simp [shareOk, hk]; omega
            obtain ⟨o, rfl⟩ : ∃ o : Nat, own = o := ⟨own.toNat, by omega⟩
            obtain ⟨u, rfl⟩ : ∃ u : Nat, v = u := ⟨v.toNat, by omega⟩
            have hx := okTo_at hw.2.2 (show u < l.length by omega)
            obtain ⟨b, oo, rfl, hb, hc⟩ := hrd.cells (by omega)
            have x0 := hc u _ (ints_at (by omega))
            have hm : sumTo l l.length = sumW l := rfl
            rw [hm] at hx
            have hsh : shareOf o l u = (o : Int) * l.getD u 0 / sumW l := by
              rw [shareOf, if_pos ho, Int.toNat_natCast]
            generalize l.getD u 0 = X at *
            generalize sumW l = M at *
            obtain ⟨x, rfl⟩ : ∃ x : Nat, X = x := ⟨X.toNat, by omega⟩
            obtain ⟨m, rfl⟩ : ∃ m : Nat, M = m := ⟨M.toNat, by omega⟩
            have f2 := wrapN x (by omega)
            have f3 := wrapN m (by omega)
            refine calls_E Try.func12 rfl rfl rfl (Nat.le_of_ble_eq_true rfl) ?_
            simp [go_sem, IntWalk.iteOmega, IntWalk.toNatUp, hsum, h1, h1', h2, h3]
            refine W_loop (fun s wr => ∃ j q r : Nat, j ≤ 31 ∧ s 0 = .int .i64 o ∧ s 1 = .slice (some { block := b, off := oo }) l.length c ∧ s 2 = .int .i64 u ∧ s 8 = .int .i64 m ∧ s 10 = .int .i64 q ∧ s 11 = .int .u64 r ∧ s 12 = .int .i64 ((j : Int) - 1) ∧ q * m + r = o / 2 ^ j * x ∧ r < m ∧ wr = w) (fun s _ => (intOf (s 12) + 1).toNat) ?_ ?_
            · refine ⟨31, 0, 0, by omega, by simp [go_sem], by simp [go_sem], by simp [go_sem], by simp [go_sem], by simp [go_sem], by simp [go_sem], by simp [go_sem], ?_, by omega, rfl⟩
              rw [Nat.div_eq_of_lt (by omega)]; omega
            · rintro s wr ⟨j, q, r, hj, e0, e1, e2, e8, e10, e11, e12, hqr, hr, rfl⟩
              cases j with
              | zero =>
                have e12 : s 12 = .int .i64 (-1) := e12
                rw [Nat.pow_zero, Nat.div_one] at hqr
                have hq := quo_of hqr hr
                have hsh : shareOf o l u = (q : Int) := by rw [hsh, hq]; simp
                simp [go_sem, IntWalk.iteOmega, IntWalk.toNatUp, e0, e1, e2, e8, e10, e11, e12, hsh, shareE, ho]
              | succ j =>
                have e12 : s 12 = .int .i64 (j : Int) := by rw [e12]; simp
                have hqo : q ≤ 1073741824 := Nat.le_trans (quo_le hqr (by omega) (by omega)) (Nat.le_trans (Nat.div_le_self _ _) (by omega))
                obtain ⟨q1, r1, hq1, hr1, hr1m, hbit, hnob⟩ := bit_round hqr hr (show x ≤ m by omega)
                obtain ⟨Q2, hQ2⟩ : ∃ Q2, Q2 = q * 2 := ⟨_, rfl⟩
                obtain ⟨R2, hR2⟩ : ∃ R2, R2 = r * 2 := ⟨_, rfl⟩
                rw [← hR2, ← hQ2] at hq1
                rw [← hR2] at hr1
                have g1 : IntKind.i64.wrap ((q : Int) * 2) = (Q2 : Int) := by rw [IntKind.wrap_i64]; omega
                have g2 : IntKind.u64.wrap ((r : Int) * 2) = (R2 : Int) := by rw [IntKind.wrap_u64]; omega
                have fj : IntKind.u64.wrap (j : Int) = (j : Int) := by rw [IntKind.wrap_u64]; omega
                have fjm : min j 64 = j := by omega
                have fbb : ((o : Int) / 2 ^ j).tmod 2 = ((o / 2 ^ j % 2 : Nat) : Int) := by
                  rw [show (o : Int) / 2 ^ j = ((o / 2 ^ j : Nat) : Int) by simp]; rfl
                have fb1 : o / 2 ^ j % 2 = 1 → (((o : Int) / 2 ^ j).tmod 2 == 1) = true := fun h => by rw [fbb, h]; rfl
                have fb0 : ¬ o / 2 ^ j % 2 = 1 → (((o : Int) / 2 ^ j).tmod 2 == 1) = false := fun h => by rw [fbb]; exact beq_eq_false_iff_ne.2 (by omega)
                clear fbb
                by_cases c1 : m ≤ R2
                · have c1' : (m : Int) ≤ R2 := by omega
                  rw [if_pos c1] at hq1 hr1
                  have g3 : IntKind.i64.wrap ((Q2 : Int) + 1) = (q1 : Int) := by rw [IntKind.wrap_i64]; omega
                  have g4 : IntKind.u64.wrap ((R2 : Int) - m) = (r1 : Int) := by rw [IntKind.wrap_u64]; omega
                  by_cases cb : o / 2 ^ j % 2 = 1
                  · obtain ⟨q2, r2, hq2, hr2, hr2m, hinv⟩ := hbit cb
                    have cb' := fb1 cb
                    have g5 : IntKind.u64.wrap ((r1 : Int) + x) = ((r1 + x : Nat) : Int) := by rw [IntKind.wrap_u64]; omega
                    obtain ⟨Z, hZ⟩ : ∃ Z, Z = r1 + x := ⟨_, rfl⟩
                    rw [← hZ] at g5 hq2 hr2
                    by_cases c2 : m ≤ Z
                    · have c2' : (m : Int) ≤ Z := by omega
                      rw [if_pos c2] at hq2 hr2
                      have g6 : IntKind.i64.wrap ((q1 : Int) + 1) = (q2 : Int) := by rw [IntKind.wrap_i64]; omega
                      have g7 : IntKind.u64.wrap ((Z : Int) - m) = (r2 : Int) := by rw [IntKind.wrap_u64]; omega
                      simp [go_sem, IntWalk.iteOmega, IntWalk.toNatUp, e0, e1, e2, e8, e10, e11, e12, f2, f3, g1, g2, g3, g4, c1', fj, fjm, cb', x0, h2, h3, g5, g6, g7, c2']
                      refine roundEnd.mk ⟨j, q2, r2, by omega, by simp [go_sem, e0], by simp [go_sem, e1], by simp [go_sem, e2], by simp [go_sem, e8], by simp [go_sem], by simp [go_sem], by simp [go_sem], hinv, hr2m, rfl⟩ ?_
                      simp [go_sem, intOf] <;> omega
                    · have c2' : ¬ (m : Int) ≤ Z := by omega
                      rw [if_neg c2] at hq2 hr2
                      subst hq2; subst hr2
                      simp [go_sem, IntWalk.iteOmega, IntWalk.toNatUp, e0, e1, e2, e8, e10, e11, e12, f2, f3, g1, g2, g3, g4, c1', fj, fjm, cb', x0, h2, h3, g5, c2']
                      refine roundEnd.mk ⟨j, q2, r2, by omega, by simp [go_sem, e0], by simp [go_sem, e1], by simp [go_sem, e2], by simp [go_sem, e8], by simp [go_sem], by simp [go_sem], by simp [go_sem], hinv, hr2m, rfl⟩ ?_
                      simp [go_sem, intOf] <;> omega
                  · have hinv := hnob cb
                    have cb' := fb0 cb
                    simp [go_sem, IntWalk.iteOmega, IntWalk.toNatUp, e0, e1, e2, e8, e10, e11, e12, f2, f3, g1, g2, g3, g4, c1', fj, fjm, cb', x0]
                    refine roundEnd.mk ⟨j, q1, r1, by omega, by simp [go_sem, e0], by simp [go_sem, e1], by simp [go_sem, e2], by simp [go_sem, e8], by simp [go_sem], by simp [go_sem], by simp [go_sem], hinv, hr1m, rfl⟩ ?_
                    simp [go_sem, intOf] <;> omega
                · have c1' : ¬ (m : Int) ≤ R2 := by omega
                  rw [if_neg c1] at hq1 hr1
                  subst hq1; subst hr1
                  by_cases cb : o / 2 ^ j % 2 = 1
                  · obtain ⟨q2, r2, hq2, hr2, hr2m, hinv⟩ := hbit cb
                    have cb' := fb1 cb
                    have g5 : IntKind.u64.wrap ((r1 : Int) + x) = ((r1 + x : Nat) : Int) := by rw [IntKind.wrap_u64]; omega
                    obtain ⟨Z, hZ⟩ : ∃ Z, Z = r1 + x := ⟨_, rfl⟩
                    rw [← hZ] at g5 hq2 hr2
                    by_cases c2 : m ≤ Z
                    · have c2' : (m : Int) ≤ Z := by omega
                      rw [if_pos c2] at hq2 hr2
                      have g6 : IntKind.i64.wrap ((q1 : Int) + 1) = (q2 : Int) := by rw [IntKind.wrap_i64]; omega
                      have g7 : IntKind.u64.wrap ((Z : Int) - m) = (r2 : Int) := by rw [IntKind.wrap_u64]; omega
                      simp [go_sem, IntWalk.iteOmega, IntWalk.toNatUp, e0, e1, e2, e8, e10, e11, e12, f2, f3, g1, g2, c1', fj, fjm, cb', x0, h2, h3, g5, g6, g7, c2']
                      refine roundEnd.mk ⟨j, q2, r2, by omega, by simp [go_sem, e0], by simp [go_sem, e1], by simp [go_sem, e2], by simp [go_sem, e8], by simp [go_sem], by simp [go_sem], by simp [go_sem], hinv, hr2m, rfl⟩ ?_
                      simp [go_sem, intOf] <;> omega
                    · have c2' : ¬ (m : Int) ≤ Z := by omega
                      rw [if_neg c2] at hq2 hr2
                      subst hq2; subst hr2
                      simp [go_sem, IntWalk.iteOmega, IntWalk.toNatUp, e0, e1, e2, e8, e10, e11, e12, f2, f3, g1, g2, c1', fj, fjm, cb', x0, h2, h3, g5, c2']
                      refine roundEnd.mk ⟨j, q2, r2, by omega, by simp [go_sem, e0], by simp [go_sem, e1], by simp [go_sem, e2], by simp [go_sem, e8], by simp [go_sem], by simp [go_sem], by simp [go_sem], hinv, hr2m, rfl⟩ ?_
                      simp [go_sem, intOf] <;> omega
                  · have hinv := hnob cb
                    have cb' := fb0 cb
                    simp [go_sem, IntWalk.iteOmega, IntWalk.toNatUp, e0, e1, e2, e8, e10, e11, e12, f2, f3, g1, g2, c1', fj, fjm, cb', x0]
                    refine roundEnd.mk ⟨j, q1, r1, by omega, by simp [go_sem, e0], by simp [go_sem, e1], by simp [go_sem, e2], by simp [go_sem, e8], by simp [go_sem], by simp [go_sem], by simp [go_sem], hinv, hr1m, rfl⟩ ?_
                    simp [go_sem, intOf] <;> omega
          · have ho : shareOk own l v = false := by simp [shareOk]; omega
            refine calls_E Try.func12 rfl rfl rfl (Nat.le_of_ble_eq_true rfl) ?_
            simp [go_sem, IntWalk.iteOmega, IntWalk.toNatUp, hsum, h1, h1', h2, h3, shareOf, shareE, ho]
  · have ho : shareOk own l v = false := by simp [shareOk, hk]
    have hk' : okW l = false := by simpa using hk
    rw [hk', if_neg (by simp)] at hsum
    refine calls_E Try.func12 rfl rfl rfl (Nat.le_of_ble_eq_true rfl) ?_
    by_cases h1 : own < 0 <;> by_cases h1' : 1073741824 < own <;> simp [go_sem, IntWalk.iteOmega, IntWalk.toNatUp, hsum, h1, h1', shareOf, shareE, ho]
end Go.Proofs.Ytilpmnbnjeahnaa
