/-
  Pairs: equality; slices.Equal of pairs that are alike.
-/
import Derived.Test.YtmoafaaeeanofaaSTold
namespace Go.Proofs.Ytmoafaaeeanofaa
open Go.RowKit
set_option linter.unusedVariables false
set_option linter.unusedSimpArgs false
set_option maxRecDepth 10000
def prV (x : Int × Int) : Value := .agg #[.int .i64 x.1, .int .i64 x.2]
theorem run_equalIn_pr (d : Nat) (x : Int × Int) (w : World) : (Op.equalIn (d + 1 + 1) 51 (prV x) (prV x)).run Try.prog w = .ok true w := by
  have hst : Try.prog.stoodInHeld 51 = false := by kernel_rfl
  unfold Op.equalIn
  simp only [Sem.run_bind, run_underlying Try.underlying51, prV, Result.andThen_ok, Sem.run_pure]
  have hp : (program).run Try.prog w = .ok Try.prog w := rfl
  have h1 := run_equalIn_int (P := Try.prog) w d 3 .i64 .i64 x.1 x.1 Try.underlying3
  have h2 := run_equalIn_int (P := Try.prog) w d 3 .i64 .i64 x.2 x.2 Try.underlying3
  simp only [hp, Result.andThen_ok, hst, Bool.false_eq_true, if_false]
  have p0 : (part 3 #[.int .i64 x.1, .int .i64 x.2] 0).run Try.prog w = .ok (.int .i64 x.1) w := by simp [part, run_isAgg shape3]
  have p1 : (part 3 #[.int .i64 x.1, .int .i64 x.2] 1).run Try.prog w = .ok (.int .i64 x.2) w := by simp [part, run_isAgg shape3]
  rw [beq_self_eq_true] at h1 h2
  simp [p0, p1, h1, h2]
theorem run_neq_pr (x : Int × Int) (w : World) : (binOp .neq 51 (prV x) (prV x)).run Try.prog w = .ok (.bool false) w := by
  have h : (Op.equal 51 (prV x) (prV x)).run Try.prog w = .ok true w := run_equalIn_pr 9998 x w
  have hb : binOp .neq 51 (prV x) (prV x) = (do pure (.bool (!(← Op.equal 51 (prV x) (prV x))))) := rfl
  rw [hb]
  simp only [Sem.run_bind, h, Result.andThen_ok, Sem.run_pure, Bool.not_true]
theorem prs_length : ∀ l : List (Int × Int), (prs l).length = l.length * 2
  | [] => rfl
  | x :: l => by
    have : prs (x :: l) = [.int .i64 x.1, .int .i64 x.2] ++ prs l := rfl
    rw [this, List.length_append, prs_length l]
    simp; omega
theorem prs_at : ∀ (l : List (Int × Int)) (i : Nat) (h : i < l.length), (prs l)[i * 2]? = some (.int .i64 (l[i]).1) ∧ (prs l)[i * 2 + 1]? = some (.int .i64 (l[i]).2)
  | o :: l, 0, h => ⟨rfl, rfl⟩
  | o :: l, i + 1, h => by
    have := prs_at l i (by simpa using h)
    have e : ∀ j, (prs (o :: l))[(i + 1) * 2 + j]? = (prs l)[i * 2 + j]? := fun j => by
      show ([Value.int .i64 o.1, .int .i64 o.2] ++ prs l)[(i + 1) * 2 + j]? = _
      rw [List.getElem?_append_right (by simp; omega)]
      congr 1
      simp; omega
    have e0 := e 0
    simp only [Nat.add_zero] at e0
    rw [e0, e 1]
    simpa using this
theorem prs_append (a b : List (Int × Int)) : prs (a ++ b) = prs a ++ prs b := by unfold prs; rw [List.flatMap_append]
theorem Sl_frontP {w : World} {A : Option Addr} {cap : Nat} {l : List (Int × Int)} (h : Sl w 2 (.slice A l.length cap) l.length (prs l)) {k : Nat} (hk : k ≤ l.length) : Sl w 2 (.slice A k cap) (l.take k).length (prs (l.take k)) := by
  obtain ⟨A', c', e, hrd, h1, h2, h3⟩ := h
  injection e with e1 e2 e3
  subst e1; subst e3
  have hlen : (l.take k).length = k := by simp; omega
  rw [hlen]
  refine ⟨A, cap, rfl, ⟨by rw [prs_length, hlen], fun hn => ?_⟩, fun hA => ⟨by have := h1 hA; omega, (h1 hA).2⟩, by omega, h3⟩
  obtain ⟨b, o, rfl, hb, hc⟩ := hrd.cells (by omega)
  refine ⟨b, o, rfl, hb, fun j u hu => hc j u ?_⟩
  have hp : prs l = prs (l.take k) ++ prs (l.drop k) := by rw [← prs_append, List.take_append_drop]
  rw [hp, List.getElem?_append_left (List.getElem?_eq_some_iff.1 hu).1]
  exact hu
set_option maxHeartbeats 1600000 in
theorem equalP_same (xs : List (Int × Int)) (vx vy : Value) (w : World) (hx : Sl w 2 vx xs.length (prs xs)) (hy : Sl w 2 vy xs.length (prs xs)) :
    callE Try.prog 24 #[vx, vy] w fun v w' => v = .bool true ∧ Below w.heap.size w w' := by
  obtain ⟨A, cap, rfl, hrx, hA, hc1, hc2⟩ := id hx
  obtain ⟨B, cap2, rfl, hry, hB, hd1, hd2⟩ := id hy
  refine calls_E Try.func24 rfl rfl rfl (Nat.le_of_ble_eq_true rfl) ?_
  simp [go_sem, IntWalk.iteOmega, IntWalk.toNatUp]
  refine W_loop (fun st wr => ∃ i : Nat, i ≤ xs.length ∧ st 0 = .slice A xs.length cap ∧ st 1 = .slice B xs.length cap2 ∧ st 12 = .int .i64 xs.length ∧ st 13 = .int .i64 i ∧ Below w.heap.size w wr) (fun st _ => xs.length - (intOf (st 13)).toNat) ?_ ?_
  · exact ⟨0, by omega, by simp [go_sem], by simp [go_sem], by simp [go_sem], by simp [go_sem], Below.refl _ _⟩
  · rintro st wr ⟨i, hi, e0, e1, e12, e13, hbw⟩
    by_cases hlt : i < xs.length
    · obtain ⟨b, o, rfl, hb, hcx⟩ := hrx.cells (by omega)
      obtain ⟨b2, o2, rfl, hb2, hcy⟩ := hry.cells (by omega)
      obtain ⟨a0, a1⟩ := prs_at xs i hlt
      have x0 := hcx _ _ a0
      have x1 := hcx _ _ a1
      have y0 := hcy _ _ a0
      have y1 := hcy _ _ a1
      rw [← hbw.cell hb] at x0 x1
      rw [← hbw.cell hb2] at y0 y1
      rw [← Nat.add_assoc] at x1 y1
      have hlt' : (i : Int) < xs.length := by omega
      generalize xs[i] = x at *
      have hq := run_neq_pr x wr.drew
      simp only [prV] at hq
      simp [go_sem, IntWalk.iteOmega, IntWalk.toNatUp, e0, e1, e12, e13, hlt, hlt']
      refine W_still follows (by kernel_rfl) ?_
      simp [go_sem, IntWalk.iteOmega, IntWalk.toNatUp, e0, e1, e12, e13, hlt, hlt', x0, x1, y0, y1, hq]
      refine roundEnd.mk ⟨i + 1, by omega, by simp [go_sem, e0], by simp [go_sem, e1], by simp [go_sem, e12], by simp [go_sem], hbw.drew⟩ ?_
      simp [go_sem, intOf]; omega
    · obtain rfl : i = xs.length := by omega
      simp [go_sem, IntWalk.iteOmega, IntWalk.toNatUp, e0, e1, e12, e13]
      exact hbw
end Go.Proofs.Ytmoafaaeeanofaa
