/-
  What Of and told hand back, compared; pairs in a row.
-/
import Derived.Test.YtilpmnbnjeahnaaGateF2
namespace Go.Proofs.Ytilpmnbnjeahnaa
open Go.RowKit
set_option linter.unusedVariables false
set_option linter.unusedSimpArgs false
set_option maxRecDepth 10000
theorem F.GateIn.keeps {w w' : World} {B : Nat → Prop} {g : Nat} {S : GS} (h : F.GateIn w B g S) (hk : Keeps B w w') : F.GateIn w' B g S := by
  obtain ⟨sv, m, b, h1, h2, h3, hg, ⟨hsh, hs2⟩, hmp, ⟨cs, hst, hr⟩, hn⟩ := h
  exact ⟨sv, m, b, h1, h2, h3, hk.blk hg h1, ⟨row_keeps hsh hk hs2, hs2⟩, Mp_far hmp (hk.block m hmp.lt h2), ⟨cs, hk.blk hst h3, hr⟩, hn⟩
theorem run_equalIn_st (d : Nat) (x : GSt) (w : World) : (Op.equalIn (d + 1 + 1) 44 x.val x.val).run Try.prog w = .ok true w := by
  have hst : Try.prog.stoodInHeld 44 = false := by kernel_rfl
  unfold Op.equalIn
  simp only [Sem.run_bind, run_underlying Try.underlying44, GSt.val, Result.andThen_ok, Sem.run_pure]
  have hp : (program).run Try.prog w = .ok Try.prog w := rfl
  have h1 := run_equalIn_int (P := Try.prog) w d 3 .i64 .i64 x.many x.many Try.underlying3
  have h2 := run_equalIn_int (P := Try.prog) w d 2 .i64 .i64 x.large x.large Try.underlying2
  have h3 := run_equalIn_int (P := Try.prog) w d 2 .i64 .i64 x.own x.own Try.underlying2
  have h4 := run_equalIn_int (P := Try.prog) w d 2 .i64 .i64 x.drops x.drops Try.underlying2
  simp only [hp, Result.andThen_ok, hst, Bool.false_eq_true, if_false]
  have p0 : (part 3 #[.int .i64 x.many, .int .i64 x.large, .int .i64 x.own, .int .i64 x.drops] 0).run Try.prog w = .ok (.int .i64 x.many) w := by simp [part, run_isAgg shape3]
  have p1 : (part 2 #[.int .i64 x.many, .int .i64 x.large, .int .i64 x.own, .int .i64 x.drops] 1).run Try.prog w = .ok (.int .i64 x.large) w := by simp [part, run_isAgg shape2]
  have p2 : (part 2 #[.int .i64 x.many, .int .i64 x.large, .int .i64 x.own, .int .i64 x.drops] 2).run Try.prog w = .ok (.int .i64 x.own) w := by simp [part, run_isAgg shape2]
  have p3 : (part 2 #[.int .i64 x.many, .int .i64 x.large, .int .i64 x.own, .int .i64 x.drops] 3).run Try.prog w = .ok (.int .i64 x.drops) w := by simp [part, run_isAgg shape2]
  rw [beq_self_eq_true] at h1 h2 h3 h4
  simp [p0, p1, p2, p3, h1, h2, h3, h4]
theorem run_neq_st (x : GSt) (w : World) : (binOp .neq 44 x.val x.val).run Try.prog w = .ok (.bool false) w := by
  have h : (Op.equal 44 x.val x.val).run Try.prog w = .ok true w := run_equalIn_st 9998 x w
  have hb : binOp .neq 44 x.val x.val = (do pure (.bool (!(← Op.equal 44 x.val x.val)))) := rfl
  rw [hb]
  simp only [Sem.run_bind, h, Result.andThen_ok, Sem.run_pure, Bool.not_true]
def prV (x : Int × Int) : Value := .agg #[.int .i64 x.1, .int .i64 x.2]
theorem run_equalIn_pr (d : Nat) (x : Int × Int) (w : World) : (Op.equalIn (d + 1 + 1) 55 (prV x) (prV x)).run Try.prog w = .ok true w := by
  have hst : Try.prog.stoodInHeld 55 = false := by kernel_rfl
  unfold Op.equalIn
  simp only [Sem.run_bind, run_underlying Try.underlying55, prV, Result.andThen_ok, Sem.run_pure]
  have hp : (program).run Try.prog w = .ok Try.prog w := rfl
  have h1 := run_equalIn_int (P := Try.prog) w d 2 .i64 .i64 x.1 x.1 Try.underlying2
  have h2 := run_equalIn_int (P := Try.prog) w d 3 .i64 .i64 x.2 x.2 Try.underlying3
  simp only [hp, Result.andThen_ok, hst, Bool.false_eq_true, if_false]
  have p0 : (part 2 #[.int .i64 x.1, .int .i64 x.2] 0).run Try.prog w = .ok (.int .i64 x.1) w := by simp [part, run_isAgg shape2]
  have p1 : (part 3 #[.int .i64 x.1, .int .i64 x.2] 1).run Try.prog w = .ok (.int .i64 x.2) w := by simp [part, run_isAgg shape3]
  rw [beq_self_eq_true] at h1 h2
  simp [p0, p1, h1, h2]
theorem run_neq_pr (x : Int × Int) (w : World) : (binOp .neq 55 (prV x) (prV x)).run Try.prog w = .ok (.bool false) w := by
  have h : (Op.equal 55 (prV x) (prV x)).run Try.prog w = .ok true w := run_equalIn_pr 9998 x w
  have hb : binOp .neq 55 (prV x) (prV x) = (do pure (.bool (!(← Op.equal 55 (prV x) (prV x))))) := rfl
  rw [hb]
  simp only [Sem.run_bind, h, Result.andThen_ok, Sem.run_pure, Bool.not_true]
theorem prs_length : ∀ l : List (Int × Int), (prs l).length = l.length * 2
  | [] => rfl
  | x :: l => by
    have : prs (x :: l) = [.int .i64 x.1, .int .i64 x.2] ++ prs l := rfl
    rw [this, List.length_append, prs_length l]
    simp; omega
theorem prs_at : ∀ (l : List (Int × Int)) (i : Nat) (h : i < l.length), (prs l)[i * 2]? = some (.int .i64 (l[i]).1) ∧ (prs l)[i * 2 + 1]? = some (.int .i64 (l[i]).2)
  | o :: l, 0, h => ⟨rfl, rfl⟩
  | o :: l, i + 1, h => by
    have := prs_at l i (by simpa using h)
    have e : ∀ j, (prs (o :: l))[(i + 1) * 2 + j]? = (prs l)[i * 2 + j]? := fun j => by
      show ([Value.int .i64 o.1, .int .i64 o.2] ++ prs l)[(i + 1) * 2 + j]? = _
      rw [List.getElem?_append_right (by simp; omega)]
      congr 1
      simp; omega
    have e0 := e 0
    simp only [Nat.add_zero] at e0
    rw [e0, e 1]
    simpa using this
theorem prs_append (a b : List (Int × Int)) : prs (a ++ b) = prs a ++ prs b := by unfold prs; rw [List.flatMap_append]
end Go.Proofs.Ytilpmnbnjeahnaa
