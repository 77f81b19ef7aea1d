/-
  Equality of function values with nil, of validators.
-/
import Derived.Test.YtoabdejoabfbeaaDoorVSet
import Derived.ChangeKeysEq
namespace Go.Proofs.YtoabdejoabfbeaaDoor
open Go.RowKit
set_option maxRecDepth 10000
def vdv (x : Vd) : Value := .agg #[.string x.name, .int .i64 x.weight]
set_option linter.unusedSimpArgs false
theorem run_equalIn_func {P : Program} (d : Nat) {t : TypeId} {D : TypeDesc} (ht : P.underlying t = some D) (hD : ∃ a b c, D = .func a b c) (f : Fn) (l m : Array Value) (w : World) :
    (Op.equalIn (d + 1) t (.func f l m) .nilFunc).run P w = .ok false w := by
  obtain ⟨a, b, c, rfl⟩ := hD
  simp only [Op.equalIn, Sem.run_bind, run_underlying ht, Result.andThen_ok, Sem.run_pure]
theorem run_eql_func {P : Program} {t : TypeId} {D : TypeDesc} (ht : P.underlying t = some D) (hD : ∃ a b c, D = .func a b c) (f : Fn) (l m : Array Value) (w : World) :
    (binOp .eql t (.func f l m) .nilFunc).run P w = .ok (.bool false) w := by
  have h : (Op.equal t (.func f l m) .nilFunc).run P w = .ok false w := run_equalIn_func 9999 ht hD f l m w
  simp only [binOp, Sem.run_bind, h, Result.andThen_ok, Sem.run_pure]
theorem run_equalIn_vd (d : Nat) (x y : Vd) (w : World) : (Op.equalIn (d + 1 + 1) 32 (vdv x) (vdv y)).run Tryd.prog w = .ok (decide (x.name.toList = y.name.toList ∧ x.weight = y.weight)) w := by
  have hst : Tryd.prog.stoodInHeld 32 = false := by kernel_rfl
  unfold Op.equalIn
  simp only [Sem.run_bind, run_underlying Tryd.underlying32, vdv, Result.andThen_ok, Sem.run_pure]
  have hp : (program).run Tryd.prog w = .ok Tryd.prog w := rfl
  have h1 := run_equalIn_string (P := Tryd.prog) w d 9 x.name y.name Tryd.underlying9
  have h2 := run_equalIn_int (P := Tryd.prog) w d 2 .i64 .i64 x.weight y.weight Tryd.underlying2
  simp only [hp, Result.andThen_ok, hst, Bool.false_eq_true, if_false]
  have p0 : ∀ x : Vd, (part 9 #[.string x.name, .int .i64 x.weight] 0).run Tryd.prog w = .ok (.string x.name) w := fun x => by simp [part, run_isAgg shape9]
  have p1 : ∀ x : Vd, (part 2 #[.string x.name, .int .i64 x.weight] 1).run Tryd.prog w = .ok (.int .i64 x.weight) w := fun x => by simp [part, run_isAgg shape2]
  by_cases e1 : x.name.toList = y.name.toList
  · have e1' : (x.name.toList == y.name.toList) = true := by simp [e1]
    rw [e1'] at h1
    by_cases e2 : x.weight = y.weight
    · have e2' : (x.weight == y.weight) = true := by simp [e2]
      rw [e2'] at h2
      rw [decide_eq_true (show _ ∧ _ from ⟨e1, e2⟩)]
      simp [p0, p1, h1, h2]
    · have e2' : (x.weight == y.weight) = false := beq_eq_false_iff_ne.2 e2
      rw [e2'] at h2
      rw [decide_eq_false (show ¬ (x.name.toList = y.name.toList ∧ x.weight = y.weight) from fun h => e2 h.2)]
      simp [p0, p1, h1, h2]
  · have e1' : (x.name.toList == y.name.toList) = false := beq_eq_false_iff_ne.2 e1
    rw [e1'] at h1
    rw [decide_eq_false (show ¬ (x.name.toList = y.name.toList ∧ x.weight = y.weight) from fun h => e1 h.1)]
    simp [p0, p1, h1]
theorem run_neq_vd (x y : Vd) (w : World) : (binOp .neq 32 (vdv x) (vdv y)).run Tryd.prog w = .ok (.bool (!decide (x.name.toList = y.name.toList ∧ x.weight = y.weight))) w := by
  have h : (Op.equal 32 (vdv x) (vdv y)).run Tryd.prog w = .ok (decide (x.name.toList = y.name.toList ∧ x.weight = y.weight)) w := run_equalIn_vd 9998 x y w
  have hb : binOp .neq 32 (vdv x) (vdv y) = (do pure (.bool (!(← Op.equal 32 (vdv x) (vdv y))))) := rfl
  rw [hb]
  simp only [Sem.run_bind, h, Result.andThen_ok, Sem.run_pure]
end Go.Proofs.YtoabdejoabfbeaaDoor
