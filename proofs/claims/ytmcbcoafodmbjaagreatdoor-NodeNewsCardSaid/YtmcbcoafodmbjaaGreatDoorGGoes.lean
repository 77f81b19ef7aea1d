/-
  No function of the program starts a goroutine: so no call does.
-/
import Derived.Test.YtmcbcoafodmbjaaGreatDoorRows
import Derived.KernelRfl
import GoSem.ClaimGoes
namespace Go.Proofs.YtmcbcoafodmbjaaGreatDoor
theorem goes_none {P : Program} {c : OpenClaim} (hs : c.start = .entering) (h : P.funcs.toList.all (fun fn => !fn.goes) = true) : false = c.goesBy P := by
  rw [List.all_eq_true] at h
  have h1 : ∀ fn ∈ P.funcs.toList, fn.goes = false := fun fn hf => by have := h fn hf; simpa using this
  have h2 : P.funcs.any Func.goes = false := by
    rw [Array.any_eq_false]
    intro i hi
    have := h1 P.funcs[i] (by simp)
    simp [this]
  have h3 : ∀ g : Nat, (P.funcs[g]?).any Func.goes = false := by
    intro g
    cases hg : P.funcs[g]? with
    | none => rfl
    | some fn =>
      show Func.goes fn = false
      have := Array.mem_of_getElem? hg
      exact h1 fn (by simpa using this)
  have h4 : ∀ f, P.goes f = false := by
    intro f
    unfold Program.goes
    rw [h2, Bool.and_false, Bool.or_false]
    cases hx : (P.closure f).any fun g => (P.funcs[g]?).any Func.goes with
    | false => rfl
    | true =>
      exfalso
      simp [h3] at hx
  unfold OpenClaim.goesBy Program.goesAt
  rw [hs]
  simp only [Bool.or_false]
  unfold Program.goesFrom
  cases P.funcNamed c.func with
  | none => rfl
  | some f => exact (h4 f).symm
theorem goes_checked : Tryz.prog.funcs.toList.all (fun fn => !fn.goes) = true := by kernel_rfl
end Go.Proofs.YtmcbcoafodmbjaaGreatDoor
