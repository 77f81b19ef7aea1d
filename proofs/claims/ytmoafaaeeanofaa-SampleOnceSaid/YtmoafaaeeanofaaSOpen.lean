/-
  What the opened parameters say.
-/
import Derived.Test.YtmoafaaeeanofaaSUnits2
import Derived.Test.YtmoafaaeeanofaaSWeights
import Derived.Test.YtmoafaaeeanofaaOpen
import Derived.OpenShut
namespace Go.Proofs.Ytmoafaaeeanofaa
open Go.RowKit
theorem wf_U64 {l : List Int} (h : ∀ a ∈ l, (Lit.int .u64 a).wf = true) : U64 l := fun x hx => by
  have := h x hx
  simp only [Lit.wf, Bool.and_eq_true, decide_eq_true_eq, show IntKind.u64.min = 0 from rfl, show IntKind.u64.max = 18446744073709551615 from rfl] at this
  exact this
theorem wf_I {a : Int} (h : (Lit.int .i64 a).wf = true) : InI a := by
  exact bounds_i64 h
theorem wf_AllI {l : List Int} (h : ∀ a ∈ l, (Lit.int .i64 a).wf = true) : AllI l := fun x hx => wf_I (h x hx)
end Go.Proofs.Ytmoafaaeeanofaa
