/-
  A gate by its own blocks, and by a bound on them.
-/
import Derived.Test.YtilpmnbnjeahnaaGateF
namespace Go.Proofs.Ytilpmnbnjeahnaa.F
open Go.RowKit
set_option linter.unusedVariables false
/-- The blocks of a gate whose blocks all lie from n on. -/
theorem of_in {w : World} {n g : Nat} {S : GS} (h : Go.Proofs.Ytilpmnbnjeahnaa.GateIn w n g S) : ∃ B : Nat → Prop, F.GateIn w B g S ∧ ∀ j, B j → n ≤ j ∧ j < w.heap.size := by
  obtain ⟨sv, m, b, h1, h2, h3, hg, hsh, hmp, hst, hn⟩ := h
  obtain ⟨cs, hb, hr⟩ := id hst
  refine ⟨fun j => j = g ∨ j = m ∨ j = b ∨ sv.ownBlock = some j, ⟨sv, m, b, .inl rfl, .inr (.inl rfl), .inr (.inr (.inl rfl)), hg, ⟨⟨hsh.1, ?_⟩, fun j hj => .inr (.inr (.inr hj))⟩, hmp, hst, hn⟩, ?_⟩
  · rcases hsh.2 with h0 | ⟨k, cap, cur, q1, q2, q3⟩
    · exact .inl h0
    · exact .inr ⟨k, cap, cur, q1, Nat.zero_le _, q3⟩
  · rintro j (rfl | rfl | rfl | h)
    · exact ⟨h1, hg.lt⟩
    · exact ⟨h2, hmp.lt⟩
    · exact ⟨h3, hb.lt⟩
    · exact hsh.lt j h
theorem to_in {w : World} {B : Nat → Prop} {n g : Nat} {S : GS} (h : F.GateIn w B g S) (hB : ∀ j, B j → n ≤ j) : Go.Proofs.Ytilpmnbnjeahnaa.GateIn w n g S := by
  obtain ⟨sv, m, b, h1, h2, h3, hg, ⟨⟨hl, hsh⟩, hs2⟩, hmp, hst, hn⟩ := h
  refine ⟨sv, m, b, hB _ h1, hB _ h2, hB _ h3, hg, ⟨hl, ?_⟩, hmp, hst, hn⟩
  rcases hsh with h0 | ⟨k, cap, cur, rfl, q2, q3⟩
  · exact .inl h0
  · exact .inr ⟨k, cap, cur, rfl, hB k (hs2 k rfl), q3⟩
theorem _root_.Go.Proofs.Ytilpmnbnjeahnaa.GateIn.low {w : World} {n n' g : Nat} {S : GS} (h : Go.Proofs.Ytilpmnbnjeahnaa.GateIn w n g S) (hn : n' ≤ n) : Go.Proofs.Ytilpmnbnjeahnaa.GateIn w n' g S := by
  obtain ⟨B, hB, hb⟩ := of_in h
  exact to_in hB fun j hj => Nat.le_trans hn (hb j hj).1
end Go.Proofs.Ytilpmnbnjeahnaa.F
