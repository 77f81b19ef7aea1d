/-
  An argument that is a set of validators, opened.
-/
import Derived.Test.YtoabdejoabfbeaaVUnits
import Derived.Test.YtoabdejoabfbeaaStru
namespace Go.Proofs.Ytoabdejoabfbeaa
open Go.RowKit Go.ChangeShapes Go.WideShapes
set_option linter.unusedVariables false
theorem open_vdrs {H : Type} {enc : TypeId × Value → H} {W : World} {base b0 : Nat} {sp : Nat → Bool} {held : Bool} {v : Value} {d : DataW H} {ps : List MemPlace} (hval : Value.okWide Try.prog W .any base 33 v)
    (hd : DataW.Trod enc Try.prog W b0 sp held 33 v d ps) : ∃ l : List Vd, Sl W 2 v l.length (vdrs l) ∧ NamesIn l ∧ WeightsIn l := by
  have hc : Try.prog.cellsOf 38 = 2 := by kernel_rfl
  obtain ⟨n, xs, hs, hi⟩ := open_sl (P := Try.prog) Try.underlying33 (by rw [hc]; omega) hval hd
  rw [hc] at hs hi
  have hlen : xs.length = n * 2 := by obtain ⟨A, c, _, h, _⟩ := hs; exact h.len
  obtain ⟨l, h1, h2, h3⟩ := list_of_elems (m := 2) (fun o : Vd => [.string o.name, .int .i64 o.weight]) (fun o => o.name.size ≤ 9223372036854775807 ∧ -9223372036854775808 ≤ o.weight ∧ o.weight ≤ 9223372036854775807) n xs hlen (fun i hin => by
    obtain ⟨fuel, y, hy⟩ := hi i hin
    obtain ⟨hl, hcs⟩ := trod_leafs (L := [(0, some .string, 1), (1, some (.int .i64), 1)]) (by kernel_rfl) (by rfl) hy
    rw [hc] at hl
    obtain ⟨v0, e0, s, rfl, hs0⟩ := hcs 0 .string (by simp)
    obtain ⟨v1, e1, a, rfl, ha⟩ := hcs 1 (.int .i64) (by simp)
    refine ⟨⟨s, a⟩, ?_, by unfold maxLen at hs0; exact hs0, bounds_i64 ha⟩
    match hm : (xs.drop (i * 2)).take 2, hl with
    | [p, q], _ =>
      rw [hm] at e0 e1
      simp at e0 e1
      rw [e0, e1])
  subst h1
  exact ⟨l, by rw [h2] at hs; exact hs, fun x hx => (h3 x hx).1, fun x hx => (h3 x hx).2⟩
end Go.Proofs.Ytoabdejoabfbeaa
