/-
  The law GateFree: what it counts.
-/
import Derived.Test.YtilpmnbnjeahnaaGInv
import Derived.Test.YtilpmnbnjeahnaaGOf
namespace Go.Proofs.Ytilpmnbnjeahnaa
open Go.RowKit
set_option linter.unusedVariables false
set_option linter.unusedSimpArgs false
set_option maxRecDepth 10000
/-- the drops that the law counts -/
def dropsOf (S : GS) (n : Nat) : List Int := (List.range n).map fun u => (S.st u).drops
theorem dropsOf_at {S : GS} {n u : Nat} (h : u < n) : (dropsOf S n).getD u 0 = (S.st u).drops := by simp [dropsOf, List.getD, h]
theorem dropsOf_length (S : GS) (n : Nat) : (dropsOf S n).length = n := by simp [dropsOf]
theorem dropsOf_leave (S : GS) (n : Nat) (t : Int) : dropsOf (S.leave t).1 n = dropsOf S n := by
  unfold dropsOf GS.leave
  apply List.map_congr_left
  intro u _
  split
  · simp only [GS.count]
    split
    · rename_i e; subst e; rfl
    · rfl
  · rfl
theorem dropsOf_new (c : GCfg) (l : List Int) (n : Nat) : dropsOf (GS.new c l) n = List.replicate n 0 := by
  unfold dropsOf
  apply List.ext_getElem?
  intro i
  by_cases h : i < n
  · simp [h, GS.new]
  · simp [h]
theorem dropsOf_drop {S : GS} {n u : Nat} (h : u < n) : dropsOf (S.drop u) n = (dropsOf S n).set u (IntKind.i64.wrap ((S.st u).drops + 1)) := by
  unfold dropsOf
  apply List.ext_getElem?
  intro i
  rw [List.getElem?_set]
  by_cases hi : i < n
  · by_cases e : u = i
    · subst e; simp [hi, GS.drop, GS.setSt]
    · simp [hi, e, GS.drop, GS.setSt, Ne.symm e]
  · by_cases e : u = i
    · omega
    · simp [hi, e]
theorem dropsOf_lets {S : GS} {n u : Nat} {size : Int} : dropsOf (S.lets u size) n = dropsOf S n := by
  unfold dropsOf
  apply List.map_congr_left
  intro i _
  simp only [GS.lets, GS.count]
  split
  · rename_i e; subst e; rfl
  · rfl
/-- what enter does to the drops -/
theorem dropsOf_enter {c : GCfg} {sh : List Int} {n k : Nat} {S : GS} (h : IF c sh n k S) (o size : Int) :
    (((S.enter o size).2.2 = 3 ∨ (S.enter o size).2.2 = 6) ∧ 0 ≤ o ∧ o < n ∧ dropsOf (S.enter o size).1 n = (dropsOf S n).set o.toNat (IntKind.i64.wrap ((S.st o.toNat).drops + 1))) ∨
    (((S.enter o size).2.2 = 0 ∨ (S.enter o size).2.2 = 1) ∧ dropsOf (S.enter o size).1 n = dropsOf S n) := by
  have hn := h.nn
  unfold GS.enter
  split
  · exact .inr ⟨.inr rfl, rfl⟩
  · split
    · exact .inl ⟨.inl rfl, by omega, by omega, dropsOf_drop (by omega)⟩
    · split
      · exact .inl ⟨.inr rfl, by omega, by omega, dropsOf_drop (by omega)⟩
      · exact .inr ⟨.inl rfl, dropsOf_lets⟩
/-- the first one leaves -/
theorem leave_first {S : GS} {x : Int × GIn} {r : List (Int × GIn)} (h : S.l = x :: r) : (S.leave x.1).2 = 0 ∧ (S.leave x.1).1.l = r := by
  have hat : atG x.1 S.l = some x.2 := by rw [h]; simp [atG]
  have hd : delG x.1 S.l = r := by rw [h]; simp [delG]
  simp only [GS.leave, hat]
  exact ⟨trivial, hd⟩
theorem leave_none {S : GS} {t : Int} (h : ∀ x ∈ S.l, x.1 ≠ t) : S.leave t = (S, 4) := by
  simp [GS.leave, at_none h]
theorem info2z : (Try.prog.info? 2).map (fun i => (i.zero, i.size, i.bytes)) = some (some (.int .i64 0), 1, 8) := by kernel_rfl
/-- a row of numbers as a block -/
def iblk (l : List Int) : Array Value := (l.map (Value.int .i64)).toArray
theorem iblk_at {l : List Int} {i : Nat} (h : i < l.length) : (iblk l)[i]? = some (.int .i64 (l.getD i 0)) := by simp [iblk, List.getD, h]
theorem iblk_set (l : List Int) (i : Nat) (x : Int) : (iblk l).setIfInBounds i (.int .i64 x) = iblk (l.set i x) := by
  simp [iblk, List.map_set]
theorem iblk_rep (n : Nat) : iblk (List.replicate n 0) = Array.replicate n (.int .i64 0) := by
  apply Array.ext'
  simp [iblk, List.map_replicate]
end Go.Proofs.Ytilpmnbnjeahnaa
