/-
  A text cut at a byte. Plain Lean, no program in sight.
-/
import Derived.Lib.IndexMore
import Derived.Lib.IndexBytes
namespace Go.Proofs.YtoabdejoabfbeaaDoor
open Go.Lib (cut index)
theorem index_cons_eq (c : UInt8) (l : List UInt8) : index (c :: l) [c] = 0 := by simp [index]
theorem index_cons_ne {b c : UInt8} (h : b ≠ c) (l : List UInt8) : index (b :: l) [c] = if index l [c] = -1 then -1 else index l [c] + 1 := by
  have h' : (c == b) = false := by simpa using fun e => h e.symm
  simp [index, List.isPrefixOf, h']
theorem cut_app : ∀ {a : List UInt8} {c : UInt8} (b : List UInt8), c ∉ a → index (a ++ c :: b) [c] = a.length
  | [], c, b, _ => index_cons_eq c b
  | x :: a, c, b, h => by
    have h1 : x ≠ c := fun e => h (by simp [e])
    have h2 := cut_app b (fun hc => h (List.mem_cons_of_mem x hc))
    rw [List.cons_append, index_cons_ne h1, h2, if_neg (by omega)]
    simp
theorem index_not : ∀ {a : List UInt8} {c : UInt8}, c ∉ a → index a [c] = -1
  | [], c, _ => by simp [index]
  | x :: a, c, h => by
    have h1 : x ≠ c := fun e => h (by simp [e])
    have h2 := index_not (fun hc => h (List.mem_cons_of_mem x hc))
    rw [index_cons_ne h1, h2, if_pos rfl]
theorem cut_is {a : List UInt8} {c : UInt8} (b : List UInt8) (h : c ∉ a) : cut (a ++ c :: b) [c] = (a, b, true) := by
  unfold cut
  rw [cut_app b h, if_pos (by omega)]
  simp
theorem cut_not {a : List UInt8} {c : UInt8} (h : c ∉ a) : cut a [c] = (a, [], false) := by
  unfold cut
  rw [index_not h, if_neg (by omega)]
theorem split_at (c : UInt8) : ∀ l : List UInt8, c ∉ l ∨ ∃ a b, l = a ++ c :: b ∧ c ∉ a
  | [] => .inl (by simp)
  | x :: l => by
    by_cases e : x = c
    · exact .inr ⟨[], l, by simp [e], by simp⟩
    · rcases split_at c l with h | ⟨a, b, h1, h2⟩
      · exact .inl (by simp [h, Ne.symm e])
      · exact .inr ⟨x :: a, b, by rw [h1]; rfl, by simp [h2, Ne.symm e]⟩
end Go.Proofs.YtoabdejoabfbeaaDoor
