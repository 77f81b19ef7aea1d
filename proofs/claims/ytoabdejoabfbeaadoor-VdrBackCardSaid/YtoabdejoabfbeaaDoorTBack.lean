/-
  There and back, in plain words.
-/
import Derived.Test.YtoabdejoabfbeaaDoorTStep
namespace Go.Proofs.YtoabdejoabfbeaaDoor
open Go.Lib (cut decDigits)
theorem vAt_app {a b : List Vd} {i : Nat} (h : i < a.length) : vAt (a ++ b) i = vAt a i := by
  unfold vAt
  simp only [List.getD]
  rw [List.getElem?_append_left h]
theorem findV_app {name : ByteArray} {b : List Vd} {i : Int} : ∀ {a : List Vd} {k : Int}, findV name (a ++ b) k = i → i < k + a.length → 0 ≤ i → findV name a k = i
  | [], k, h, h1, h2 => by
    exfalso
    have key : ∀ (l : List Vd) (k : Int), findV name l k = -1 ∨ k ≤ findV name l k := by
      intro l
      induction l with
      | nil => intro k; exact .inl rfl
      | cons x l ih =>
        intro k
        unfold findV
        split
        · exact .inr (Int.le_refl _)
        · rcases ih (k + 1) with h | h
          · exact .inl h
          · exact .inr (by omega)
    have := key b k
    simp at h h1
    omega
  | x :: a, k, h, h1, h2 => by
    rw [List.cons_append] at h
    unfold findV at h ⊢
    split
    · rename_i hq; rw [if_pos hq] at h; exact h
    · rename_i hq; rw [if_neg hq] at h
      exact findV_app h (by simp at h1; omega) h2
theorem wSum_app {a b : List Vd} : ∀ {k : Nat}, k ≤ a.length → wSum (a ++ b) k = wSum a k
  | 0, _ => rfl
  | k + 1, h => by
    unfold wSum
    rw [wSum_app (by omega), vAt_app (by omega)]
theorem check_pre {a b : List Vd} (ha : a ≠ []) (h : checkV (a ++ b) = 0) : checkV a = 0 := by
  obtain ⟨q1, q2, q3, q4⟩ := check0 h
  rw [List.length_append] at q1 q2 q3 q4
  have hp : 0 < a.length := List.length_pos_iff.2 ha
  have n3 : namesOk a a.length := by
    intro i hi
    have := q3 i (by omega)
    rw [vAt_app hi] at this
    exact ⟨this.1, findV_app this.2 (by omega) (by omega)⟩
  have n4 : wOk a a.length := by
    intro i hi
    have := q4 i (by omega)
    rw [vAt_app hi, wSum_app (by omega)] at this
    exact this
  unfold checkV
  rw [if_neg (by omega), if_neg (by simpa using n3), if_neg (by simpa using n4)]
theorem parse_lines : ∀ (r : List Vd) (k : Nat) (a : List Vd) (n : Int), r.length ≤ k → r ≠ [] → checkV (a ++ r) = 0 → parseV k a n (r.flatMap lineV) = (a ++ r, 0, 0)
  | [], _, _, _, _, h, _ => absurd rfl h
  | v :: r, 0, _, _, h, _, _ => by simp at h
  | v :: r, k + 1, a, n, h, _, hc => by
    have e : a ++ v :: r = (a ++ [v]) ++ r := by simp
    rw [e] at hc ⊢
    have h1 := check_pre (by simp) hc
    unfold parseV
    rw [List.flatMap_cons, stepV_line _ h1]
    simp only
    cases r with
    | nil => simp
    | cons u r =>
      rw [if_neg (by simp [lineV]), parse_lines (u :: r) k (a ++ [v]) (n + 1) (by simpa using h) (by simp) hc]
theorem parse_back : ∀ (k : Nat) (a : List Vd) (n : Int) (t : List UInt8), (∃ r, r ≠ [] ∧ parseV k a n t = (a ++ r, 0, 0) ∧ t = r.flatMap lineV ∧ checkV (a ++ r) = 0) ∨ (∃ m, n ≤ m ∧ parseV k a n t = ([], m, 8))
  | 0, a, n, t => .inr ⟨n, Int.le_refl _, rfl⟩
  | k + 1, a, n, t => by
    unfold parseV
    cases h : stepV a t with
    | none => exact .inr ⟨n, Int.le_refl _, rfl⟩
    | some p =>
      obtain ⟨v, rest⟩ := p
      obtain ⟨h1, h2⟩ := stepV_some h
      simp only
      by_cases hr : rest = []
      · rw [if_pos hr]
        subst hr
        exact .inl ⟨[v], by simp, rfl, by simpa using h1, h2⟩
      · rw [if_neg hr]
        rcases parse_back k (a ++ [v]) (n + 1) rest with ⟨r, r1, r2, r3, r4⟩ | ⟨m, m1, m2⟩
        · refine .inl ⟨v :: r, by simp, by rw [r2]; simp, by rw [List.flatMap_cons, ← r3]; exact h1, by simpa using r4⟩
        · exact .inr ⟨m, by omega, m2⟩
end Go.Proofs.YtoabdejoabfbeaaDoor
