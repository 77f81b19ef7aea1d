/-
  A text's sets, in plain words: one line, all lines.
-/
import Derived.Test.YtoabdejoabfbeaaDoorTText
import Derived.Test.YtoabdejoabfbeaaDoorTCut
import Derived.Test.YtoabdejoabfbeaaDoorTAscii
namespace Go.Proofs.YtoabdejoabfbeaaDoor
open Go.Lib (cut decDigits)
/-- the program's reading of a line -/
noncomputable def stepV (l : List Vd) (text : List UInt8) : Option (Vd × List UInt8) :=
  let v : Vd := ⟨strOf (cut (cut text [10]).1 [32]).1, weightV (cut (cut text [10]).1 [32]).2.1⟩
  if (cut text [10]).2.2 = true ∧ (cut (cut text [10]).1 [32]).2.2 = true ∧ 1 ≤ v.weight ∧ checkV (l ++ [v]) = 0 then some (v, (cut text [10]).2.1) else none
/-- all lines: the set, the bad line, the answer -/
noncomputable def parseV : Nat → List Vd → Int → List UInt8 → List Vd × Int × Int
  | 0, _, n, _ => ([], n, 8)
  | k + 1, l, n, text =>
    match stepV l text with
    | none => ([], n, 8)
    | some (v, rest) => if rest = [] then (l ++ [v], 0, 0) else parseV k (l ++ [v]) (n + 1) rest
theorem stepV_some {l : List Vd} {text : List UInt8} {v : Vd} {rest : List UInt8} (h : stepV l text = some (v, rest)) : text = lineV v ++ rest ∧ checkV (l ++ [v]) = 0 := by
  unfold stepV at h
  simp only at h
  split at h
  · rename_i hc
    obtain ⟨c1, c2, c3, c4⟩ := hc
    rcases split_at 10 text with h1 | ⟨a, b, rfl, h1⟩
    · rw [cut_not h1] at c1; cases c1
    · rw [cut_is b h1] at c2 c3 c4 h
      rcases split_at 32 a with h2 | ⟨a1, b1, rfl, h2⟩
      · rw [cut_not h2] at c2; cases c2
      · rw [cut_is b1 h2] at c3 c4 h
        simp only at c3 c4 h
        injection h with h
        injection h with hv hr
        subst hv hr
        have hw := ((weight_number b1 (weightV b1) c3).1 rfl).2
        refine ⟨?_, c4⟩
        unfold lineV
        simp only [hw]
        simp [strOf]
  · cases h
theorem name_no {s : ByteArray} (h : nameE s = 0) {c : UInt8} (hc : c.toNat < 45) : c ∉ s.data.toList := by
  intro hm
  have h1 := ascii_runes hm (by omega)
  have h2 : nameOk s = true := by
    unfold nameE at h
    split at h
    · assumption
    · cases h
  unfold nameOk at h2
  rw [Bool.and_eq_true, List.all_eq_true] at h2
  have h3 := h2.2 _ h1
  unfold letterOk at h3
  rw [decide_eq_true_eq] at h3
  omega
theorem weightV_dec {n : Int} (h1 : 1 ≤ n) (h2 : n ≤ 4611686018427387903) : weightV (decDigits n.toNat) = n := by
  obtain ⟨m, rfl⟩ : ∃ m : Nat, n = m := ⟨n.toNat, by omega⟩
  refine (weight_number _ m h1).2 ⟨?_, rfl⟩
  rw [Int.toNat_natCast]
  obtain ⟨p1, p2, p3, p4⟩ := dec_props m
  have h3 : dval (decDigits m) ≤ 4611686018427387903 := by rw [p2]; omega
  unfold numberV
  rw [if_pos ⟨p1, h3⟩, p2]
theorem dec_no {u : Nat} {c : UInt8} (hc : c.toNat < 48) : c ∉ decDigits u := by
  intro hm
  have h := (dec_props u).1
  unfold digs at h
  rw [List.all_eq_true] at h
  have := h c hm
  rw [decide_eq_true_eq] at this
  omega
theorem last_ok {l : List Vd} {v : Vd} (h : checkV (l ++ [v]) = 0) : nameE v.name = 0 ∧ 1 ≤ v.weight ∧ v.weight ≤ 4611686018427387903 := by
  obtain ⟨q1, q2, q3, q4⟩ := check0 h
  have hl : (l ++ [v]).length = l.length + 1 := by simp
  have hv : vAt (l ++ [v]) l.length = v := by simp [vAt, List.getD]
  have a := q3 l.length (by omega)
  have b := q4 l.length (by omega)
  have c := (wSum_nn (l := l ++ [v]) (k := l.length) fun j hj => q4 j (by omega)).1
  rw [hv] at a b
  exact ⟨a.1, b.1, by omega⟩
theorem stepV_line {l : List Vd} {v : Vd} (rest : List UInt8) (h : checkV (l ++ [v]) = 0) : stepV l (lineV v ++ rest) = some (v, rest) := by
  obtain ⟨h1, h2, h3⟩ := last_ok h
  have e : lineV v ++ rest = (v.name.data.toList ++ 32 :: decDigits v.weight.toNat) ++ 10 :: rest := by simp [lineV]
  have n1 : (10 : UInt8) ∉ v.name.data.toList ++ 32 :: decDigits v.weight.toNat := by
    simp only [List.mem_append, List.mem_cons, not_or]
    exact ⟨name_no h1 (by decide), by decide, dec_no (by decide)⟩
  have n2 : (32 : UInt8) ∉ v.name.data.toList := name_no h1 (by decide)
  have hv : (⟨strOf v.name.data.toList, v.weight⟩ : Vd) = v := by rw [strOf_self]
  unfold stepV
  rw [e, cut_is rest n1]
  simp only
  rw [cut_is _ n2]
  simp only
  rw [weightV_dec h2 h3, hv, if_pos ⟨trivial, trivial, h2, h⟩]
end Go.Proofs.YtoabdejoabfbeaaDoor
