/-
  The unit that is so many free ones on: plain.
-/
namespace Go.Proofs.Ytmoafaaeeanofaa
/-- how many of a list lie below -/
def cnt (l : List Int) (x : Int) : Int := (l.countP (fun y => decide (y < x)) : Nat)
/-- x is free, and so many free ones lie below it -/
def FreeP (l : List Int) (n x : Int) : Prop := x ∉ l ∧ x = n + cnt l x
theorem cnt_cons (y : Int) (l : List Int) (x : Int) : cnt (y :: l) x = cnt l x + if y < x then 1 else 0 := by
  unfold cnt
  rw [List.countP_cons]
  by_cases h : y < x <;> simp [h]
theorem cnt_nn (l : List Int) (x : Int) : 0 ≤ cnt l x ∧ cnt l x ≤ l.length := by
  unfold cnt
  have := List.countP_le_length (p := fun y => decide (y < x)) (l := l)
  omega
theorem cnt_succ : ∀ {l : List Int}, l.Nodup → ∀ x, cnt l (x + 1) = cnt l x + if x ∈ l then 1 else 0
  | [], _, x => by simp [cnt]
  | y :: l, h, x => by
    have h1 := List.nodup_cons.1 h
    rw [cnt_cons, cnt_cons, cnt_succ h1.2]
    by_cases hx : x = y
    · subst hx
      have : ¬ x ∈ l := h1.1
      simp [this, Int.lt_add_one_iff]
    · have hxy : (x ∈ y :: l) ↔ x ∈ l := by simp [hx]
      by_cases hm : x ∈ l
      · rw [if_pos hm, if_pos (hxy.2 hm)]
        by_cases hl : y < x
        · rw [if_pos hl, if_pos (by omega)] <;> omega
        · rw [if_neg hl, if_neg (by omega)] <;> omega
      · rw [if_neg hm, if_neg (fun h => hm (hxy.1 h))]
        by_cases hl : y < x
        · rw [if_pos hl, if_pos (by omega)] <;> omega
        · rw [if_neg hl, if_neg (by omega)]
/-- the rank of x among free ones does not fall -/
theorem rank_mono {l : List Int} (h : l.Nodup) (x : Int) : ∀ k : Nat, x - cnt l x ≤ x + k - cnt l (x + k)
  | 0 => by simp
  | k + 1 => by
    have h1 := rank_mono h x k
    have h2 := cnt_succ h (x + k)
    rw [show x + ((k + 1 : Nat) : Int) = x + k + 1 by omega, h2]
    split <;> omega
theorem free_one {l : List Int} (h : l.Nodup) {n x y : Int} (hx : FreeP l n x) (hy : FreeP l n y) : x = y := by
  have key : ∀ x y : Int, FreeP l n x → FreeP l n y → ¬ x < y := by
    intro x y hx hy hlt
    have h1 := cnt_succ h x
    rw [if_neg hx.1] at h1
    obtain ⟨k, hk⟩ : ∃ k : Nat, y = x + 1 + k := ⟨(y - x - 1).toNat, by omega⟩
    have h2 := rank_mono h (x + 1) k
    rw [← hk] at h2
    have := hx.2
    have := hy.2
    omega
  rcases Int.lt_trichotomy x y with h1 | h1 | h1
  · exact absurd h1 (key x y hx hy)
  · exact h1
  · exact absurd h1 (key y x hy hx)
theorem free_is {l : List Int} (h : l.Nodup) (n : Int) : ∃ x, FreeP l n x := by
  have key : ∀ (k : Nat) (z : Int), z - cnt l z ≤ n → n + l.length + 1 - z ≤ k → n ≤ z → ∃ x, FreeP l n x := by
    intro k
    induction k with
    | zero => intro z h1 h2 _; have := (cnt_nn l z).2; omega
    | succ k ih =>
      intro z h1 h2 h3
      have hs := cnt_succ h z
      by_cases hz : z ∈ l
      · rw [if_pos hz] at hs
        exact ih (z + 1) (by omega) (by omega) (by omega)
      · rw [if_neg hz] at hs
        by_cases he : z - cnt l z = n
        · exact ⟨z, hz, by omega⟩
        · exact ih (z + 1) (by omega) (by omega) (by omega)
  exact key (l.length + 1) n (by have := (cnt_nn l n).1; omega) (by omega) (by omega)
open Classical in
noncomputable def freeV (l : List Int) (n : Int) : Int := if h : ∃ x, FreeP l n x then choose h else 0
theorem freeV_spec {l : List Int} (h : l.Nodup) (n : Int) : FreeP l n (freeV l n) := by
  unfold freeV
  rw [dif_pos (free_is h n)]
  exact Classical.choose_spec (free_is h n)
theorem freeV_eq {l : List Int} (h : l.Nodup) {n x : Int} (hx : FreeP l n x) : freeV l n = x := free_one h (freeV_spec h n) hx
theorem cnt_perm {l l' : List Int} (h : l.Perm l') (x : Int) : cnt l x = cnt l' x := by unfold cnt; rw [h.countP_eq]
theorem free_perm {l l' : List Int} (h : l.Perm l') {n x : Int} (hx : FreeP l n x) : FreeP l' n x := ⟨fun hm => hx.1 (h.mem_iff.2 hm), by rw [← cnt_perm h]; exact hx.2⟩
/-- a draw; one that there is not is 0 -/
def drawV (draws : List Int) (j : Nat) : Int := draws.getD j 0
/-- the units that draws give -/
noncomputable def unitsL (total : Int) (draws : List Int) : Nat → List Int
  | 0 => []
  | j + 1 => unitsL total draws j ++ [freeV (unitsL total draws j) (drawV draws j % (total - j))]
theorem unitsL_length (total : Int) (draws : List Int) : ∀ j, (unitsL total draws j).length = j
  | 0 => rfl
  | j + 1 => by simp [unitsL, unitsL_length total draws j]
theorem unitsL_ok {total : Int} {draws : List Int} : ∀ {j : Nat}, (j : Int) ≤ total → (unitsL total draws j).Nodup ∧ ∀ x ∈ unitsL total draws j, 0 ≤ x ∧ x < total
  | 0, _ => ⟨List.nodup_nil, fun x hx => by cases hx⟩
  | j + 1, h => by
    obtain ⟨h1, h2⟩ := unitsL_ok (total := total) (draws := draws) (j := j) (by omega)
    have hf := freeV_spec h1 (drawV draws j % (total - j))
    have hb1 := Int.emod_nonneg (drawV draws j) (show total - j ≠ 0 by omega)
    have hb2 := Int.emod_lt_of_pos (drawV draws j) (show 0 < total - j by omega)
    have hc := cnt_nn (unitsL total draws j) (freeV (unitsL total draws j) (drawV draws j % (total - j)))
    rw [unitsL_length] at hc
    have he := hf.2
    simp only [unitsL]
    refine ⟨?_, fun x hx => ?_⟩
    · rw [List.nodup_append]
      refine ⟨h1, by simp, fun a ha b hb => ?_⟩
      rw [List.mem_singleton.1 hb]
      intro e
      exact hf.1 (e ▸ ha)
    · rcases List.mem_append.1 hx with hx | hx
      · exact h2 x hx
      · rw [List.mem_singleton.1 hx]; omega
/-- in a rising list: the first that is greater, and how many lie below -/
theorem sorted_free {s : List Int} {n u : Int} {a : Nat} (hs : s.Pairwise (· < ·)) (ha : a ≤ s.length) (hu : u = n + a) (hlow : ∀ i, i < a → s.getD i 0 < u) (hhigh : a < s.length → u < s.getD a 0) : FreeP s n u := by
  have hall : ∀ x ∈ s.drop a, u < x := by
    intro x hx
    have hlt : a < s.length := by
      rcases Nat.lt_or_ge a s.length with h | h
      · exact h
      · rw [List.drop_of_length_le h] at hx; cases hx
    have h0 := hhigh hlt
    rw [List.drop_eq_getElem_cons hlt] at hx
    have hd : (s.drop a).Pairwise (· < ·) := hs.drop
    rw [List.drop_eq_getElem_cons hlt] at hd
    have he : s.getD a 0 = s[a] := by simp [List.getD, hlt]
    rcases List.mem_cons.1 hx with rfl | hx
    · omega
    · have := (List.pairwise_cons.1 hd).1 x hx; omega
  have hlowm : ∀ x ∈ s.take a, x < u := by
    intro x hx
    obtain ⟨i, hi, rfl⟩ := List.mem_iff_getElem.1 hx
    have hi' : i < a := by simp at hi; omega
    have := hlow i hi'
    have he : s.getD i 0 = (s.take a)[i] := by
      rw [List.getElem_take]
      simp [List.getD, show i < s.length by omega]
    omega
  have hc : cnt s u = a := by
    unfold cnt
    conv => lhs; rw [← List.take_append_drop a s]
    rw [List.countP_append, List.countP_eq_length.2 (fun x hx => by simpa using hlowm x hx), List.countP_eq_zero.2 (fun x hx => by have := hall x hx; simp; omega), List.length_take]
    omega
  refine ⟨fun hm => ?_, by rw [hc]; exact hu⟩
  rw [← List.take_append_drop a s] at hm
  rcases List.mem_append.1 hm with hm | hm
  · have := hlowm u hm; omega
  · have := hall u hm; omega
theorem ins_sorted {s : List Int} {u : Int} {a : Nat} (hs : s.Pairwise (· < ·)) (ha : a ≤ s.length) (hlow : ∀ i, i < a → s.getD i 0 < u) (hhigh : a < s.length → u < s.getD a 0) : (s.take a ++ u :: s.drop a).Pairwise (· < ·) := by
  have hall : ∀ x ∈ s.drop a, u < x := by
    intro x hx
    have hlt : a < s.length := by
      rcases Nat.lt_or_ge a s.length with h | h
      · exact h
      · rw [List.drop_of_length_le h] at hx; cases hx
    have h0 := hhigh hlt
    rw [List.drop_eq_getElem_cons hlt] at hx
    have hd : (s.drop a).Pairwise (· < ·) := hs.drop
    rw [List.drop_eq_getElem_cons hlt] at hd
    have he : s.getD a 0 = s[a] := by simp [List.getD, hlt]
    rcases List.mem_cons.1 hx with rfl | hx
    · omega
    · have := (List.pairwise_cons.1 hd).1 x hx; omega
  have hlowm : ∀ x ∈ s.take a, x < u := by
    intro x hx
    obtain ⟨i, hi, rfl⟩ := List.mem_iff_getElem.1 hx
    have hi' : i < a := by simp at hi; omega
    have := hlow i hi'
    have he : s.getD i 0 = (s.take a)[i] := by
      rw [List.getElem_take]
      simp [List.getD, show i < s.length by omega]
    omega
  rw [List.pairwise_append]
  refine ⟨hs.take, List.pairwise_cons.2 ⟨hall, hs.drop⟩, fun x hx y hy => ?_⟩
  have h1 := hlowm x hx
  rcases List.mem_cons.1 hy with rfl | hy
  · exact h1
  · have := hall y hy; omega
theorem ins_perm (s : List Int) (u : Int) (a : Nat) : (s.take a ++ u :: s.drop a).Perm (s ++ [u]) := by
  have h1 : (s.take a ++ u :: s.drop a).Perm (u :: (s.take a ++ s.drop a)) := List.perm_middle
  rw [List.take_append_drop] at h1
  exact h1.trans (List.perm_append_singleton u s).symm
end Go.Proofs.Ytmoafaaeeanofaa
