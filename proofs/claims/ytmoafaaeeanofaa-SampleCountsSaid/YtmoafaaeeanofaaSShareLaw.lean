/-
  No one has more slots than units: plain; draws that count alike.
-/
import Derived.Test.YtmoafaaeeanofaaSAnyLaw
import Derived.Test.YtmoafaaeeanofaaSSlots
namespace Go.Proofs.Ytmoafaaeeanofaa
theorem len_in {l : List Int} {a b : Int} (hn : l.Nodup) (h : ∀ x ∈ l, a ≤ x ∧ x < b) (hab : a ≤ b) : (l.length : Int) ≤ b - a := by
  have h1 := rank_mono hn a (b - a).toNat
  have h0 : cnt l a = 0 := by
    unfold cnt
    rw [List.countP_eq_zero.2 (fun x hx => by have := h x hx; simp; omega)]; rfl
  rw [Int.toNat_of_nonneg (by omega), show a + (b - a) = b by omega, cnt_all fun y hy => (h y hy).2, h0] at h1
  omega
theorem ownF_find {l : List Int} (hw : okWs l l.length) : ∀ (n i : Nat) (r : Int), i + n = l.length → 0 ≤ r → wS l i + r < wS l l.length →
    ∃ j : Nat, j < l.length ∧ ownF r (l.drop i) i = j ∧ wS l j ≤ wS l i + r ∧ wS l i + r < wS l (j + 1)
  | 0, i, r, hn, hr, hu => by
    obtain rfl : i = l.length := by omega
    omega
  | n + 1, i, r, hn, hr, hu => by
    have hi : i < l.length := by omega
    have hst : wS l (i + 1) = wS l i + l.getD i 0 := rfl
    rw [ownF_at hi]
    by_cases hq : r < l.getD i 0
    · rw [if_pos hq]
      exact ⟨i, hi, rfl, by omega, by rw [hst]; omega⟩
    · rw [if_neg hq]
      have h := ownF_find hw n (i + 1) (r - l.getD i 0) (by omega) (by omega) (by rw [hst]; omega)
      rw [hst, show wS l i + l.getD i 0 + (r - l.getD i 0) = wS l i + r by omega] at h
      exact h
theorem wS_lt {l : List Int} (hw : okWs l l.length) : ∀ (j i : Nat), i < j → j ≤ l.length → wS l i < wS l j
  | 0, i, h, _ => by omega
  | j + 1, i, h, hj => by
    have hst : wS l (j + 1) = wS l j + l.getD j 0 := rfl
    have h1 := (hw j (by omega)).1
    by_cases hij : i = j
    · subst hij; omega
    · have := wS_lt hw j i (by omega) (by omega); omega
theorem own_is {l : List Int} (hok : okAll l) {u : Int} (hu : 0 ≤ u ∧ u < wsum l) : ∃ j : Nat, j < l.length ∧ ownF u l 0 = j ∧ wS l j ≤ u ∧ u < wS l (j + 1) := by
  rw [(wsum_ok hok).1] at hu
  have h := ownF_find hok.2.2 l.length 0 u (by omega) hu.1 (by rw [show wS l 0 = 0 from rfl]; omega)
  rw [List.drop_zero, show wS l 0 = 0 from rfl, Int.zero_add] at h
  exact h
/-- how often a number stands in a list -/
def cntOf (v : Nat) (s : List Int) : Int := (s.countP (fun x => decide (x = (v : Int))) : Nat)
theorem share_law {l us : List Int} (hok : okAll l) (hn : us.Nodup) (hin : ∀ x ∈ us, 0 ≤ x ∧ x < wsum l) {v : Nat} (hv : v < l.length) : cntOf v (us.map fun u => ownF u l 0) ≤ l.getD v 0 := by
  unfold cntOf
  rw [List.countP_map, List.countP_eq_length_filter]
  have hst : wS l (v + 1) = wS l v + l.getD v 0 := rfl
  have hlt := wS_lt hok.2.2 (v + 1) v (by omega) (by omega)
  have h := len_in (a := wS l v) (b := wS l (v + 1)) (hn.sublist (List.filter_sublist (p := (fun x => decide (x = (v : Int))) ∘ fun u => ownF u l 0))) (fun x hx => by
    obtain ⟨hx1, hx2⟩ := List.mem_filter.1 hx
    have hx3 : ownF x l 0 = v := by simpa using hx2
    obtain ⟨j, hj, he, h1, h2⟩ := own_is hok (hin x hx1)
    obtain rfl : j = v := by omega
    exact ⟨h1, h2⟩) (by omega)
  omega
theorem own_range {l us : List Int} (hok : okAll l) (hin : ∀ x ∈ us, 0 ≤ x ∧ x < wsum l) : ∀ x ∈ us.map (fun u => ownF u l 0), 0 ≤ x ∧ x < l.length := fun x hx => by
  obtain ⟨u, hu, rfl⟩ := List.mem_map.1 hx
  obtain ⟨j, hj, he, _⟩ := own_is hok (hin u hu)
  omega
theorem unitsL_congr {t : Int} {a b : List Int} : ∀ {j : Nat}, (∀ i : Nat, i < j → drawV a i % (t - i) = drawV b i % (t - i)) → unitsL t a j = unitsL t b j
  | 0, _ => rfl
  | j + 1, h => by
    show unitsL t a j ++ _ = unitsL t b j ++ _
    rw [unitsL_congr fun i hi => h i (by omega), h j (by omega)]
theorem unitsV_congr {t k : Int} {a b : List Int} (h : ∀ i : Nat, (i : Int) < k → drawV a i % (t - i) = drawV b i % (t - i)) : unitsV t k a = unitsV t k b := by
  by_cases h1 : t < 0 ∨ 4611686018427387903 < t ∨ k < 0 ∨ 64 < k
  · rw [unitsV_bad _ h1, unitsV_bad _ h1]
  · by_cases h2 : t < k
    · rw [unitsV_few _ h1 h2, unitsV_few _ h1 h2]
    · rw [unitsV_ok _ h1 h2, unitsV_ok _ h1 h2, unitsL_congr fun i hi => h i (by omega)]
theorem slotsV_congr {l : List Int} {k : Int} {a b : List Int} (h : unitsV (wsum l) k a = unitsV (wsum l) k b) : slotsV l k a = slotsV l k b := by
  unfold slotsV; rw [h]
def smallL (t : Int) (ds : List Int) (k : Nat) : List Int := (List.range k).map fun j => drawV ds j % (t - j)
theorem smallL_length (t : Int) (ds : List Int) (k : Nat) : (smallL t ds k).length = k := by simp [smallL]
theorem smallL_succ (t : Int) (ds : List Int) (k : Nat) : smallL t ds (k + 1) = smallL t ds k ++ [drawV ds k % (t - k)] := by
  unfold smallL; rw [List.range_succ, List.map_append]; rfl
theorem small_at (t : Int) (ds more : List Int) {k i : Nat} (h : i < k) : drawV (smallL t ds k ++ more) i = drawV ds i % (t - i) := by
  unfold drawV
  rw [List.getD_eq_getElem?_getD, List.getElem?_append_left (by rw [smallL_length]; exact h)]
  unfold smallL
  rw [List.getElem?_map, List.getElem?_range h]; rfl
theorem small_units {t : Int} {ds more : List Int} {k : Nat} : unitsV t k (smallL t ds k ++ more) = unitsV t k ds := unitsV_congr fun i hi => by
  rw [small_at t ds more (by omega), Int.emod_emod]
end Go.Proofs.Ytmoafaaeeanofaa
