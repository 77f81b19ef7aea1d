/-
  Any units come by some draws: plain.
-/
import Derived.Test.YtmoafaaeeanofaaSUnits2
namespace Go.Proofs.Ytmoafaaeeanofaa
theorem cnt_zero {l : List Int} (h : ∀ x ∈ l, 0 ≤ x) : cnt l 0 = 0 := by
  unfold cnt
  rw [List.countP_eq_zero.2 (fun x hx => by have := h x hx; simp; omega)]; rfl
theorem cnt_all {l : List Int} {t : Int} (h : ∀ x ∈ l, x < t) : cnt l t = l.length := by
  unfold cnt
  rw [List.countP_eq_length.2 (fun x hx => by have := h x hx; simp; omega)]
/-- where a unit that a list has not stands among the free ones -/
theorem rank_in {l : List Int} {t x : Int} (hn : l.Nodup) (h : ∀ y ∈ l, 0 ≤ y ∧ y < t) (hx : 0 ≤ x ∧ x < t) (hm : x ∉ l) : 0 ≤ x - cnt l x ∧ x - cnt l x < t - l.length := by
  constructor
  · have h1 := rank_mono hn 0 x.toNat
    rw [cnt_zero fun y hy => (h y hy).1, Int.toNat_of_nonneg hx.1, Int.zero_add] at h1
    omega
  · have h1 := rank_mono hn (x + 1) (t - (x + 1)).toNat
    rw [Int.toNat_of_nonneg (by omega), show x + 1 + (t - (x + 1)) = t by omega, cnt_all fun y hy => (h y hy).2, cnt_succ hn, if_neg hm] at h1
    omega
/-- the draws that give a list -/
def drawsFor (W : List Int) (k : Nat) : List Int := (List.range k).map fun j => W.getD j 0 - cnt (W.take j) (W.getD j 0)
theorem drawsFor_length (W : List Int) (k : Nat) : (drawsFor W k).length = k := by simp [drawsFor]
theorem drawsFor_succ (W : List Int) (k : Nat) : drawsFor W (k + 1) = drawsFor W k ++ [W.getD k 0 - cnt (W.take k) (W.getD k 0)] := by
  unfold drawsFor; rw [List.range_succ, List.map_append]; rfl
theorem drawsFor_at (W : List Int) (k j : Nat) (h : j < k) : drawV (drawsFor W k) j = W.getD j 0 - cnt (W.take j) (W.getD j 0) := by
  unfold drawV drawsFor; rw [List.getD_eq_getElem?_getD, List.getElem?_map, List.getElem?_range h]; rfl
theorem take_in {W : List Int} {t : Int} (h : ∀ y ∈ W, 0 ≤ y ∧ y < t) (j : Nat) : ∀ y ∈ W.take j, 0 ≤ y ∧ y < t := fun y hy => h y (List.mem_of_mem_take hy)
theorem at_new {W : List Int} (hn : W.Nodup) {j : Nat} (hj : j < W.length) : W.getD j 0 ∉ W.take j := fun hm => by
  have h1 := hn.sublist (List.take_sublist (j + 1) W)
  rw [take_succ_at hj] at h1
  exact (List.nodup_append.1 h1).2.2 _ hm _ (List.mem_singleton.2 rfl) rfl
theorem rank_at {W : List Int} {t : Int} (hn : W.Nodup) (h : ∀ y ∈ W, 0 ≤ y ∧ y < t) {j : Nat} (hj : j < W.length) : 0 ≤ W.getD j 0 - cnt (W.take j) (W.getD j 0) ∧ W.getD j 0 - cnt (W.take j) (W.getD j 0) < t - j := by
  have h1 := rank_in (hn.sublist (List.take_sublist j W)) (take_in h j) (h _ (getD_mem hj)) (at_new hn hj)
  rw [List.length_take_of_le (by omega)] at h1
  exact h1
theorem units_for {W : List Int} {t : Int} (hn : W.Nodup) (h : ∀ y ∈ W, 0 ≤ y ∧ y < t) : ∀ j : Nat, j ≤ W.length → unitsL t (drawsFor W W.length) j = W.take j
  | 0, _ => by simp [unitsL]
  | j + 1, hj => by
    have hr := rank_at hn h (show j < W.length by omega)
    show unitsL t (drawsFor W W.length) j ++ [freeV (unitsL t (drawsFor W W.length) j) (drawV (drawsFor W W.length) j % (t - j))] = _
    rw [units_for hn h j (by omega), drawsFor_at _ _ _ (by omega), Int.emod_eq_of_lt hr.1 hr.2, take_succ_at (by omega)]
    rw [freeV_eq (x := W.getD j 0) (hn.sublist (List.take_sublist j W)) ⟨at_new hn (by omega), by omega⟩]
theorem any_law {W : List Int} {t : Int} (hn : W.Nodup) (h : ∀ y ∈ W, 0 ≤ y ∧ y < t) (ht : 0 ≤ t ∧ t ≤ 4611686018427387903) (hl : W.length ≤ 64) : unitsV t W.length (drawsFor W W.length) = (0, W) := by
  have hle : (W.length : Int) ≤ t := by
    by_cases h0 : W.length = 0
    · omega
    · have hr := rank_at hn h (show W.length - 1 < W.length by omega)
      omega
  rw [unitsV_ok _ (by omega) (by omega), Int.toNat_natCast, units_for hn h _ (Nat.le_refl _), List.take_length]
theorem drawsFor_U64 {W : List Int} {t : Int} (hn : W.Nodup) (h : ∀ y ∈ W, 0 ≤ y ∧ y < t) (ht : t ≤ 4611686018427387903) : U64 (drawsFor W W.length) := fun x hx => by
  obtain ⟨j, hj, rfl⟩ := List.mem_map.1 hx
  have := rank_at hn h (List.mem_range.1 hj)
  omega
end Go.Proofs.Ytmoafaaeeanofaa
