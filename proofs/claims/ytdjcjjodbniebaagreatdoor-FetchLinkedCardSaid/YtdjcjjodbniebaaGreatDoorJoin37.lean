/-
  Texts joined: FRow5, FStepsH.
-/
import Derived.Test.YtdjcjjodbniebaaGreatDoorJoin36
namespace Go.Proofs.YtdjcjjodbniebaaGreatDoor
open Go.RowKit
set_option linter.unusedVariables false
set_option linter.unusedSimpArgs false
set_option maxRecDepth 10000
def qB (which : UInt8) : Nat → Bk
  | 0 => firstB
  | i + 1 => (childB (qB which i) [which]).1
theorem qB_ok (which : UInt8) : ∀ i, i ≤ 1000000 → BkOk (qB which i) ∧ checkB (qB which i) = 0 ∧ (qB which i).height = i
  | 0, _ => ⟨firstB_ok, firstB_check, rfl⟩
  | i + 1, h => by
    obtain ⟨h1, h2, h3⟩ := qB_ok which i (by omega)
    have e := childB_eq (d := [which]) h2 (by omega) (by simp)
    have h4 := childB_ok h1 [which]
    have h5 := child_check (d := [which]) h2 (by simp)
    refine ⟨h4, ?_, ?_⟩
    · show checkB (childB (qB which i) [which]).1 = 0
      rw [e]; exact h5
    · show (childB (qB which i) [which]).1.height = ((i + 1 : Nat) : Int)
      rw [e]
      show (qB which i).height + 1 = _
      rw [h3]; omega
theorem qB_linked (which : UInt8) (i : Nat) (hi : i ≤ 1000000) : linkedB (qB which (i + 1)) (qB which i) = 0 ∧ (qB which (i + 1)).parent = nq (qB which) i := by
  obtain ⟨h1, h2, h3⟩ := qB_ok which i hi
  have e := childB_eq (d := [which]) h2 (by omega) (by simp)
  have h5 := child_linked (d := [which]) h2 (by omega) (by simp)
  have e' : qB which (i + 1) = ⟨sha (bytesB (qB which i)), (qB which i).height + 1, [which]⟩ := by
    show (childB (qB which i) [which]).1 = _
    rw [e]
  rw [e']
  exact ⟨h5, rfl⟩
theorem rowL_qB (which : UInt8) : ∀ n i, rowL which n (qB which i) = (List.range n).map fun j => qB which (i + 1 + j)
  | 0, i => rfl
  | n + 1, i => by
    show qB which (i + 1) :: rowL which n (qB which (i + 1)) = _
    rw [rowL_qB which n (i + 1), List.range_succ_eq_map, List.map_cons, List.map_map]
    congr 1
    apply List.map_congr_left
    intro j _
    show qB which (i + 1 + 1 + j) = qB which (i + 1 + (j + 1))
    rw [show i + 1 + 1 + j = i + 1 + (j + 1) by omega]
theorem qB_step {i : Nat} {which : UInt8} {b : Bk} {a : List UInt8} {h : Int} (hb : qB which i = b) (hck : checkB b = 0) (hh : b.height < 9223372036854775807) (ha : sha (bytesB b) = a) (he : b.height + 1 = h) : qB which (i + 1) = ⟨a, h, [which]⟩ := by
  show (childB (qB which i) [which]).1 = _
  rw [hb, childB_eq (d := [which]) hck hh (by simp), ha, he]
theorem q5_0 : qB 5 0 = firstB := rfl
theorem q5_1 : qB 5 1 = ⟨nm0, 1, [5]⟩ := qB_step (i := 0) (b := firstB) rfl firstB_check (by decide) nm0_eq (by decide)
theorem q5_2 : qB 5 2 = ⟨nm5_1, 2, [5]⟩ := qB_step (i := 1) q5_1 (row_check (by decide)) (by decide) nm5_1_eq (by decide)
theorem q5_3 : qB 5 3 = ⟨nm5_2, 3, [5]⟩ := qB_step (i := 2) q5_2 (row_check (by decide)) (by decide) nm5_2_eq (by decide)
theorem q5_4 : qB 5 4 = ⟨nm5_3, 4, [5]⟩ := qB_step (i := 3) q5_3 (row_check (by decide)) (by decide) nm5_3_eq (by decide)
theorem q5_5 : qB 5 5 = ⟨nm5_4, 5, [5]⟩ := qB_step (i := 4) q5_4 (row_check (by decide)) (by decide) nm5_4_eq (by decide)
theorem q5_6 : qB 5 6 = ⟨nm5_5, 6, [5]⟩ := qB_step (i := 5) q5_5 (row_check (by decide)) (by decide) nm5_5_eq (by decide)
theorem q5_7 : qB 5 7 = ⟨nm5_6, 7, [5]⟩ := qB_step (i := 6) q5_6 (row_check (by decide)) (by decide) nm5_6_eq (by decide)
theorem q5_8 : qB 5 8 = ⟨nm5_7, 8, [5]⟩ := qB_step (i := 7) q5_7 (row_check (by decide)) (by decide) nm5_7_eq (by decide)
theorem q5_9 : qB 5 9 = ⟨nm5_8, 9, [5]⟩ := qB_step (i := 8) q5_8 (row_check (by decide)) (by decide) nm5_8_eq (by decide)
theorem q5_10 : qB 5 10 = ⟨nm5_9, 10, [5]⟩ := qB_step (i := 9) q5_9 (row_check (by decide)) (by decide) nm5_9_eq (by decide)
theorem q5_11 : qB 5 11 = ⟨nm5_10, 11, [5]⟩ := qB_step (i := 10) q5_10 (row_check (by decide)) (by decide) nm5_10_eq (by decide)
theorem q5_12 : qB 5 12 = ⟨nm5_11, 12, [5]⟩ := qB_step (i := 11) q5_11 (row_check (by decide)) (by decide) nm5_11_eq (by decide)
theorem q5_13 : qB 5 13 = ⟨nm5_12, 13, [5]⟩ := qB_step (i := 12) q5_12 (row_check (by decide)) (by decide) nm5_12_eq (by decide)
theorem q5_14 : qB 5 14 = ⟨nm5_13, 14, [5]⟩ := qB_step (i := 13) q5_13 (row_check (by decide)) (by decide) nm5_13_eq (by decide)
theorem q5_15 : qB 5 15 = ⟨nm5_14, 15, [5]⟩ := qB_step (i := 14) q5_14 (row_check (by decide)) (by decide) nm5_14_eq (by decide)
theorem q5_16 : qB 5 16 = ⟨nm5_15, 16, [5]⟩ := qB_step (i := 15) q5_15 (row_check (by decide)) (by decide) nm5_15_eq (by decide)
theorem q5_17 : qB 5 17 = ⟨nm5_16, 17, [5]⟩ := qB_step (i := 16) q5_16 (row_check (by decide)) (by decide) nm5_16_eq (by decide)
theorem q5_18 : qB 5 18 = ⟨nm5_17, 18, [5]⟩ := qB_step (i := 17) q5_17 (row_check (by decide)) (by decide) nm5_17_eq (by decide)
theorem q5_19 : qB 5 19 = ⟨nm5_18, 19, [5]⟩ := qB_step (i := 18) q5_18 (row_check (by decide)) (by decide) nm5_18_eq (by decide)
theorem q5_20 : qB 5 20 = ⟨nm5_19, 20, [5]⟩ := qB_step (i := 19) q5_19 (row_check (by decide)) (by decide) nm5_19_eq (by decide)
theorem q5_21 : qB 5 21 = ⟨nm5_20, 21, [5]⟩ := qB_step (i := 20) q5_20 (row_check (by decide)) (by decide) nm5_20_eq (by decide)
theorem q5_22 : qB 5 22 = ⟨nm5_21, 22, [5]⟩ := qB_step (i := 21) q5_21 (row_check (by decide)) (by decide) nm5_21_eq (by decide)
theorem q5_23 : qB 5 23 = ⟨nm5_22, 23, [5]⟩ := qB_step (i := 22) q5_22 (row_check (by decide)) (by decide) nm5_22_eq (by decide)
theorem q5_24 : qB 5 24 = ⟨nm5_23, 24, [5]⟩ := qB_step (i := 23) q5_23 (row_check (by decide)) (by decide) nm5_23_eq (by decide)
theorem q5_25 : qB 5 25 = ⟨nm5_24, 25, [5]⟩ := qB_step (i := 24) q5_24 (row_check (by decide)) (by decide) nm5_24_eq (by decide)
theorem q5_26 : qB 5 26 = ⟨nm5_25, 26, [5]⟩ := qB_step (i := 25) q5_25 (row_check (by decide)) (by decide) nm5_25_eq (by decide)
theorem q5_27 : qB 5 27 = ⟨nm5_26, 27, [5]⟩ := qB_step (i := 26) q5_26 (row_check (by decide)) (by decide) nm5_26_eq (by decide)
theorem q5_28 : qB 5 28 = ⟨nm5_27, 28, [5]⟩ := qB_step (i := 27) q5_27 (row_check (by decide)) (by decide) nm5_27_eq (by decide)
theorem q5_29 : qB 5 29 = ⟨nm5_28, 29, [5]⟩ := qB_step (i := 28) q5_28 (row_check (by decide)) (by decide) nm5_28_eq (by decide)
theorem q5_30 : qB 5 30 = ⟨nm5_29, 30, [5]⟩ := qB_step (i := 29) q5_29 (row_check (by decide)) (by decide) nm5_29_eq (by decide)
theorem q5_31 : qB 5 31 = ⟨nm5_30, 31, [5]⟩ := qB_step (i := 30) q5_30 (row_check (by decide)) (by decide) nm5_30_eq (by decide)
theorem q5_32 : qB 5 32 = ⟨nm5_31, 32, [5]⟩ := qB_step (i := 31) q5_31 (row_check (by decide)) (by decide) nm5_31_eq (by decide)
theorem q5_33 : qB 5 33 = ⟨nm5_32, 33, [5]⟩ := qB_step (i := 32) q5_32 (row_check (by decide)) (by decide) nm5_32_eq (by decide)
theorem q5_34 : qB 5 34 = ⟨nm5_33, 34, [5]⟩ := qB_step (i := 33) q5_33 (row_check (by decide)) (by decide) nm5_33_eq (by decide)
theorem q5_35 : qB 5 35 = ⟨nm5_34, 35, [5]⟩ := qB_step (i := 34) q5_34 (row_check (by decide)) (by decide) nm5_34_eq (by decide)
theorem q5_36 : qB 5 36 = ⟨nm5_35, 36, [5]⟩ := qB_step (i := 35) q5_35 (row_check (by decide)) (by decide) nm5_35_eq (by decide)
theorem q5_37 : qB 5 37 = ⟨nm5_36, 37, [5]⟩ := qB_step (i := 36) q5_36 (row_check (by decide)) (by decide) nm5_36_eq (by decide)
theorem q5_38 : qB 5 38 = ⟨nm5_37, 38, [5]⟩ := qB_step (i := 37) q5_37 (row_check (by decide)) (by decide) nm5_37_eq (by decide)
theorem q5_39 : qB 5 39 = ⟨nm5_38, 39, [5]⟩ := qB_step (i := 38) q5_38 (row_check (by decide)) (by decide) nm5_38_eq (by decide)
theorem q5_40 : qB 5 40 = ⟨nm5_39, 40, [5]⟩ := qB_step (i := 39) q5_39 (row_check (by decide)) (by decide) nm5_39_eq (by decide)
theorem n5_0 : nq (qB 5) 0 = nm0 := nm0_eq
theorem n5_1 : nq (qB 5) 1 = nm5_1 := by unfold nq; rw [q5_1]; exact nm5_1_eq
theorem n5_2 : nq (qB 5) 2 = nm5_2 := by unfold nq; rw [q5_2]; exact nm5_2_eq
theorem n5_3 : nq (qB 5) 3 = nm5_3 := by unfold nq; rw [q5_3]; exact nm5_3_eq
theorem n5_4 : nq (qB 5) 4 = nm5_4 := by unfold nq; rw [q5_4]; exact nm5_4_eq
theorem n5_5 : nq (qB 5) 5 = nm5_5 := by unfold nq; rw [q5_5]; exact nm5_5_eq
theorem n5_6 : nq (qB 5) 6 = nm5_6 := by unfold nq; rw [q5_6]; exact nm5_6_eq
theorem n5_7 : nq (qB 5) 7 = nm5_7 := by unfold nq; rw [q5_7]; exact nm5_7_eq
theorem n5_8 : nq (qB 5) 8 = nm5_8 := by unfold nq; rw [q5_8]; exact nm5_8_eq
theorem n5_9 : nq (qB 5) 9 = nm5_9 := by unfold nq; rw [q5_9]; exact nm5_9_eq
theorem n5_10 : nq (qB 5) 10 = nm5_10 := by unfold nq; rw [q5_10]; exact nm5_10_eq
theorem n5_11 : nq (qB 5) 11 = nm5_11 := by unfold nq; rw [q5_11]; exact nm5_11_eq
theorem n5_12 : nq (qB 5) 12 = nm5_12 := by unfold nq; rw [q5_12]; exact nm5_12_eq
theorem n5_13 : nq (qB 5) 13 = nm5_13 := by unfold nq; rw [q5_13]; exact nm5_13_eq
theorem n5_14 : nq (qB 5) 14 = nm5_14 := by unfold nq; rw [q5_14]; exact nm5_14_eq
theorem n5_15 : nq (qB 5) 15 = nm5_15 := by unfold nq; rw [q5_15]; exact nm5_15_eq
theorem n5_16 : nq (qB 5) 16 = nm5_16 := by unfold nq; rw [q5_16]; exact nm5_16_eq
theorem n5_17 : nq (qB 5) 17 = nm5_17 := by unfold nq; rw [q5_17]; exact nm5_17_eq
theorem n5_18 : nq (qB 5) 18 = nm5_18 := by unfold nq; rw [q5_18]; exact nm5_18_eq
theorem n5_19 : nq (qB 5) 19 = nm5_19 := by unfold nq; rw [q5_19]; exact nm5_19_eq
theorem n5_20 : nq (qB 5) 20 = nm5_20 := by unfold nq; rw [q5_20]; exact nm5_20_eq
theorem n5_21 : nq (qB 5) 21 = nm5_21 := by unfold nq; rw [q5_21]; exact nm5_21_eq
theorem n5_22 : nq (qB 5) 22 = nm5_22 := by unfold nq; rw [q5_22]; exact nm5_22_eq
theorem n5_23 : nq (qB 5) 23 = nm5_23 := by unfold nq; rw [q5_23]; exact nm5_23_eq
theorem n5_24 : nq (qB 5) 24 = nm5_24 := by unfold nq; rw [q5_24]; exact nm5_24_eq
theorem n5_25 : nq (qB 5) 25 = nm5_25 := by unfold nq; rw [q5_25]; exact nm5_25_eq
theorem n5_26 : nq (qB 5) 26 = nm5_26 := by unfold nq; rw [q5_26]; exact nm5_26_eq
theorem n5_27 : nq (qB 5) 27 = nm5_27 := by unfold nq; rw [q5_27]; exact nm5_27_eq
theorem n5_28 : nq (qB 5) 28 = nm5_28 := by unfold nq; rw [q5_28]; exact nm5_28_eq
theorem n5_29 : nq (qB 5) 29 = nm5_29 := by unfold nq; rw [q5_29]; exact nm5_29_eq
theorem n5_30 : nq (qB 5) 30 = nm5_30 := by unfold nq; rw [q5_30]; exact nm5_30_eq
theorem n5_31 : nq (qB 5) 31 = nm5_31 := by unfold nq; rw [q5_31]; exact nm5_31_eq
theorem n5_32 : nq (qB 5) 32 = nm5_32 := by unfold nq; rw [q5_32]; exact nm5_32_eq
theorem n5_33 : nq (qB 5) 33 = nm5_33 := by unfold nq; rw [q5_33]; exact nm5_33_eq
theorem n5_34 : nq (qB 5) 34 = nm5_34 := by unfold nq; rw [q5_34]; exact nm5_34_eq
theorem n5_35 : nq (qB 5) 35 = nm5_35 := by unfold nq; rw [q5_35]; exact nm5_35_eq
theorem n5_36 : nq (qB 5) 36 = nm5_36 := by unfold nq; rw [q5_36]; exact nm5_36_eq
theorem n5_37 : nq (qB 5) 37 = nm5_37 := by unfold nq; rw [q5_37]; exact nm5_37_eq
theorem n5_38 : nq (qB 5) 38 = nm5_38 := by unfold nq; rw [q5_38]; exact nm5_38_eq
theorem n5_39 : nq (qB 5) 39 = nm5_39 := by unfold nq; rw [q5_39]; exact nm5_39_eq
theorem n5_40 : nq (qB 5) 40 = nm5_40 := by unfold nq; rw [q5_40]; exact nm5_40_eq
theorem n5_all : (List.range 41).map (nq (qB 5)) = names5 := by
  show [nq (qB 5) 0, nq (qB 5) 1, nq (qB 5) 2, nq (qB 5) 3, nq (qB 5) 4, nq (qB 5) 5, nq (qB 5) 6, nq (qB 5) 7, nq (qB 5) 8, nq (qB 5) 9, nq (qB 5) 10, nq (qB 5) 11, nq (qB 5) 12, nq (qB 5) 13, nq (qB 5) 14, nq (qB 5) 15, nq (qB 5) 16, nq (qB 5) 17, nq (qB 5) 18, nq (qB 5) 19, nq (qB 5) 20, nq (qB 5) 21, nq (qB 5) 22, nq (qB 5) 23, nq (qB 5) 24, nq (qB 5) 25, nq (qB 5) 26, nq (qB 5) 27, nq (qB 5) 28, nq (qB 5) 29, nq (qB 5) 30, nq (qB 5) 31, nq (qB 5) 32, nq (qB 5) 33, nq (qB 5) 34, nq (qB 5) 35, nq (qB 5) 36, nq (qB 5) 37, nq (qB 5) 38, nq (qB 5) 39, nq (qB 5) 40] = _
  rw [n5_0, n5_1, n5_2, n5_3, n5_4, n5_5, n5_6, n5_7, n5_8, n5_9, n5_10, n5_11, n5_12, n5_13, n5_14, n5_15, n5_16, n5_17, n5_18, n5_19, n5_20, n5_21, n5_22, n5_23, n5_24, n5_25, n5_26, n5_27, n5_28, n5_29, n5_30, n5_31, n5_32, n5_33, n5_34, n5_35, n5_36, n5_37, n5_38, n5_39, n5_40]
  rfl
theorem q5_row : QRow (qB 5) 40 := by
  refine ⟨fun i hi => qB_ok 5 i (by omega), fun i hi => qB_linked 5 i (by omega), ?_⟩
  have h := names5_nodup
  rw [← n5_all, List.pairwise_map, List.pairwise_iff_getElem] at h
  have key : ∀ i j, i < j → j ≤ 40 → nq (qB 5) i ≠ nq (qB 5) j := fun i j hij hj => by
    have := h i j (by simp; omega) (by simp; omega) hij
    simpa using this
  intro i j hi hj e
  rcases Nat.lt_trichotomy i j with h1 | h1 | h1
  · exact absurd e (key i j h1 hj)
  · exact h1
  · exact absurd e.symm (key j i h1 hi)
theorem QRow.mono {q : Nat → Bk} {m n : Nat} (h : QRow q n) (hm : m ≤ n) : QRow q m :=
  ⟨fun i hi => h.ok i (by omega), fun i hi => h.linked i (by omega), fun i j hi hj => h.inj i j (by omega) (by omega)⟩
end Go.Proofs.YtdjcjjodbniebaaGreatDoor
namespace Go.Proofs.YtdjcjjodbniebaaGreatDoor
open Go.RowKit
set_option linter.unusedVariables false
set_option linter.unusedSimpArgs false
set_option maxRecDepth 10000
theorem own_of_blk {w : World} {base g e size n : Nat} {cs : Array Value} (h : Blk w g e cs) (hb : base ≤ g) (hs : cs.size = n * size) (hn : n ≤ maxLen) : w.ownsRow base e size (.slice (some ⟨g, 0, none⟩) n n) n cs.toList := by
  refine ⟨by simpa using hs, .inr ⟨g, n, cs, rfl, hb, h, Nat.le_refl _, hn, hs, ?_⟩⟩
  rw [List.take_of_length_le (by simp; omega)]
theorem own_caps {w : World} {base e size n c : Nat} {A : Option Addr} {xs : List Value} (h : w.ownsRow base e size (.slice A n c) n xs) : n ≤ c ∧ c ≤ 9223372036854775807 := by
  rcases h.2 with ⟨e, h0⟩ | ⟨g, cap, cur, e, _, _, hn, hm, _⟩
  · injection e with e1 e2 e3
    omega
  · injection e with e1 e2 e3
    unfold maxLen at hm
    omega
theorem flat_len : ∀ (xs : List (Bk × Value)), (∀ x ∈ xs, x.1.parent.length = 32) → (flat xs).length = xs.length * 34
  | [], _ => rfl
  | y :: ys, h => by
    show (bkv y.1 y.2 ++ flat ys).length = _
    rw [List.length_append, bkv_len (h y (by simp)), flat_len ys fun x hx => h x (by simp [hx]), List.length_cons]
    omega
theorem flat_drop : ∀ (r : Nat) (xs : List (Bk × Value)), (∀ x ∈ xs, x.1.parent.length = 32) → ∀ j, (flat (xs.drop r))[j]? = (flat xs)[r * 34 + j]? ∨ xs.length < r
  | 0, xs, _, j => .inl (by simp)
  | r + 1, [], _, j => .inr (by simp)
  | r + 1, y :: ys, h, j => by
    rcases flat_drop r ys (fun x hx => h x (by simp [hx])) j with h1 | h1
    · refine .inl ?_
      show (flat (ys.drop r))[j]? = (bkv y.1 y.2 ++ flat ys)[(r + 1) * 34 + j]?
      have hl : (bkv y.1 y.2).length = 34 := bkv_len (h y (by simp))
      rw [h1, List.getElem?_append_right (by omega), hl, show (r + 1) * 34 + j - 34 = r * 34 + j by omega]
    · exact .inr (by simp; omega)
theorem BksR.drop {w : World} {b o n c : Nat} {bs : List Bk} (h : BksR w (.slice (some ⟨b, o, none⟩) n c) bs) {r : Nat} (hr : r < bs.length) : BksR w (.slice (some ⟨b, o + r * 34, none⟩) (n - r) (c - r)) (bs.drop r) := by
  obtain ⟨A, c', xs, e, hxm, hrd, hc1, hc2, hxo⟩ := h
  injection e with e1 e2 e3
  subst e1 e2 e3
  have hxl : xs.length = bs.length := by rw [← hxm, List.length_map]
  have hp : ∀ x ∈ xs, x.1.parent.length = 32 := fun x hx => (hxo x hx).1.len
  refine ⟨some ⟨b, o + r * 34, none⟩, c - r, xs.drop r, by rw [List.length_drop], by rw [List.map_drop, hxm], ?_, by rw [List.length_drop]; omega, by omega, fun x hx => hxo x (List.mem_of_mem_drop hx)⟩
  obtain ⟨b', o', e, hb, hc⟩ := hrd.cells (by omega)
  injection e with e
  injection e with e1 e2
  subst e1 e2
  refine ⟨?_, fun _ => ⟨b, o + r * 34, rfl, hb, fun j v hj => ?_⟩⟩
  · rw [flat_len _ fun x hx => hp x (List.mem_of_mem_drop hx), List.length_drop, List.length_drop, hxl]
  · rcases flat_drop r xs hp j with h1 | h1
    · rw [h1] at hj
      rw [show o + r * 34 + j = o + (r * 34 + j) by omega]
      exact hc _ _ hj
    · omega
/-- a block's row, and the others behind it -/
theorem app_first {v1 wA : World} {g : Nat} {fv : Value} {b0 : Bk} (kA : Below v1.heap.size v1 wA) (hg : Blk wA g 29 (bkv b0 fv).toArray) (hge : v1.heap.size ≤ g) (hb0 : BkOk b0) (hd : RdB v1 fv b0.data) {lv : Value} {bs : List Bk} (hl : BksR v1 lv bs) (hb : bs.length ≤ 1000) {ty : Nat} {k : Kont}
    (hk : ∀ v' w', BksR w' v' (b0 :: bs) → Below v1.heap.size v1 w' → wA.grownBy w' (some g) → k v' w') : resE Tryz.prog (appendR Tryz.prog 24 24 ty (.slice (some ⟨g, 0, none⟩) 1 1) lv wA) k := by
  obtain ⟨A, c, xs, rfl, hxm, hrd, hc1, hc2, hxo⟩ := hl
  have h34 : (bkv b0 fv).length = 34 := bkv_len hb0.len
  have hown : wA.ownsRow v1.heap.size 29 34 (.slice (some ⟨g, 0, none⟩) 1 1) 1 (bkv b0 fv) := own_of_blk hg hge (by rw [List.size_toArray]; exact h34) (by decide)
  have h1 : allOne (flat xs) = true := allOne_of fun v hv => by
    unfold flat at hv
    obtain ⟨x, hx, hv⟩ := List.mem_flatMap.1 hv
    obtain ⟨A', c', e, _⟩ := (hxo x hx).2
    have := bkv_one x.1 A' x.1.data.length c'
    rw [← e] at this
    exact allOne_mem this v hv
  refine appendE v1.heap.size 29 34 64 Tryz.underlying24 el29 hown (hrd.keep kA) h1 (by unfold maxLen; omega) (by omega) kA.size ?_
  intro v' w' hr' hg' hb'
  have kB : Below v1.heap.size v1 w' := kA.grown hg' kA.size (fun k hk => (hown.lt k hk).1)
  refine hk v' w' ?_ kB hg'
  obtain ⟨-, A', c', rfl⟩ := own_sl hr'
  have hcp := own_caps hr'
  have e1 : 1 + bs.length = (b0 :: bs).length := by simp; omega
  refine ⟨A', c', (b0, fv) :: xs, by rw [e1], by simp [hxm], ?_, by rw [← e1]; exact hcp.1, hcp.2, ?_⟩
  · rw [← e1]
    exact Rd.of_own hr'
  · intro x hx
    rcases List.mem_cons.1 hx with rfl | hx
    · exact ⟨hb0, hd.keep kB⟩
    · exact ⟨(hxo x hx).1, (hxo x hx).2.keep kB⟩
theorem rd_blockQ {w : World} {b o : Nat} {Q : Value → List UInt8 → Prop} {xs : List (Bk × Value)} {bs : List Bk} (hm : xs.map Prod.fst = bs) (hok : ∀ x ∈ xs, BkOk x.1 ∧ Q x.2 x.1.data) (hc : ∀ j v, (flat xs)[j]? = some v → w.cell? ⟨b, o + j, none⟩ = some v) {i : Nat} (hi : i < bs.length) :
    ∃ dv, BkOk bs[i] ∧ Q dv bs[i].data ∧ ∀ j v, (bkv bs[i] dv)[j]? = some v → w.cell? ⟨b, o + (34 * i + j), none⟩ = some v := by
  obtain ⟨dv, hx⟩ := map_at hm hi
  have hmem := List.mem_of_getElem? hx
  exact ⟨dv, (hok _ hmem).1, (hok _ hmem).2, fun j v hj => hc _ _ (flat_at xs (fun x hx => (hok x hx).1.len) i _ hx j v hj)⟩
/-- a block's row, and the others behind it -/
theorem app_firstQ {v1 wA : World} {g : Nat} {fv : Value} {b0 : Bk} (kA : Below v1.heap.size v1 wA) (hg : Blk wA g 29 (bkv b0 fv).toArray) (hge : v1.heap.size ≤ g) (hb0 : BkOk b0) {A : Option Addr} {c n : Nat} {bs : List Bk} {xs : List (Bk × Value)} (hxm : xs.map Prod.fst = bs) (hn : bs.length = n) (hrd : Rd v1 34 A n (flat xs)) (hxo : ∀ x ∈ xs, BkOk x.1 ∧ RdB v1 x.2 x.1.data) (hb : n ≤ 1000)
    (Q : Value → List UInt8 → Prop) (hQ0 : Q fv b0.data) (hQ : ∀ x ∈ xs, Q x.2 x.1.data) {ty : Nat} {k : Kont}
    (hk : ∀ v' w' b o c', v' = .slice (some ⟨b, o, none⟩) (n + 1) c' → b < w'.heap.size → (∀ i (hi : i < (b0 :: bs).length), ∃ dv, BkOk (b0 :: bs)[i] ∧ Q dv (b0 :: bs)[i].data ∧ ∀ W, Below w'.heap.size w' W → readCells W ⟨b, o + i * 34, none⟩ 0 34 = some (bkv (b0 :: bs)[i] dv)) → Below v1.heap.size v1 w' → wA.grownBy w' (some g) → k v' w') : resE Tryz.prog (appendR Tryz.prog 24 24 ty (.slice (some ⟨g, 0, none⟩) 1 1) (.slice A n c) wA) k := by
  subst hn
  have h34 : (bkv b0 fv).length = 34 := bkv_len hb0.len
  have hown : wA.ownsRow v1.heap.size 29 34 (.slice (some ⟨g, 0, none⟩) 1 1) 1 (bkv b0 fv) := own_of_blk hg hge (by rw [List.size_toArray]; exact h34) (by decide)
  have h1 : allOne (flat xs) = true := allOne_of fun v hv => by
    unfold flat at hv
    obtain ⟨x, hx, hv⟩ := List.mem_flatMap.1 hv
    obtain ⟨A', c', e, _⟩ := (hxo x hx).2
    have := bkv_one x.1 A' x.1.data.length c'
    rw [← e] at this
    exact allOne_mem this v hv
  refine appendE v1.heap.size 29 34 64 Tryz.underlying24 el29 hown (hrd.keep kA) h1 (by unfold maxLen; omega) (by omega) kA.size ?_
  intro v' w' hr' hg' hb'
  have kB : Below v1.heap.size v1 w' := kA.grown hg' kA.size (fun k hk => (hown.lt k hk).1)
  obtain ⟨-, A', c', rfl⟩ := own_sl hr'
  obtain ⟨b, o, rfl, hbl, hcs⟩ := (Rd.of_own hr').cells (by omega)
  refine hk _ w' b o c' (by rw [Nat.add_comm]) hbl ?_ kB hg'
  intro i hi
  have hm : ((b0, fv) :: xs).map Prod.fst = b0 :: bs := by simp [hxm]
  obtain ⟨dv, h1, h2, h3⟩ := rd_blockQ (w := w') (b := b) (o := o) (Q := Q) hm (fun x hx => by
    rcases List.mem_cons.1 hx with rfl | hx
    · exact ⟨hb0, hQ0⟩
    · exact ⟨(hxo x hx).1, hQ x hx⟩) hcs hi
  refine ⟨dv, h1, h2, fun W hW => readCells_cells 34 0 _ (bkv_len h1.len) (fun j v hj => ?_)⟩
  rw [show o + i * 34 + 0 + j = o + (34 * i + j) by omega]
  exact (hW.cell (p := ⟨b, o + (34 * i + j), none⟩) hbl).trans (h3 j v hj)
/-- how many answers are needed -/
theorem need_lt {d t i : Nat} (ht : 1 ≤ t) (hi : i < (d + t - 1) / t) : i * t < d := by
  have h1 := Nat.div_mul_le_self (d + t - 1) t
  have h2 : (i + 1) * t ≤ (d + t - 1) / t * t := Nat.mul_le_mul_right _ hi
  have h3 : (i + 1) * t = i * t + t := Nat.succ_mul _ _
  omega
theorem need_ge {d t : Nat} (ht : 1 ≤ t) : d ≤ (d + t - 1) / t * t := by
  have h1 := Nat.div_add_mod (d + t - 1) t
  have h2 := Nat.mod_lt (d + t - 1) (show 0 < t by omega)
  rw [Nat.mul_comm] at h1
  omega
theorem need_small {d t : Nat} (ht : 1 ≤ t) (hd : 1 ≤ d) : (d + t - 1) / t ≤ d := by
  rw [Nat.div_le_iff_le_mul_add_pred (by omega)]
  have : d ≤ t * d := Nat.le_mul_of_pos_left d (by omega)
  omega
theorem row_at {n i : Nat} (hi : i < n) : (rowL 5 n firstB)[i]? = some (qB 5 (i + 1)) := by
  have h := rowL_qB 5 n 0
  rw [show qB 5 0 = firstB from rfl] at h
  rw [h, List.getElem?_map, List.getElem?_range hi]
  show some (qB 5 (0 + 1 + i)) = _
  rw [show 0 + 1 + i = i + 1 by omega]
theorem row_len (n : Nat) : (rowL 5 n firstB).length = n := by
  have h := rowL_qB 5 n 0
  rw [show qB 5 0 = firstB from rfl] at h
  rw [h]; simp
theorem row_drop {m r : Nat} (hr : r < m) : (topL (qB 5) m (m - r)).reverse = (rowL 5 m firstB).drop r := by
  apply List.ext_getElem?
  intro i
  rw [List.getElem?_drop]
  by_cases hi : i < m - r
  · rw [row_at (by omega), List.getElem?_reverse (by rw [topL_len]; exact hi), topL_len]
    unfold topL
    rw [List.getElem?_map, List.getElem?_range (by omega)]
    show some (qB 5 (m - (m - r - 1 - i))) = _
    rw [show m - (m - r - 1 - i) = r + i + 1 by omega]
  · rw [List.getElem?_eq_none (by rw [List.length_reverse, topL_len]; omega), List.getElem?_eq_none (by rw [row_len]; omega)]
theorem cont_steps {m h : Nat} (h1 : 1 ≤ h) (hm : h ≤ m) {t : UInt8} (ht : 1 ≤ t.toNat) (ht2 : t.toNat ≤ 16) : contL (rowL 5 m firstB) (h - 1) t 255 [] = (List.range (min t.toNat (h + 1))).map fun j => bytesB (qB 5 (h - j)) := by
  unfold contL contN
  rw [show t.toNat % 20 = t.toNat by omega, show h - 1 + 2 = h + 1 by omega]
  apply List.map_congr_left
  intro j hj
  have hj' := List.mem_range.1 hj
  unfold contX
  have h255 : (255 : UInt8).toNat = 255 := rfl
  rw [if_neg (by omega)]
  split
  · rw [List.getD_eq_getElem?_getD, row_at (by omega)]
    show bytesB (qB 5 (h - 1 - j + 1)) = _
    rw [show h - 1 - j + 1 = h - j by omega]
  · rw [show h - j = 0 by omega]
    rfl
theorem named_q {q : Nat → Bk} {m i : Nat} (hq : QRow q m) (hi : i ≤ m) : (idB (q i)).1 = nq q i := idB_eq (hq.ok i hi).2.1 rfl
end Go.Proofs.YtdjcjjodbniebaaGreatDoor
