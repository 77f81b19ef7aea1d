/-
  Texts joined: FNames5, FStepsL, FRow5.
-/
import Derived.Test.YtdjcjjodbniebaaGreatDoorJoin36
namespace Go.Proofs.YtdjcjjodbniebaaGreatDoor
open Go.RowKit
def nm5_1 : List UInt8 := [198, 35, 250, 248, 7, 242, 130, 0, 36, 149, 165, 250, 171, 104, 207, 222, 240, 68, 174, 154, 191, 192, 39, 169, 174, 193, 2, 217, 20, 115, 229, 55]
theorem nm5_1_eq : sha (bytesB ⟨nm0, 1, [5]⟩) = nm5_1 := by decide +kernel
def nm5_2 : List UInt8 := [225, 164, 181, 131, 76, 22, 240, 158, 102, 27, 125, 95, 96, 117, 10, 96, 170, 226, 136, 78, 27, 195, 47, 89, 45, 147, 199, 27, 104, 25, 191, 155]
theorem nm5_2_eq : sha (bytesB ⟨nm5_1, 2, [5]⟩) = nm5_2 := by decide +kernel
def nm5_3 : List UInt8 := [150, 98, 236, 186, 60, 227, 90, 23, 136, 161, 103, 181, 120, 130, 127, 170, 127, 68, 56, 177, 115, 85, 65, 71, 193, 81, 251, 25, 156, 205, 40, 251]
theorem nm5_3_eq : sha (bytesB ⟨nm5_2, 3, [5]⟩) = nm5_3 := by decide +kernel
def nm5_4 : List UInt8 := [112, 112, 162, 68, 124, 229, 7, 54, 40, 0, 255, 90, 208, 162, 109, 88, 210, 120, 221, 61, 22, 212, 48, 211, 203, 99, 217, 35, 177, 16, 193, 76]
theorem nm5_4_eq : sha (bytesB ⟨nm5_3, 4, [5]⟩) = nm5_4 := by decide +kernel
def nm5_5 : List UInt8 := [202, 190, 167, 62, 67, 198, 18, 15, 171, 176, 95, 148, 1, 133, 69, 200, 17, 169, 58, 117, 183, 1, 89, 218, 230, 40, 42, 16, 43, 125, 59, 44]
theorem nm5_5_eq : sha (bytesB ⟨nm5_4, 5, [5]⟩) = nm5_5 := by decide +kernel
def nm5_6 : List UInt8 := [108, 213, 149, 244, 22, 44, 211, 185, 203, 162, 5, 195, 236, 117, 245, 202, 36, 53, 224, 150, 83, 79, 47, 30, 121, 96, 217, 94, 140, 119, 234, 33]
theorem nm5_6_eq : sha (bytesB ⟨nm5_5, 6, [5]⟩) = nm5_6 := by decide +kernel
def nm5_7 : List UInt8 := [74, 33, 164, 5, 96, 107, 243, 25, 245, 229, 230, 90, 193, 7, 255, 174, 239, 246, 29, 206, 141, 8, 93, 186, 2, 56, 117, 24, 63, 165, 63, 141]
theorem nm5_7_eq : sha (bytesB ⟨nm5_6, 7, [5]⟩) = nm5_7 := by decide +kernel
def nm5_8 : List UInt8 := [90, 106, 147, 137, 184, 61, 202, 188, 10, 87, 140, 117, 169, 169, 80, 42, 210, 54, 63, 155, 89, 220, 175, 95, 170, 172, 239, 184, 2, 52, 253, 49]
theorem nm5_8_eq : sha (bytesB ⟨nm5_7, 8, [5]⟩) = nm5_8 := by decide +kernel
def nm5_9 : List UInt8 := [127, 211, 232, 167, 89, 94, 28, 189, 44, 86, 105, 119, 209, 64, 10, 116, 102, 68, 138, 185, 164, 148, 79, 186, 116, 232, 139, 23, 112, 173, 55, 131]
theorem nm5_9_eq : sha (bytesB ⟨nm5_8, 9, [5]⟩) = nm5_9 := by decide +kernel
def nm5_10 : List UInt8 := [205, 30, 202, 142, 42, 225, 253, 128, 224, 69, 25, 134, 212, 134, 186, 111, 87, 239, 130, 189, 77, 105, 174, 198, 156, 69, 194, 158, 112, 109, 252, 118]
theorem nm5_10_eq : sha (bytesB ⟨nm5_9, 10, [5]⟩) = nm5_10 := by decide +kernel
def nm5_11 : List UInt8 := [253, 229, 223, 138, 45, 230, 200, 132, 207, 105, 77, 157, 107, 199, 77, 27, 128, 252, 124, 191, 139, 109, 177, 188, 19, 140, 13, 156, 190, 115, 124, 130]
theorem nm5_11_eq : sha (bytesB ⟨nm5_10, 11, [5]⟩) = nm5_11 := by decide +kernel
def nm5_12 : List UInt8 := [212, 234, 179, 131, 221, 141, 111, 39, 174, 75, 207, 121, 221, 216, 197, 248, 58, 236, 204, 95, 91, 83, 173, 221, 138, 184, 74, 198, 27, 121, 93, 204]
theorem nm5_12_eq : sha (bytesB ⟨nm5_11, 12, [5]⟩) = nm5_12 := by decide +kernel
def nm5_13 : List UInt8 := [40, 211, 254, 107, 202, 117, 216, 34, 193, 9, 66, 183, 82, 176, 210, 59, 247, 204, 3, 168, 230, 29, 110, 32, 169, 250, 109, 196, 79, 69, 121, 42]
theorem nm5_13_eq : sha (bytesB ⟨nm5_12, 13, [5]⟩) = nm5_13 := by decide +kernel
def nm5_14 : List UInt8 := [46, 192, 227, 59, 48, 5, 143, 82, 114, 37, 141, 86, 82, 137, 175, 154, 115, 124, 254, 77, 214, 97, 77, 221, 93, 195, 145, 214, 249, 162, 155, 246]
theorem nm5_14_eq : sha (bytesB ⟨nm5_13, 14, [5]⟩) = nm5_14 := by decide +kernel
def nm5_15 : List UInt8 := [98, 84, 63, 96, 158, 190, 23, 183, 199, 191, 72, 150, 243, 193, 204, 183, 72, 189, 74, 234, 59, 93, 201, 204, 239, 187, 107, 149, 37, 215, 29, 211]
theorem nm5_15_eq : sha (bytesB ⟨nm5_14, 15, [5]⟩) = nm5_15 := by decide +kernel
def nm5_16 : List UInt8 := [252, 211, 218, 119, 179, 109, 176, 33, 82, 60, 196, 110, 2, 185, 230, 193, 84, 17, 118, 109, 207, 164, 70, 88, 15, 154, 252, 114, 59, 65, 240, 228]
theorem nm5_16_eq : sha (bytesB ⟨nm5_15, 16, [5]⟩) = nm5_16 := by decide +kernel
def nm5_17 : List UInt8 := [9, 239, 74, 2, 242, 28, 213, 76, 177, 88, 2, 198, 209, 174, 48, 36, 255, 112, 204, 30, 190, 131, 4, 209, 59, 180, 66, 15, 135, 32, 150, 222]
theorem nm5_17_eq : sha (bytesB ⟨nm5_16, 17, [5]⟩) = nm5_17 := by decide +kernel
def nm5_18 : List UInt8 := [58, 68, 91, 127, 141, 111, 24, 224, 188, 11, 186, 91, 7, 85, 2, 200, 74, 101, 84, 222, 196, 31, 16, 156, 125, 249, 170, 209, 123, 199, 171, 10]
theorem nm5_18_eq : sha (bytesB ⟨nm5_17, 18, [5]⟩) = nm5_18 := by decide +kernel
def nm5_19 : List UInt8 := [148, 166, 203, 112, 237, 102, 14, 107, 134, 73, 77, 224, 213, 132, 200, 161, 27, 117, 83, 34, 129, 6, 67, 76, 39, 23, 211, 185, 0, 222, 198, 184]
theorem nm5_19_eq : sha (bytesB ⟨nm5_18, 19, [5]⟩) = nm5_19 := by decide +kernel
def nm5_20 : List UInt8 := [168, 61, 59, 35, 146, 72, 213, 44, 20, 96, 90, 186, 51, 133, 174, 255, 17, 127, 90, 37, 216, 254, 195, 69, 111, 176, 143, 188, 77, 120, 66, 230]
theorem nm5_20_eq : sha (bytesB ⟨nm5_19, 20, [5]⟩) = nm5_20 := by decide +kernel
def nm5_21 : List UInt8 := [130, 106, 200, 135, 192, 111, 209, 18, 146, 227, 223, 53, 163, 77, 131, 76, 173, 182, 65, 198, 173, 207, 130, 172, 243, 237, 138, 89, 195, 66, 119, 200]
theorem nm5_21_eq : sha (bytesB ⟨nm5_20, 21, [5]⟩) = nm5_21 := by decide +kernel
def nm5_22 : List UInt8 := [24, 140, 81, 111, 54, 101, 242, 203, 83, 249, 181, 20, 249, 132, 129, 255, 185, 157, 119, 43, 22, 52, 87, 99, 84, 17, 103, 251, 106, 202, 116, 237]
theorem nm5_22_eq : sha (bytesB ⟨nm5_21, 22, [5]⟩) = nm5_22 := by decide +kernel
def nm5_23 : List UInt8 := [130, 32, 160, 160, 160, 191, 39, 239, 122, 47, 10, 196, 164, 48, 81, 242, 240, 117, 120, 243, 63, 252, 30, 93, 73, 221, 173, 115, 121, 168, 156, 29]
theorem nm5_23_eq : sha (bytesB ⟨nm5_22, 23, [5]⟩) = nm5_23 := by decide +kernel
def nm5_24 : List UInt8 := [80, 185, 100, 42, 87, 169, 157, 37, 59, 7, 222, 186, 78, 240, 82, 201, 65, 150, 222, 239, 103, 181, 59, 140, 165, 192, 89, 245, 179, 225, 67, 251]
theorem nm5_24_eq : sha (bytesB ⟨nm5_23, 24, [5]⟩) = nm5_24 := by decide +kernel
def nm5_25 : List UInt8 := [114, 132, 146, 48, 89, 134, 137, 54, 219, 33, 142, 154, 57, 4, 69, 141, 86, 159, 118, 83, 180, 161, 138, 75, 4, 1, 116, 197, 20, 140, 54, 187]
theorem nm5_25_eq : sha (bytesB ⟨nm5_24, 25, [5]⟩) = nm5_25 := by decide +kernel
def nm5_26 : List UInt8 := [90, 225, 165, 124, 18, 90, 72, 232, 129, 17, 187, 80, 41, 215, 43, 163, 45, 44, 136, 170, 239, 127, 158, 38, 130, 138, 92, 212, 126, 189, 139, 0]
theorem nm5_26_eq : sha (bytesB ⟨nm5_25, 26, [5]⟩) = nm5_26 := by decide +kernel
def nm5_27 : List UInt8 := [138, 195, 126, 200, 131, 217, 86, 255, 149, 69, 149, 142, 166, 204, 0, 208, 28, 84, 143, 203, 169, 99, 69, 217, 106, 141, 140, 104, 82, 224, 233, 154]
theorem nm5_27_eq : sha (bytesB ⟨nm5_26, 27, [5]⟩) = nm5_27 := by decide +kernel
def nm5_28 : List UInt8 := [63, 125, 24, 58, 89, 101, 62, 80, 164, 2, 108, 235, 105, 17, 252, 67, 97, 134, 73, 4, 143, 230, 113, 65, 149, 35, 241, 66, 64, 200, 190, 62]
theorem nm5_28_eq : sha (bytesB ⟨nm5_27, 28, [5]⟩) = nm5_28 := by decide +kernel
def nm5_29 : List UInt8 := [6, 183, 149, 163, 168, 42, 49, 105, 243, 164, 77, 165, 228, 183, 126, 78, 83, 163, 223, 35, 43, 47, 224, 44, 63, 9, 30, 91, 246, 111, 11, 140]
theorem nm5_29_eq : sha (bytesB ⟨nm5_28, 29, [5]⟩) = nm5_29 := by decide +kernel
def nm5_30 : List UInt8 := [87, 135, 227, 245, 92, 206, 74, 255, 227, 139, 18, 249, 191, 231, 120, 176, 248, 220, 50, 66, 208, 88, 115, 131, 16, 126, 88, 78, 33, 254, 240, 109]
theorem nm5_30_eq : sha (bytesB ⟨nm5_29, 30, [5]⟩) = nm5_30 := by decide +kernel
def nm5_31 : List UInt8 := [78, 129, 117, 242, 198, 17, 87, 155, 171, 120, 93, 10, 63, 134, 210, 197, 107, 129, 250, 5, 58, 97, 139, 165, 251, 128, 84, 3, 226, 13, 30, 98]
theorem nm5_31_eq : sha (bytesB ⟨nm5_30, 31, [5]⟩) = nm5_31 := by decide +kernel
def nm5_32 : List UInt8 := [42, 95, 22, 161, 1, 221, 89, 13, 245, 21, 102, 73, 158, 194, 44, 26, 47, 172, 123, 36, 230, 148, 94, 220, 215, 35, 12, 7, 142, 200, 255, 62]
theorem nm5_32_eq : sha (bytesB ⟨nm5_31, 32, [5]⟩) = nm5_32 := by decide +kernel
def nm5_33 : List UInt8 := [130, 108, 43, 154, 94, 90, 147, 27, 23, 146, 44, 0, 72, 79, 109, 130, 92, 115, 213, 66, 108, 101, 118, 89, 63, 76, 188, 224, 146, 152, 19, 226]
theorem nm5_33_eq : sha (bytesB ⟨nm5_32, 33, [5]⟩) = nm5_33 := by decide +kernel
def nm5_34 : List UInt8 := [79, 141, 31, 207, 150, 78, 211, 29, 162, 47, 255, 235, 159, 196, 129, 140, 222, 91, 146, 43, 156, 43, 83, 174, 41, 219, 128, 119, 91, 76, 172, 103]
theorem nm5_34_eq : sha (bytesB ⟨nm5_33, 34, [5]⟩) = nm5_34 := by decide +kernel
def nm5_35 : List UInt8 := [210, 253, 16, 194, 170, 171, 77, 139, 109, 173, 136, 136, 29, 87, 62, 146, 46, 124, 141, 172, 85, 132, 101, 198, 175, 123, 32, 14, 158, 196, 79, 140]
theorem nm5_35_eq : sha (bytesB ⟨nm5_34, 35, [5]⟩) = nm5_35 := by decide +kernel
def nm5_36 : List UInt8 := [10, 137, 146, 150, 68, 4, 72, 14, 237, 86, 179, 24, 28, 133, 35, 210, 213, 159, 38, 203, 51, 15, 207, 242, 171, 201, 22, 146, 114, 137, 70, 172]
theorem nm5_36_eq : sha (bytesB ⟨nm5_35, 36, [5]⟩) = nm5_36 := by decide +kernel
def nm5_37 : List UInt8 := [173, 27, 99, 83, 199, 248, 159, 19, 10, 204, 222, 253, 182, 234, 100, 176, 119, 4, 241, 182, 75, 136, 97, 129, 82, 96, 111, 164, 105, 220, 155, 70]
theorem nm5_37_eq : sha (bytesB ⟨nm5_36, 37, [5]⟩) = nm5_37 := by decide +kernel
def nm5_38 : List UInt8 := [63, 14, 209, 100, 231, 144, 139, 42, 168, 82, 205, 129, 139, 210, 184, 237, 0, 70, 245, 175, 169, 55, 227, 26, 23, 103, 189, 14, 49, 80, 245, 246]
theorem nm5_38_eq : sha (bytesB ⟨nm5_37, 38, [5]⟩) = nm5_38 := by decide +kernel
def nm5_39 : List UInt8 := [193, 186, 189, 87, 184, 248, 33, 56, 223, 114, 241, 62, 86, 34, 182, 234, 23, 86, 8, 157, 64, 140, 156, 9, 232, 144, 179, 216, 105, 183, 25, 48]
theorem nm5_39_eq : sha (bytesB ⟨nm5_38, 39, [5]⟩) = nm5_39 := by decide +kernel
def nm5_40 : List UInt8 := [86, 1, 206, 244, 124, 73, 241, 209, 205, 5, 38, 98, 91, 67, 19, 74, 137, 177, 167, 100, 33, 124, 81, 75, 159, 24, 164, 216, 127, 50, 15, 0]
theorem nm5_40_eq : sha (bytesB ⟨nm5_39, 40, [5]⟩) = nm5_40 := by decide +kernel
def blks5 : List Bk := [⟨nm0, 1, [5]⟩, ⟨nm5_1, 2, [5]⟩, ⟨nm5_2, 3, [5]⟩, ⟨nm5_3, 4, [5]⟩, ⟨nm5_4, 5, [5]⟩, ⟨nm5_5, 6, [5]⟩, ⟨nm5_6, 7, [5]⟩, ⟨nm5_7, 8, [5]⟩, ⟨nm5_8, 9, [5]⟩, ⟨nm5_9, 10, [5]⟩, ⟨nm5_10, 11, [5]⟩, ⟨nm5_11, 12, [5]⟩, ⟨nm5_12, 13, [5]⟩, ⟨nm5_13, 14, [5]⟩, ⟨nm5_14, 15, [5]⟩, ⟨nm5_15, 16, [5]⟩, ⟨nm5_16, 17, [5]⟩, ⟨nm5_17, 18, [5]⟩, ⟨nm5_18, 19, [5]⟩, ⟨nm5_19, 20, [5]⟩, ⟨nm5_20, 21, [5]⟩, ⟨nm5_21, 22, [5]⟩, ⟨nm5_22, 23, [5]⟩, ⟨nm5_23, 24, [5]⟩, ⟨nm5_24, 25, [5]⟩, ⟨nm5_25, 26, [5]⟩, ⟨nm5_26, 27, [5]⟩, ⟨nm5_27, 28, [5]⟩, ⟨nm5_28, 29, [5]⟩, ⟨nm5_29, 30, [5]⟩, ⟨nm5_30, 31, [5]⟩, ⟨nm5_31, 32, [5]⟩, ⟨nm5_32, 33, [5]⟩, ⟨nm5_33, 34, [5]⟩, ⟨nm5_34, 35, [5]⟩, ⟨nm5_35, 36, [5]⟩, ⟨nm5_36, 37, [5]⟩, ⟨nm5_37, 38, [5]⟩, ⟨nm5_38, 39, [5]⟩, ⟨nm5_39, 40, [5]⟩]
def names5 : List (List UInt8) := [nm0, nm5_1, nm5_2, nm5_3, nm5_4, nm5_5, nm5_6, nm5_7, nm5_8, nm5_9, nm5_10, nm5_11, nm5_12, nm5_13, nm5_14, nm5_15, nm5_16, nm5_17, nm5_18, nm5_19, nm5_20, nm5_21, nm5_22, nm5_23, nm5_24, nm5_25, nm5_26, nm5_27, nm5_28, nm5_29, nm5_30, nm5_31, nm5_32, nm5_33, nm5_34, nm5_35, nm5_36, nm5_37, nm5_38, nm5_39, nm5_40]
theorem names5_nodup : names5.Pairwise (· ≠ ·) := by decide +kernel

end Go.Proofs.YtdjcjjodbniebaaGreatDoor
namespace Go.Proofs.YtdjcjjodbniebaaGreatDoor
open Go.RowKit
set_option linter.unusedVariables false
set_option linter.unusedSimpArgs false
set_option maxRecDepth 10000
/-- the name of a row's block -/
def nq (q : Nat → Bk) (i : Nat) : List UInt8 := sha (bytesB (q i))
/-- a row of children, with names unlike -/
structure QRow (q : Nat → Bk) (m : Nat) : Prop where
  ok : ∀ i, i ≤ m → BkOk (q i) ∧ checkB (q i) = 0 ∧ (q i).height = i
  linked : ∀ i, i < m → linkedB (q (i + 1)) (q i) = 0 ∧ (q (i + 1)).parent = nq q i
  inj : ∀ i j, i ≤ m → j ≤ m → nq q i = nq q j → i = j
/-- the topmost ones, from the top down -/
def topL {α : Type} (g : Nat → α) (m k : Nat) : List α := (List.range k).map fun i => g (m - i)
theorem topL_succ {α : Type} (g : Nat → α) (m k : Nat) : topL g m (k + 1) = topL g m k ++ [g (m - k)] := by simp [topL, List.range_succ]
theorem topL_len {α : Type} (g : Nat → α) (m k : Nat) : (topL g m k).length = k := by simp [topL]
def ST (q : Nat → Bk) (r m k : Nat) (asked : List (List UInt8 × Bool)) (often : List (List UInt8 × Int)) : FS := ⟨nq q r, r, 100, [(nq q m, [0, 3, 5])], topL (fun j => (nq q j, q j)) m k, asked, often⟩
theorem atL_snoc {α : Type} (a : List UInt8) (x : List UInt8 × α) : ∀ L : List (List UInt8 × α), atL a (L ++ [x]) = match atL a L with | some y => some y | none => if a = x.1 then some x.2 else none
  | [] => by simp [atL_cons, atL_nil]
  | y :: L => by
    rw [List.cons_append, atL_cons, atL_cons, atL_snoc a x L]
    split <;> simp
section
variable {q : Nat → Bk} {m : Nat}
theorem keptQ_none (hq : QRow q m) {j k : Nat} (hk : k ≤ m) (hj : j + k ≤ m) : atL (nq q j) (topL (fun j => (nq q j, q j)) m k) = none := by
  induction k with
  | zero => rfl
  | succ k ih =>
    rw [topL_succ, atL_snoc, ih (by omega) (by omega)]
    dsimp only
    rw [if_neg (fun e => by have := hq.inj _ _ (by omega) (by omega) e; omega)]
theorem keptQ_some (hq : QRow q m) {j k : Nat} (hk : k ≤ m) (hj : j ≤ m) (hjk : m < j + k) : atL (nq q j) (topL (fun j => (nq q j, q j)) m k) = some (q j) := by
  induction k with
  | zero => omega
  | succ k ih =>
    rw [topL_succ, atL_snoc]
    by_cases h : m < j + k
    · rw [ih (by omega) h]
    · rw [keptQ_none hq (by omega) (by omega)]
      obtain rfl : j = m - k := by omega
      dsimp only
      rw [if_pos rfl]
theorem way_go (hq : QRow q m) {r k : Nat} (hr : r ≤ m) (hk : k ≤ m - r) {asked : List (List UInt8 × Bool)} {often : List (List UInt8 × Int)} (n : Nat) : ∀ d i, i + d = k → wayL (ST q r m k asked often) (d + n) (topL q m i) (nq q (m - i)) = wayL (ST q r m k asked often) n (topL q m k) (nq q (m - k))
  | 0, i, h => by obtain rfl : i = k := by omega
                  rw [Nat.zero_add]
  | d + 1, i, h => by
    obtain ⟨b1, b2, b3⟩ := hq.ok (m - i) (by omega)
    have hl := hq.linked (m - i - 1) (by omega)
    rw [show m - i - 1 + 1 = m - i by omega] at hl
    rw [show d + 1 + n = (d + n) + 1 by omega, wayL_next (b := q (m - i))]
    · rw [← topL_succ, hl.2, show m - i - 1 = m - (i + 1) by omega]
      exact way_go hq hr hk n d (i + 1) (by omega)
    · intro e
      have := hq.inj _ _ (by omega) hr e
      omega
    · exact keptQ_some hq (by omega) (by omega) (by omega)
    · refine way_good ?_ ?_ ?_
      · show (r : Int) < _
        rw [b3]; omega
      · show (q (m - i)).height - 1 = (r : Int) ↔ (q (m - i)).parent = nq q r
        rw [b3, hl.2]
        constructor
        · intro e
          rw [show m - i - 1 = r by omega]
        · intro e
          have := hq.inj _ _ (by omega) hr e
          omega
      · intro c hc
        cases i with
        | zero => simp [topL] at hc
        | succ i =>
          rw [topL_succ, List.getLast?_append] at hc
          simp at hc
          subst hc
          have := (hq.linked (m - (i + 1)) (by omega)).1
          rwa [show m - (i + 1) + 1 = m - i by omega] at this
theorem way_ST (hq : QRow q m) {r k : Nat} (hr : r ≤ m) (hk : k ≤ m - r) (asked : List (List UInt8 × Bool)) (often : List (List UInt8 × Int)) : wayF (ST q r m k asked often) (nq q m) = (topL q m k, if k = m - r then 1 else 0, nq q (m - k)) := by
  have h := way_go hq hr hk (asked := asked) (often := often) 1 k 0 (by omega)
  have e : wayF (ST q r m k asked often) (nq q m) = wayL (ST q r m k asked often) (k + 1) (topL q m 0) (nq q (m - 0)) := by
    unfold wayF
    rw [show (ST q r m k asked often).kept.length = k from topL_len (fun j => (nq q j, q j)) m k]
    rfl
  rw [e, h]
  by_cases hkr : k = m - r
  · rw [if_pos hkr, show m - k = r by omega]
    exact wayL_last _ _ _
  · rw [if_neg hkr]
    refine wayL_missing ?_ (keptQ_none hq (by omega) (by omega))
    intro e
    have := hq.inj _ _ (by omega) hr e
    omega
theorem miss_ST (hq : QRow q m) {r k : Nat} (hr : r ≤ m) (hk : k ≤ m - r) (asked : List (List UInt8 × Bool)) (often : List (List UInt8 × Int)) : missL (ST q r m k asked often) = if k = m - r then [] else [(nq q (m - k), [0, 3, 5])] := by
  have h := way_ST hq hr hk asked often
  split
  · rename_i hkr
    rw [if_pos hkr] at h
    exact miss_none rfl h
  · rename_i hkr
    rw [if_neg hkr] at h
    rw [miss_one rfl h]
    simp [putL]
theorem wants_ST (hq : QRow q m) {r k : Nat} (hr : r ≤ m) (hk : k < m - r) (often : List (List UInt8 × Int)) : wantsF (ST q r m k [] often) = [nq q (m - k)] := by
  unfold wantsF
  rw [miss_ST hq hr (by omega), if_neg (by omega)]
  simp [freeL, askedB, ST]
theorem ask_ST (hq : QRow q m) {r k : Nat} (hr : r ≤ m) (hk : k < m - r) (often : List (List UInt8 × Int)) : ∃ v often', askF (ST q r m k [] often) (nq q (m - k)) = ((v, 0), ST q r m k [(nq q (m - k), true)] often') := by
  have h := miss_ST hq hr (Nat.le_of_lt hk) [] often
  rw [if_neg (by omega)] at h
  exact ⟨_, _, ask_one h (by simp) (by simp [askedB, ST])⟩
theorem chain_ST (hq : QRow q m) {r : Nat} (hr : r < m) (asked : List (List UInt8 × Bool)) (often : List (List UInt8 × Int)) : chainF (ST q r m (m - r) asked often) = ((topL q m (m - r)).reverse, 0) := by
  have h := way_ST hq (Nat.le_of_lt hr) (Nat.le_refl _) asked often
  rw [if_pos rfl] at h
  unfold chainF
  rw [if_neg (by rw [miss_none rfl h]; simp)]
  have hb : bestF (ST q r m (m - r) asked often) = (topL q m (m - r), nq q m) := by
    show bestStep _ ([], zeroId) (nq q m, [0, 3, 5]) = _
    unfold bestStep
    rw [h, if_neg (by
      rintro (h | h)
      · exact h rfl
      · have := congrArg List.length h
        rw [topL_len] at this
        simp at this
        omega), if_pos (.inl rfl)]
  rw [hb]
theorem got_go (hq : QRow q m) {r : Nat} (hr : r ≤ m) (hm : m ≤ 40) {k : Nat} (hk : k < m - r) {often : List (List UInt8 × Int)} : ∀ d i, i ≤ m - r - k → i + d ≤ m - k + 1 →
    gotL (nq q (m - k)) ((List.range d).map fun j => bytesB (q (m - k - i - j))) (ST q r m (k + i) [] often) (topL q (m - k) i) = (ST q r m (k + min (i + d) (m - r - k)) [] often, topL q (m - k) (min (i + d) (m - r - k)), false)
  | 0, i, hi, _ => by
    rw [Nat.add_zero, Nat.min_eq_left hi]
    rfl
  | d + 1, i, hi, hd => by
    rw [List.range_succ_eq_map, List.map_cons, List.map_map, Nat.sub_zero]
    by_cases hir : i = m - r - k
    · rw [got_last (by rw [show m - k - i = r by omega]; rfl), Nat.min_eq_right (by omega), hir]
    · obtain ⟨b1, b2, b3⟩ := hq.ok (m - k - i) (by omega)
      rw [got_add (parse_bytes b1 b2) rfl (nm := nq q (m - k - i))]
      · have e1 : ({ ST q r m (k + i) [] often with kept := (ST q r m (k + i) [] often).kept ++ [(nq q (m - k - i), q (m - k - i))] } : FS) = ST q r m (k + (i + 1)) [] often := by
          unfold ST
          congr 1
          rw [← Nat.add_assoc, topL_succ, show m - (k + i) = m - k - i by omega]
        have e2 : ((fun j => bytesB (q (m - k - i - j))) ∘ Nat.succ) = fun j => bytesB (q (m - k - (i + 1) - j)) := by
          funext j
          show bytesB (q (m - k - i - (j + 1))) = _
          rw [show m - k - i - (j + 1) = m - k - (i + 1) - j by omega]
        rw [e1, e2, ← topL_succ, got_go hq hr hm hk d (i + 1) (by omega) (by omega), show i + 1 + d = i + (d + 1) by omega]
      · rintro ⟨h1, h2⟩
        cases i with
        | zero => exact h1 rfl
        | succ i =>
          rcases h2 with h2 | ⟨c, h2, h3⟩
          · have := congrArg List.length h2
            rw [topL_len] at this
            simp at this
          · rw [topL_succ, List.getLast?_append] at h2
            simp at h2
            subst h2
            have := (hq.linked (m - k - (i + 1)) (by omega)).1
            rw [show m - k - (i + 1) + 1 = m - k - i by omega] at this
            exact h3 this
      · exact keptQ_none hq (by omega) (by omega)
      · intro e
        have := hq.inj _ _ (by omega) hr e
        omega
      · show ¬ (100 : Int) ≤ (topL (fun j => (nq q j, q j)) m (k + i)).length
        rw [topL_len]
        omega
theorem got_ST (hq : QRow q m) {r k t : Nat} (hr : r ≤ m) (hm : m ≤ 40) (hk : k < m - r) (ht : 1 ≤ t) (ht2 : t ≤ 16) (often : List (List UInt8 × Int)) :
    ∃ v, gotF (ST q r m k [(nq q (m - k), true)] often) (nq q (m - k)) ((List.range (min t (m - k + 1))).map fun j => bytesB (q (m - k - j))) = ((v, 0), ST q r m (min (k + t) (m - r)) [] often) := by
  rw [got_open (by simp [askedB, ST])]
  rw [List.take_of_length_le (by simp; omega)]
  have h := got_go hq hr hm hk (often := often) (min t (m - k + 1)) 0 (by omega) (by omega)
  have e1 : ({ ST q r m k [(nq q (m - k), true)] often with asked := delB (nq q (m - k)) (ST q r m k [(nq q (m - k), true)] often).asked } : FS) = ST q r m (k + 0) [] often := by
    simp [ST, delB]
  have e2 : k + min (0 + min t (m - k + 1)) (m - r - k) = min (k + t) (m - r) := by omega
  rw [e2] at h
  rw [e1]
  have h' : gotL (nq q (m - k)) ((List.range (min t (m - k + 1))).map fun j => bytesB (q (m - k - j))) (ST q r m (k + 0) [] often) [] = _ := h
  rw [h']
  refine ⟨((topL q (m - k) (min (0 + min t (m - k + 1)) (m - r - k))).length : Nat), ?_⟩
  congr 1
  unfold gotE
  rw [if_pos]
  intro e
  have := congrArg List.length e
  simp [topL_len] at this
  omega
theorem ok_ST (hq : QRow q m) {r k : Nat} (hr : r ≤ m) (hm : m ≤ 40) (hk : k ≤ m) (asked : List (List UInt8 × Bool)) (often : List (List UInt8 × Int)) : FOk (ST q r m k asked often) :=
  ⟨sha_length _, by show (0 : Int) ≤ r; omega, by show (r : Int) ≤ _; omega, by show (1 : Int) ≤ 100 ∧ (100 : Int) ≤ 4096; decide, by show (1 : Nat) ≤ 32; decide, fun t ht => by
    obtain rfl : t = (nq q m, [0, 3, 5]) := by simpa [ST] using ht
    exact ⟨sha_length _, by show [(0:Int), 3, 5].Pairwise _; decide, by show ∀ v ∈ [(0:Int), 3, 5], _; decide⟩, by show (topL (fun j => (nq q j, q j)) m k).length ≤ 4096; rw [topL_len]; omega, fun x hx => by
    obtain ⟨i, _, rfl⟩ := List.mem_map.1 (show x ∈ topL (fun j => (nq q j, q j)) m k from hx)
    exact ⟨(hq.ok (m - i) (by omega)).1, (hq.ok (m - i) (by omega)).2.1⟩⟩
end
theorem fail_ST {q : Nat → Bk} {m r k : Nat} (often : List (List UInt8 × Int)) : failF (ST q r m k [(nq q (m - k), true)] often) (nq q (m - k)) = (0, ST q r m k [] often) := by
  simp [failF, askedB, ST, delB]
theorem target_ST {q : Nat → Bk} {m r : Nat} : targetF ⟨nq q r, r, 100, [], [], [], []⟩ (nq q m) [0, 3, 5] = (0, ST q r m 0 [] []) := by
  unfold targetF
  rw [if_neg (by decide), if_neg (by rintro ⟨_, h⟩; simp at h)]
  simp [ST, atL_nil, putAt, putL, topL]
end Go.Proofs.YtdjcjjodbniebaaGreatDoor
namespace Go.Proofs.YtdjcjjodbniebaaGreatDoor
open Go.RowKit
set_option linter.unusedVariables false
set_option linter.unusedSimpArgs false
set_option maxRecDepth 10000
def qB (which : UInt8) : Nat → Bk
  | 0 => firstB
  | i + 1 => (childB (qB which i) [which]).1
theorem qB_ok (which : UInt8) : ∀ i, i ≤ 1000000 → BkOk (qB which i) ∧ checkB (qB which i) = 0 ∧ (qB which i).height = i
  | 0, _ => ⟨firstB_ok, firstB_check, rfl⟩
  | i + 1, h => by
    obtain ⟨h1, h2, h3⟩ := qB_ok which i (by omega)
    have e := childB_eq (d := [which]) h2 (by omega) (by simp)
    have h4 := childB_ok h1 [which]
    have h5 := child_check (d := [which]) h2 (by simp)
    refine ⟨h4, ?_, ?_⟩
    · show checkB (childB (qB which i) [which]).1 = 0
      rw [e]; exact h5
    · show (childB (qB which i) [which]).1.height = ((i + 1 : Nat) : Int)
      rw [e]
      show (qB which i).height + 1 = _
      rw [h3]; omega
theorem qB_linked (which : UInt8) (i : Nat) (hi : i ≤ 1000000) : linkedB (qB which (i + 1)) (qB which i) = 0 ∧ (qB which (i + 1)).parent = nq (qB which) i := by
  obtain ⟨h1, h2, h3⟩ := qB_ok which i hi
  have e := childB_eq (d := [which]) h2 (by omega) (by simp)
  have h5 := child_linked (d := [which]) h2 (by omega) (by simp)
  have e' : qB which (i + 1) = ⟨sha (bytesB (qB which i)), (qB which i).height + 1, [which]⟩ := by
    show (childB (qB which i) [which]).1 = _
    rw [e]
  rw [e']
  exact ⟨h5, rfl⟩
theorem rowL_qB (which : UInt8) : ∀ n i, rowL which n (qB which i) = (List.range n).map fun j => qB which (i + 1 + j)
  | 0, i => rfl
  | n + 1, i => by
    show qB which (i + 1) :: rowL which n (qB which (i + 1)) = _
    rw [rowL_qB which n (i + 1), List.range_succ_eq_map, List.map_cons, List.map_map]
    congr 1
    apply List.map_congr_left
    intro j _
    show qB which (i + 1 + 1 + j) = qB which (i + 1 + (j + 1))
    rw [show i + 1 + 1 + j = i + 1 + (j + 1) by omega]
theorem qB_step {i : Nat} {which : UInt8} {b : Bk} {a : List UInt8} {h : Int} (hb : qB which i = b) (hck : checkB b = 0) (hh : b.height < 9223372036854775807) (ha : sha (bytesB b) = a) (he : b.height + 1 = h) : qB which (i + 1) = ⟨a, h, [which]⟩ := by
  show (childB (qB which i) [which]).1 = _
  rw [hb, childB_eq (d := [which]) hck hh (by simp), ha, he]
theorem q5_0 : qB 5 0 = firstB := rfl
theorem q5_1 : qB 5 1 = ⟨nm0, 1, [5]⟩ := qB_step (i := 0) (b := firstB) rfl firstB_check (by decide) nm0_eq (by decide)
theorem q5_2 : qB 5 2 = ⟨nm5_1, 2, [5]⟩ := qB_step (i := 1) q5_1 (row_check (by decide)) (by decide) nm5_1_eq (by decide)
theorem q5_3 : qB 5 3 = ⟨nm5_2, 3, [5]⟩ := qB_step (i := 2) q5_2 (row_check (by decide)) (by decide) nm5_2_eq (by decide)
theorem q5_4 : qB 5 4 = ⟨nm5_3, 4, [5]⟩ := qB_step (i := 3) q5_3 (row_check (by decide)) (by decide) nm5_3_eq (by decide)
theorem q5_5 : qB 5 5 = ⟨nm5_4, 5, [5]⟩ := qB_step (i := 4) q5_4 (row_check (by decide)) (by decide) nm5_4_eq (by decide)
theorem q5_6 : qB 5 6 = ⟨nm5_5, 6, [5]⟩ := qB_step (i := 5) q5_5 (row_check (by decide)) (by decide) nm5_5_eq (by decide)
theorem q5_7 : qB 5 7 = ⟨nm5_6, 7, [5]⟩ := qB_step (i := 6) q5_6 (row_check (by decide)) (by decide) nm5_6_eq (by decide)
theorem q5_8 : qB 5 8 = ⟨nm5_7, 8, [5]⟩ := qB_step (i := 7) q5_7 (row_check (by decide)) (by decide) nm5_7_eq (by decide)
theorem q5_9 : qB 5 9 = ⟨nm5_8, 9, [5]⟩ := qB_step (i := 8) q5_8 (row_check (by decide)) (by decide) nm5_8_eq (by decide)
theorem q5_10 : qB 5 10 = ⟨nm5_9, 10, [5]⟩ := qB_step (i := 9) q5_9 (row_check (by decide)) (by decide) nm5_9_eq (by decide)
theorem q5_11 : qB 5 11 = ⟨nm5_10, 11, [5]⟩ := qB_step (i := 10) q5_10 (row_check (by decide)) (by decide) nm5_10_eq (by decide)
theorem q5_12 : qB 5 12 = ⟨nm5_11, 12, [5]⟩ := qB_step (i := 11) q5_11 (row_check (by decide)) (by decide) nm5_11_eq (by decide)
theorem q5_13 : qB 5 13 = ⟨nm5_12, 13, [5]⟩ := qB_step (i := 12) q5_12 (row_check (by decide)) (by decide) nm5_12_eq (by decide)
theorem q5_14 : qB 5 14 = ⟨nm5_13, 14, [5]⟩ := qB_step (i := 13) q5_13 (row_check (by decide)) (by decide) nm5_13_eq (by decide)
theorem q5_15 : qB 5 15 = ⟨nm5_14, 15, [5]⟩ := qB_step (i := 14) q5_14 (row_check (by decide)) (by decide) nm5_14_eq (by decide)
theorem q5_16 : qB 5 16 = ⟨nm5_15, 16, [5]⟩ := qB_step (i := 15) q5_15 (row_check (by decide)) (by decide) nm5_15_eq (by decide)
theorem q5_17 : qB 5 17 = ⟨nm5_16, 17, [5]⟩ := qB_step (i := 16) q5_16 (row_check (by decide)) (by decide) nm5_16_eq (by decide)
theorem q5_18 : qB 5 18 = ⟨nm5_17, 18, [5]⟩ := qB_step (i := 17) q5_17 (row_check (by decide)) (by decide) nm5_17_eq (by decide)
theorem q5_19 : qB 5 19 = ⟨nm5_18, 19, [5]⟩ := qB_step (i := 18) q5_18 (row_check (by decide)) (by decide) nm5_18_eq (by decide)
theorem q5_20 : qB 5 20 = ⟨nm5_19, 20, [5]⟩ := qB_step (i := 19) q5_19 (row_check (by decide)) (by decide) nm5_19_eq (by decide)
theorem q5_21 : qB 5 21 = ⟨nm5_20, 21, [5]⟩ := qB_step (i := 20) q5_20 (row_check (by decide)) (by decide) nm5_20_eq (by decide)
theorem q5_22 : qB 5 22 = ⟨nm5_21, 22, [5]⟩ := qB_step (i := 21) q5_21 (row_check (by decide)) (by decide) nm5_21_eq (by decide)
theorem q5_23 : qB 5 23 = ⟨nm5_22, 23, [5]⟩ := qB_step (i := 22) q5_22 (row_check (by decide)) (by decide) nm5_22_eq (by decide)
theorem q5_24 : qB 5 24 = ⟨nm5_23, 24, [5]⟩ := qB_step (i := 23) q5_23 (row_check (by decide)) (by decide) nm5_23_eq (by decide)
theorem q5_25 : qB 5 25 = ⟨nm5_24, 25, [5]⟩ := qB_step (i := 24) q5_24 (row_check (by decide)) (by decide) nm5_24_eq (by decide)
theorem q5_26 : qB 5 26 = ⟨nm5_25, 26, [5]⟩ := qB_step (i := 25) q5_25 (row_check (by decide)) (by decide) nm5_25_eq (by decide)
theorem q5_27 : qB 5 27 = ⟨nm5_26, 27, [5]⟩ := qB_step (i := 26) q5_26 (row_check (by decide)) (by decide) nm5_26_eq (by decide)
theorem q5_28 : qB 5 28 = ⟨nm5_27, 28, [5]⟩ := qB_step (i := 27) q5_27 (row_check (by decide)) (by decide) nm5_27_eq (by decide)
theorem q5_29 : qB 5 29 = ⟨nm5_28, 29, [5]⟩ := qB_step (i := 28) q5_28 (row_check (by decide)) (by decide) nm5_28_eq (by decide)
theorem q5_30 : qB 5 30 = ⟨nm5_29, 30, [5]⟩ := qB_step (i := 29) q5_29 (row_check (by decide)) (by decide) nm5_29_eq (by decide)
theorem q5_31 : qB 5 31 = ⟨nm5_30, 31, [5]⟩ := qB_step (i := 30) q5_30 (row_check (by decide)) (by decide) nm5_30_eq (by decide)
theorem q5_32 : qB 5 32 = ⟨nm5_31, 32, [5]⟩ := qB_step (i := 31) q5_31 (row_check (by decide)) (by decide) nm5_31_eq (by decide)
theorem q5_33 : qB 5 33 = ⟨nm5_32, 33, [5]⟩ := qB_step (i := 32) q5_32 (row_check (by decide)) (by decide) nm5_32_eq (by decide)
theorem q5_34 : qB 5 34 = ⟨nm5_33, 34, [5]⟩ := qB_step (i := 33) q5_33 (row_check (by decide)) (by decide) nm5_33_eq (by decide)
theorem q5_35 : qB 5 35 = ⟨nm5_34, 35, [5]⟩ := qB_step (i := 34) q5_34 (row_check (by decide)) (by decide) nm5_34_eq (by decide)
theorem q5_36 : qB 5 36 = ⟨nm5_35, 36, [5]⟩ := qB_step (i := 35) q5_35 (row_check (by decide)) (by decide) nm5_35_eq (by decide)
theorem q5_37 : qB 5 37 = ⟨nm5_36, 37, [5]⟩ := qB_step (i := 36) q5_36 (row_check (by decide)) (by decide) nm5_36_eq (by decide)
theorem q5_38 : qB 5 38 = ⟨nm5_37, 38, [5]⟩ := qB_step (i := 37) q5_37 (row_check (by decide)) (by decide) nm5_37_eq (by decide)
theorem q5_39 : qB 5 39 = ⟨nm5_38, 39, [5]⟩ := qB_step (i := 38) q5_38 (row_check (by decide)) (by decide) nm5_38_eq (by decide)
theorem q5_40 : qB 5 40 = ⟨nm5_39, 40, [5]⟩ := qB_step (i := 39) q5_39 (row_check (by decide)) (by decide) nm5_39_eq (by decide)
theorem n5_0 : nq (qB 5) 0 = nm0 := nm0_eq
theorem n5_1 : nq (qB 5) 1 = nm5_1 := by unfold nq; rw [q5_1]; exact nm5_1_eq
theorem n5_2 : nq (qB 5) 2 = nm5_2 := by unfold nq; rw [q5_2]; exact nm5_2_eq
theorem n5_3 : nq (qB 5) 3 = nm5_3 := by unfold nq; rw [q5_3]; exact nm5_3_eq
theorem n5_4 : nq (qB 5) 4 = nm5_4 := by unfold nq; rw [q5_4]; exact nm5_4_eq
theorem n5_5 : nq (qB 5) 5 = nm5_5 := by unfold nq; rw [q5_5]; exact nm5_5_eq
theorem n5_6 : nq (qB 5) 6 = nm5_6 := by unfold nq; rw [q5_6]; exact nm5_6_eq
theorem n5_7 : nq (qB 5) 7 = nm5_7 := by unfold nq; rw [q5_7]; exact nm5_7_eq
theorem n5_8 : nq (qB 5) 8 = nm5_8 := by unfold nq; rw [q5_8]; exact nm5_8_eq
theorem n5_9 : nq (qB 5) 9 = nm5_9 := by unfold nq; rw [q5_9]; exact nm5_9_eq
theorem n5_10 : nq (qB 5) 10 = nm5_10 := by unfold nq; rw [q5_10]; exact nm5_10_eq
theorem n5_11 : nq (qB 5) 11 = nm5_11 := by unfold nq; rw [q5_11]; exact nm5_11_eq
theorem n5_12 : nq (qB 5) 12 = nm5_12 := by unfold nq; rw [q5_12]; exact nm5_12_eq
theorem n5_13 : nq (qB 5) 13 = nm5_13 := by unfold nq; rw [q5_13]; exact nm5_13_eq
theorem n5_14 : nq (qB 5) 14 = nm5_14 := by unfold nq; rw [q5_14]; exact nm5_14_eq
theorem n5_15 : nq (qB 5) 15 = nm5_15 := by unfold nq; rw [q5_15]; exact nm5_15_eq
theorem n5_16 : nq (qB 5) 16 = nm5_16 := by unfold nq; rw [q5_16]; exact nm5_16_eq
theorem n5_17 : nq (qB 5) 17 = nm5_17 := by unfold nq; rw [q5_17]; exact nm5_17_eq
theorem n5_18 : nq (qB 5) 18 = nm5_18 := by unfold nq; rw [q5_18]; exact nm5_18_eq
theorem n5_19 : nq (qB 5) 19 = nm5_19 := by unfold nq; rw [q5_19]; exact nm5_19_eq
theorem n5_20 : nq (qB 5) 20 = nm5_20 := by unfold nq; rw [q5_20]; exact nm5_20_eq
theorem n5_21 : nq (qB 5) 21 = nm5_21 := by unfold nq; rw [q5_21]; exact nm5_21_eq
theorem n5_22 : nq (qB 5) 22 = nm5_22 := by unfold nq; rw [q5_22]; exact nm5_22_eq
theorem n5_23 : nq (qB 5) 23 = nm5_23 := by unfold nq; rw [q5_23]; exact nm5_23_eq
theorem n5_24 : nq (qB 5) 24 = nm5_24 := by unfold nq; rw [q5_24]; exact nm5_24_eq
theorem n5_25 : nq (qB 5) 25 = nm5_25 := by unfold nq; rw [q5_25]; exact nm5_25_eq
theorem n5_26 : nq (qB 5) 26 = nm5_26 := by unfold nq; rw [q5_26]; exact nm5_26_eq
theorem n5_27 : nq (qB 5) 27 = nm5_27 := by unfold nq; rw [q5_27]; exact nm5_27_eq
theorem n5_28 : nq (qB 5) 28 = nm5_28 := by unfold nq; rw [q5_28]; exact nm5_28_eq
theorem n5_29 : nq (qB 5) 29 = nm5_29 := by unfold nq; rw [q5_29]; exact nm5_29_eq
theorem n5_30 : nq (qB 5) 30 = nm5_30 := by unfold nq; rw [q5_30]; exact nm5_30_eq
theorem n5_31 : nq (qB 5) 31 = nm5_31 := by unfold nq; rw [q5_31]; exact nm5_31_eq
theorem n5_32 : nq (qB 5) 32 = nm5_32 := by unfold nq; rw [q5_32]; exact nm5_32_eq
theorem n5_33 : nq (qB 5) 33 = nm5_33 := by unfold nq; rw [q5_33]; exact nm5_33_eq
theorem n5_34 : nq (qB 5) 34 = nm5_34 := by unfold nq; rw [q5_34]; exact nm5_34_eq
theorem n5_35 : nq (qB 5) 35 = nm5_35 := by unfold nq; rw [q5_35]; exact nm5_35_eq
theorem n5_36 : nq (qB 5) 36 = nm5_36 := by unfold nq; rw [q5_36]; exact nm5_36_eq
theorem n5_37 : nq (qB 5) 37 = nm5_37 := by unfold nq; rw [q5_37]; exact nm5_37_eq
theorem n5_38 : nq (qB 5) 38 = nm5_38 := by unfold nq; rw [q5_38]; exact nm5_38_eq
theorem n5_39 : nq (qB 5) 39 = nm5_39 := by unfold nq; rw [q5_39]; exact nm5_39_eq
theorem n5_40 : nq (qB 5) 40 = nm5_40 := by unfold nq; rw [q5_40]; exact nm5_40_eq
theorem n5_all : (List.range 41).map (nq (qB 5)) = names5 := by
  show [nq (qB 5) 0, nq (qB 5) 1, nq (qB 5) 2, nq (qB 5) 3, nq (qB 5) 4, nq (qB 5) 5, nq (qB 5) 6, nq (qB 5) 7, nq (qB 5) 8, nq (qB 5) 9, nq (qB 5) 10, nq (qB 5) 11, nq (qB 5) 12, nq (qB 5) 13, nq (qB 5) 14, nq (qB 5) 15, nq (qB 5) 16, nq (qB 5) 17, nq (qB 5) 18, nq (qB 5) 19, nq (qB 5) 20, nq (qB 5) 21, nq (qB 5) 22, nq (qB 5) 23, nq (qB 5) 24, nq (qB 5) 25, nq (qB 5) 26, nq (qB 5) 27, nq (qB 5) 28, nq (qB 5) 29, nq (qB 5) 30, nq (qB 5) 31, nq (qB 5) 32, nq (qB 5) 33, nq (qB 5) 34, nq (qB 5) 35, nq (qB 5) 36, nq (qB 5) 37, nq (qB 5) 38, nq (qB 5) 39, nq (qB 5) 40] = _
  rw [n5_0, n5_1, n5_2, n5_3, n5_4, n5_5, n5_6, n5_7, n5_8, n5_9, n5_10, n5_11, n5_12, n5_13, n5_14, n5_15, n5_16, n5_17, n5_18, n5_19, n5_20, n5_21, n5_22, n5_23, n5_24, n5_25, n5_26, n5_27, n5_28, n5_29, n5_30, n5_31, n5_32, n5_33, n5_34, n5_35, n5_36, n5_37, n5_38, n5_39, n5_40]
  rfl
theorem q5_row : QRow (qB 5) 40 := by
  refine ⟨fun i hi => qB_ok 5 i (by omega), fun i hi => qB_linked 5 i (by omega), ?_⟩
  have h := names5_nodup
  rw [← n5_all, List.pairwise_map, List.pairwise_iff_getElem] at h
  have key : ∀ i j, i < j → j ≤ 40 → nq (qB 5) i ≠ nq (qB 5) j := fun i j hij hj => by
    have := h i j (by simp; omega) (by simp; omega) hij
    simpa using this
  intro i j hi hj e
  rcases Nat.lt_trichotomy i j with h1 | h1 | h1
  · exact absurd e (key i j h1 hj)
  · exact h1
  · exact absurd e.symm (key j i h1 hi)
theorem QRow.mono {q : Nat → Bk} {m n : Nat} (h : QRow q n) (hm : m ≤ n) : QRow q m :=
  ⟨fun i hi => h.ok i (by omega), fun i hi => h.linked i (by omega), fun i j hi hj => h.inj i j (by omega) (by omega)⟩
end Go.Proofs.YtdjcjjodbniebaaGreatDoor
