/-
  A byte below 128 is a rune.
-/
import Derived.Test.YtmdkkhogldklnaaDoorRRRRRunes
import Derived.Lib.DecodeN
import Derived.Laws.RangeString
namespace Go.Proofs.YtmdkkhogldklnaaDoorRRRR
open Go.RowKit
open Go.Lib (decode_at decodeN)
theorem within (s : ByteArray) (i j : Nat) (h1 : i < j) (h2 : j < i + (Utf8.decode s i).2) : 128 ≤ (s.get! j).toNat := by
  rw [decode_at] at h2
  unfold decodeN at h2
  split at h2
  · simp only at h2; omega
  split at h2
  · rename_i h
    split at h2
    · simp only at h2
      obtain rfl : j = i + 1 := by omega
      omega
    · simp only at h2; omega
  split at h2
  · rename_i h
    split at h2
    · simp only at h2
      rcases (by omega : j = i + 1 ∨ j = i + 2) with rfl | rfl <;> omega
    · simp only at h2; omega
  split at h2
  · rename_i h
    split at h2
    · simp only at h2
      rcases (by omega : j = i + 1 ∨ j = i + 2 ∨ j = i + 3) with rfl | rfl | rfl <;> omega
    · simp only at h2; omega
  · simp only at h2; omega
theorem ascii_mem (s : ByteArray) : ∀ f i j : Nat, s.size ≤ f + i → i ≤ j → j < s.size → (s.get! j).toNat < 128 → ((s.get! j).toNat : Int) ∈ runesF s f i
  | 0, i, j, h, h1, h2, _ => by omega
  | f + 1, i, j, h, h1, h2, h3 => by
    simp only [runesF]
    rw [if_pos (by omega)]
    by_cases e : i = j
    · subst e
      have : (Utf8.decode s i).1 = (s.get! i).toNat := by rw [decode_at]; unfold decodeN; rw [if_pos h3]
      rw [this]
      exact List.mem_cons_self
    · have hw : i + (Utf8.decode s i).2 ≤ j := by
        rcases Nat.lt_or_ge j (i + (Utf8.decode s i).2) with q | q
        · have := within s i j (by omega) q; omega
        · exact q
      have hp : 1 ≤ (Utf8.decode s i).2 := by
        rw [decode_at]; unfold decodeN
        repeat' split
        all_goals simp
      exact List.mem_cons_of_mem _ (ascii_mem s f _ j (by omega) hw h2 h3)
theorem ascii_runes {s : ByteArray} {c : UInt8} (h : c ∈ s.data.toList) (hc : c.toNat < 128) : (c.toNat : Int) ∈ runes s := by
  obtain ⟨j, hj, rfl⟩ := List.mem_iff_getElem.1 h
  have hj' : j < s.size := by rw [Array.length_toList] at hj; exact hj
  have e : s.get! j = s.data.toList[j] := by
    rw [Array.getElem_toList]
    show s.data[j]! = _
    rw [getElem!_pos s.data j hj']
  rw [← e] at hc ⊢
  exact ascii_mem s s.size 0 j (by omega) (by omega) hj' hc
end Go.Proofs.YtmdkkhogldklnaaDoorRRRR
