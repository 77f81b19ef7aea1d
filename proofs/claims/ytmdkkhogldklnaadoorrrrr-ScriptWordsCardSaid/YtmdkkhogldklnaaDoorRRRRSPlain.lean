/-
  Words, bytes' words, numbers: plain.
-/
import Derived.Test.YtmdkkhogldklnaaDoorRRRRSText
import Derived.Test.YtmdkkhogldklnaaDoorRRRRTAscii
import Derived.Test.YtmdkkhogldklnaaDoorRRRRTDigits
namespace Go.Proofs.YtmdkkhogldklnaaDoorRRRR
/-- words: the one begun, the bytes that are left -/
def wordsGo (cur : List UInt8) : List UInt8 → List (List UInt8)
  | [] => [cur]
  | c :: r => if c = 32 then cur :: wordsGo [] r else wordsGo (cur ++ [c]) r
def wordsV (l : List UInt8) : List (List UInt8) := wordsGo [] l
theorem wordsGo_skip : ∀ (a cur r : List UInt8), (32 : UInt8) ∉ a → wordsGo cur (a ++ r) = wordsGo (cur ++ a) r
  | [], cur, r, _ => by simp
  | c :: a, cur, r, h => by
    have h1 : c ≠ 32 := fun e => h (by simp [e])
    rw [List.cons_append, wordsGo, if_neg h1, wordsGo_skip a _ r (fun hm => h (List.mem_cons_of_mem _ hm))]
    simp
def dig16 (n : Nat) : UInt8 := if n < 10 then UInt8.ofNat (48 + n) else UInt8.ofNat (87 + n)
def hexV (l : List UInt8) : List UInt8 := if l = [] then [45] else l.flatMap fun c => [dig16 (c.toNat / 16), dig16 (c.toNat % 16)]
/-- a digit's number; 16: it is none -/
def undig (c : Nat) : Nat := if 48 ≤ c ∧ c ≤ 57 then c - 48 else if 97 ≤ c ∧ c ≤ 102 then c - 87 else 16
def byt (a b : UInt8) : UInt8 := UInt8.ofNat (16 * undig a.toNat + undig b.toNat)
def pk : List UInt8 → List UInt8
  | a :: b :: r => byt a b :: pk r
  | _ => []
theorem pk_snoc : ∀ (a : List UInt8) (x y : UInt8), a.length % 2 = 0 → pk (a ++ [x, y]) = pk a ++ [byt x y]
  | [], x, y, _ => rfl
  | [_], x, y, h => by simp at h
  | a :: b :: r, x, y, h => by
    have := pk_snoc r x y (by simp at h; omega)
    simp [pk, this]
theorem pk_odd : ∀ (a : List UInt8) (x : UInt8), a.length % 2 = 0 → pk (a ++ [x]) = pk a
  | [], x, _ => rfl
  | [_], x, h => by simp at h
  | a :: b :: r, x, h => by
    have := pk_odd r x (by simp at h; omega)
    simp [pk, this]
theorem pk_len : ∀ (a : List UInt8), (pk a).length = a.length / 2
  | [] => rfl
  | [_] => by simp [pk]
  | a :: b :: r => by
    have := pk_len r
    simp [pk, this]; omega
def hexOk (l : List UInt8) : Bool := l.all fun c => decide (undig c.toNat < 16)
def bytesV (l : List UInt8) : Option (List UInt8) := if l = [45] then some [] else if l = [] ∨ l.length % 2 = 1 then none else if hexOk l = true then some (pk l) else none
def bytesL (l : List UInt8) : List UInt8 := (bytesV l).getD []
def bytesE (l : List UInt8) : Int := if (bytesV l).isSome then 0 else 8
def numV (l : List UInt8) : Option Nat := if l = [] ∨ (1 < l.length ∧ l.head? = some 48) then none else if digs l = true ∧ dval l ≤ 18446744073709551615 then some (dval l) else none
theorem undig_le (c : Nat) : undig c ≤ 16 := by unfold undig; split <;> (try split) <;> omega
/-! Runes and bytes. -/
open Go.Lib (decode_at decodeN)
theorem get_eq (l : List UInt8) (i : Nat) (h : i < l.length) : (strOf l).get! i = l[i] := by
  show (strOf l).data[i]! = _
  have hs : i < (strOf l).data.size := by simp [strOf, h]
  rw [getElem!_pos _ i hs]
  simp [strOf]
theorem get_out (l : List UInt8) (i : Nat) (h : l.length ≤ i) : ((strOf l).get! i).toNat = 0 := by
  show ((strOf l).data[i]!).toNat = 0
  have hs : ¬ i < (strOf l).data.size := by simp [strOf]; omega
  rw [getElem!_neg _ i hs]
  rfl
theorem rune_low {s : ByteArray} {i : Nat} (h : (s.get! i).toNat < 128) : Utf8.decode s i = ((s.get! i).toNat, 1) := by
  rw [decode_at]; unfold decodeN; rw [if_pos h]
theorem rune_high {s : ByteArray} {i : Nat} (h : ¬ (s.get! i).toNat < 128) : 128 ≤ (Utf8.decode s i).1 := by
  rw [decode_at]; unfold decodeN
  rw [if_neg h]
  repeat' split
  all_goals simp only
  all_goals omega
theorem rune_fits (l : List UInt8) {i : Nat} (h : i < l.length) : i + (Utf8.decode (strOf l) i).2 ≤ l.length := by
  rcases Nat.lt_or_ge l.length (i + (Utf8.decode (strOf l) i).2) with q | q
  · have := within (strOf l) i l.length h q
    rw [get_out l l.length (Nat.le_refl _)] at this
    omega
  · exact q
theorem rune_skip (l : List UInt8) {i : Nat} (h : i < l.length) {j : Nat} (h1 : i < j) (h2 : j < i + (Utf8.decode (strOf l) i).2) (hj : j < l.length) : 128 ≤ (l[j]).toNat := by
  have := within (strOf l) i j h1 h2
  rwa [get_eq l j hj] at this
end Go.Proofs.YtmdkkhogldklnaaDoorRRRR
