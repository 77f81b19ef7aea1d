/-
  Texts joined: SText, TAscii, TDigits, SPlain, SWords.
-/
import Derived.Test.YtpmmfabendnhiaaDoorJoin06
import Derived.Lib.AppendStr
import Derived.Laws.BytesArg
import Derived.Lib.DecodeN
import Derived.Laws.RangeString
import Derived.Lib.ItoaNum
import Derived.Lib.ItoaLen
namespace Go.Proofs.YtpmmfabendnhiaaDoor
open Go.RowKit
open Go.Lib (strCells byteCells)
set_option linter.unusedVariables false
set_option linter.unusedSimpArgs false
set_option maxRecDepth 10000
def strOf (l : List UInt8) : ByteArray := ⟨l.toArray⟩
theorem strOf_size (l : List UInt8) : (strOf l).size = l.length := by simp [strOf, ByteArray.size]
theorem strOf_get (l : List UInt8) (i : Nat) (h : i < l.length) : (strOf l)[i]? = some (l[i]) := by
  have hs : i < (strOf l).size := by rw [strOf_size]; exact h
  rw [getElem?_pos (strOf l) i hs]
  rfl
theorem run_index_str {P : Program} {w : World} {t : TypeId} (ht : P.underlying t = some .string) (l : List UInt8) (i : Nat) (h : i < l.length) : (Instr.index t (.string (strOf l)) (.int .i64 i)).run P w = .ok (.int .u8 ((l[i]).toNat : Int)) w := by
  unfold Instr.index
  have h2 : (0 : Int) ≤ i := by omega
  simp only [Sem.run_bind, asIntOf, Sem.run_pure, Result.andThen_ok, run_underlying ht]
  rw [if_pos h2, Int.toNat_natCast, strOf_get l i h]
  rfl
theorem take_digs {l : List UInt8} {i : Nat} (h : i < l.length) : l.take (i + 1) = l.take i ++ [l[i]] := by
  rw [List.take_add_one, List.getElem?_eq_getElem h]; rfl
theorem strOf_app (a b : List UInt8) : strOf a ++ strOf b = strOf (a ++ b) := by
  apply ByteArray.ext
  simp [strOf]
theorem strOf_self (s : ByteArray) : strOf s.data.toList = s := by simp [strOf]
theorem str_ext {a b : List UInt8} : (strOf a).toList = (strOf b).toList ↔ a = b := by
  have key : ∀ l : List UInt8, (strOf l).toList = l := fun l => by rw [ByteArray.toList_eq]; simp [strOf]
  rw [key, key]
theorem strOf_take (l : List UInt8) (i : Nat) : (strOf l).extract 0 i = strOf (l.take i) := by
  apply ByteArray.ext
  simp [strOf, ByteArray.data_extract]
theorem strOf_drop (l : List UInt8) (i : Nat) : (strOf l).extract i l.length = strOf (l.drop i) := by
  apply ByteArray.ext
  simp [strOf, ByteArray.data_extract]
  exact List.take_of_length_le (by simp)
theorem strOf_part (l : List UInt8) (i j : Nat) : (strOf l).extract i j = strOf ((l.take j).drop i) := by
  apply ByteArray.ext
  simp [strOf, ByteArray.data_extract, List.drop_take]
theorem str_nil : (strOf []).toList = [] := by rw [ByteArray.toList_eq]; rfl
theorem bl_app (a b : List UInt8) : byteCells a ++ byteCells b = byteCells (a ++ b) := by simp [byteCells]
theorem bl_len (a : List UInt8) : (byteCells a).length = a.length := by simp [byteCells]
theorem bl_one : ∀ l : List UInt8, allOne (byteCells l) = true
  | [] => rfl
  | c :: l => by
    show (true && allOne (byteCells l)) = true
    rw [bl_one l]; rfl
theorem bl_at (l : List UInt8) (i : Nat) (h : i < l.length) : (byteCells l)[i]? = some (.int .u8 ((l[i]).toNat : Int)) := by
  simp [byteCells, h]
theorem append1E {w : World} {base n g : Nat} {v : Value} {xs : List UInt8} {k : Kont} (hown : w.ownsRow base 5 1 v n (byteCells xs)) (hbs : base ≤ w.heap.size) (c : UInt8) {T : TypeId}
    (hN : Blk w g T #[.int .u8 (c.toNat : Int)]) (hn : n + 1 ≤ 70368744177664) (hk : ∀ v' w', w'.ownsRow base 5 1 v' (n + 1) (byteCells (xs ++ [c])) → w.grownBy w' v.ownBlock → k v' w') :
    resE Tryd.prog (appendR Tryd.prog 37 37 37 v (.slice (some ⟨g, 0, none⟩) 1 1) w) k := by
  refine appendE base 5 1 1 Tryd.underlying37 el5 hown (m := 1) (news := byteCells [c]) ⟨by simp [byteCells], fun _ => ⟨_, 0, rfl, hN.lt, fun j u hu => by rw [hN.cell]; simpa [byteCells] using hu⟩⟩ (bl_one _) (by unfold maxLen; omega) (by omega) hbs ?_
  intro v' w' hown' hgr _
  exact hk v' w' (by rw [← bl_app]; exact hown') hgr
theorem stringE {w : World} {A : Option Addr} {c : Nat} (l : List UInt8) (h : Rd w 1 A l.length (byteCells l)) (hpos : 0 < l.length) {k : Kont} (hk : k (.string (strOf l)) w) :
    resE Tryd.prog (((convert 37 9 (.slice A l.length c)).run Tryd.prog w).andThen fun a w' => .ok (.value a) w') k := by
  have hs : (convert 37 9 (.slice A l.length c)).run Tryd.prog w = .ok (.string (strOf l)) w := by
    obtain ⟨b, o, rfl, hlt, hc⟩ := h.cells hpos
    rw [run_convert_bytes_arg w 37 5 Tryd.underlying37 Tryd.underlying5 b o l.length c (l.map fun x => (x.toNat : Int)) (by simp) (fun i hi => ?_) 9 Tryd.underlying9]
    · simp [strOfNums, strOf, Function.comp_def]
    · rw [hc i _ (bl_at l i hi)]
      simp [List.getElem?_eq_getElem hi]
  rw [hs]; exact hk
end Go.Proofs.YtpmmfabendnhiaaDoor
namespace Go.Proofs.YtpmmfabendnhiaaDoor
open Go.RowKit
open Go.Lib (decode_at decodeN)
theorem within (s : ByteArray) (i j : Nat) (h1 : i < j) (h2 : j < i + (Utf8.decode s i).2) : 128 ≤ (s.get! j).toNat := by
  rw [decode_at] at h2
  unfold decodeN at h2
  split at h2
  · simp only at h2; omega
  split at h2
  · rename_i h
    split at h2
    · simp only at h2
      obtain rfl : j = i + 1 := by omega
      omega
    · simp only at h2; omega
  split at h2
  · rename_i h
    split at h2
    · simp only at h2
      rcases (by omega : j = i + 1 ∨ j = i + 2) with rfl | rfl <;> omega
    · simp only at h2; omega
  split at h2
  · rename_i h
    split at h2
    · simp only at h2
      rcases (by omega : j = i + 1 ∨ j = i + 2 ∨ j = i + 3) with rfl | rfl | rfl <;> omega
    · simp only at h2; omega
  · simp only at h2; omega
theorem ascii_mem (s : ByteArray) : ∀ f i j : Nat, s.size ≤ f + i → i ≤ j → j < s.size → (s.get! j).toNat < 128 → ((s.get! j).toNat : Int) ∈ runesF s f i
  | 0, i, j, h, h1, h2, _ => by omega
  | f + 1, i, j, h, h1, h2, h3 => by
    simp only [runesF]
    rw [if_pos (by omega)]
    by_cases e : i = j
    · subst e
      have : (Utf8.decode s i).1 = (s.get! i).toNat := by rw [decode_at]; unfold decodeN; rw [if_pos h3]
      rw [this]
      exact List.mem_cons_self
    · have hw : i + (Utf8.decode s i).2 ≤ j := by
        rcases Nat.lt_or_ge j (i + (Utf8.decode s i).2) with q | q
        · have := within s i j (by omega) q; omega
        · exact q
      have hp : 1 ≤ (Utf8.decode s i).2 := by
        rw [decode_at]; unfold decodeN
        repeat' split
        all_goals simp
      exact List.mem_cons_of_mem _ (ascii_mem s f _ j (by omega) hw h2 h3)
theorem ascii_runes {s : ByteArray} {c : UInt8} (h : c ∈ s.data.toList) (hc : c.toNat < 128) : (c.toNat : Int) ∈ runes s := by
  obtain ⟨j, hj, rfl⟩ := List.mem_iff_getElem.1 h
  have hj' : j < s.size := by rw [Array.length_toList] at hj; exact hj
  have e : s.get! j = s.data.toList[j] := by
    rw [Array.getElem_toList]
    show s.data[j]! = _
    rw [getElem!_pos s.data j hj']
  rw [← e] at hc ⊢
  exact ascii_mem s s.size 0 j (by omega) (by omega) hj' hc
end Go.Proofs.YtpmmfabendnhiaaDoor
namespace Go.Proofs.YtpmmfabendnhiaaDoor
open Go.Lib
/-- digits alone -/
def digs (l : List UInt8) : Bool := l.all fun c => decide (48 ≤ c.toNat ∧ c.toNat ≤ 57)
/-- their number -/
def dval (l : List UInt8) : Nat := l.foldl (fun n c => 10 * n + (c.toNat - 48)) 0
theorem dval_snoc (l : List UInt8) (c : UInt8) : dval (l ++ [c]) = 10 * dval l + (c.toNat - 48) := by unfold dval; rw [List.foldl_append]; rfl
theorem digs_snoc (l : List UInt8) (c : UInt8) : digs (l ++ [c]) = (digs l && decide (48 ≤ c.toNat ∧ c.toNat ≤ 57)) := by unfold digs; rw [List.all_append]; simp
theorem ofNat_toNat {n : Nat} (h : n < 256) : (UInt8.ofNat n).toNat = n := by simp; omega
theorem dec_props : ∀ u : Nat, digs (decDigits u) = true ∧ dval (decDigits u) = u ∧ decDigits u ≠ [] ∧ (1 ≤ u → ∃ c r, decDigits u = c :: r ∧ c.toNat ≠ 48) := by
  intro u
  induction u using Nat.strongRecOn with
  | _ u ih =>
    by_cases h : u < 10
    · rw [decDigits_one h]
      have e := ofNat_toNat (n := 48 + u) (by omega)
      refine ⟨?_, ?_, by simp, fun h1 => ⟨_, _, rfl, by rw [e]; omega⟩⟩
      · simp only [digs, List.all_cons, List.all_nil, Bool.and_true, decide_eq_true_eq, e]; omega
      · simp only [dval, List.foldl_cons, List.foldl_nil, e]; omega
    · obtain ⟨h1, h2, h3, h4⟩ := ih (u / 10) (by omega)
      rw [decDigits, dif_neg h]
      have e := ofNat_toNat (n := 48 + u % 10) (by omega)
      refine ⟨?_, ?_, by simp, fun _ => ?_⟩
      · rw [digs_snoc, h1, e]; simp; omega
      · rw [dval_snoc, h2, e]; omega
      · obtain ⟨c, r, q1, q2⟩ := h4 (by omega)
        exact ⟨c, r ++ [_], by rw [q1]; rfl, q2⟩
theorem snoc_cases {α : Type} : ∀ l : List α, l = [] ∨ ∃ a b, l = a ++ [b]
  | [] => .inl rfl
  | x :: l => by
    rcases snoc_cases l with rfl | ⟨a, b, rfl⟩
    · exact .inr ⟨[], x, rfl⟩
    · exact .inr ⟨x :: a, b, rfl⟩
/-- a numeral that does not begin with 0 is its number's -/
theorem dec_back : ∀ (k : Nat) (l : List UInt8), l.length = k → digs l = true → (∃ c r, l = c :: r ∧ c.toNat ≠ 48) → decDigits (dval l) = l ∧ 1 ≤ dval l := by
  intro k
  induction k with
  | zero => rintro l hl _ ⟨c, r, rfl, _⟩; cases hl
  | succ k ih =>
    rintro l hl hd ⟨c, r, rfl, hc⟩
    rcases snoc_cases r with rfl | ⟨a, b, rfl⟩
    · simp only [digs, List.all_cons, List.all_nil, Bool.and_true, decide_eq_true_eq] at hd
      have e : dval [c] = c.toNat - 48 := by simp [dval]
      rw [e, decDigits_one (by omega)]
      refine ⟨?_, by omega⟩
      congr 1
      apply UInt8.toNat_inj.1
      rw [ofNat_toNat (by omega)]; omega
    · have e1 : c :: (a ++ [b]) = (c :: a) ++ [b] := rfl
      rw [e1] at hd ⊢
      rw [digs_snoc, Bool.and_eq_true, decide_eq_true_eq] at hd
      obtain ⟨i1, i2⟩ := ih (c :: a) (by simpa using hl) hd.1 ⟨c, a, rfl, hc⟩
      rw [dval_snoc]
      refine ⟨?_, by omega⟩
      have q1 : (10 * dval (c :: a) + (b.toNat - 48)) / 10 = dval (c :: a) := by omega
      have q2 : (10 * dval (c :: a) + (b.toNat - 48)) % 10 = b.toNat - 48 := by omega
      rw [decDigits, dif_neg (by omega), q1, q2, i1]
      congr 2
      apply UInt8.toNat_inj.1
      rw [ofNat_toNat (by omega)]; omega
theorem dval_mono (l : List UInt8) : ∀ r : List UInt8, dval l ≤ dval (l ++ r) := by
  intro r
  induction r generalizing l with
  | nil => simp
  | cons c r ih =>
    have := ih (l ++ [c])
    rw [dval_snoc] at this
    rw [show l ++ c :: r = (l ++ [c]) ++ r by simp]
    omega
/-- the number of a weight's text; 0: it is none -/
def weightV (l : List UInt8) : Int := if 1 ≤ l.length ∧ l.length ≤ 19 ∧ l.head? ≠ some 48 ∧ digs l = true ∧ dval l ≤ 4611686018427387903 then dval l else 0
/-- the number that digits are; -1: none -/
def numberV (l : List UInt8) : Int := if digs l = true ∧ dval l ≤ 4611686018427387903 then dval l else -1
theorem nDigits_le19 {u : Nat} (h : u ≤ 4611686018427387903) : nDigits u ≤ 19 := by
  rcases Nat.lt_or_ge 19 (nDigits u) with q | q
  · have hp := nDigits_unique (nDigits u - 1) u
    exfalso
    have key : ∀ k u : Nat, nDigits u = k + 1 → 1 ≤ u → 10 ^ k ≤ u := by
      intro k
      induction k with
      | zero => intro u _ h; simpa using h
      | succ k ih =>
        intro u hu _
        by_cases h10 : u < 10
        · rw [nDigits_small h10] at hu; omega
        · rw [nDigits_big h10] at hu
          have := ih (u / 10) (by omega) (by omega)
          rw [Nat.pow_succ]; omega
    have h1 := key (nDigits u - 1) u (by omega) (by
      rcases Nat.eq_zero_or_pos u with z | z
      · subst z; rw [nDigits_small (by omega)] at q; omega
      · exact z)
    have h2 : 10 ^ 19 ≤ 10 ^ (nDigits u - 1) := Nat.pow_le_pow_right (by omega) (by omega)
    have h3 : (10 : Nat) ^ 19 = 10000000000000000000 := by decide
    omega
  · exact q
/-- both ways of reading a weight say the same -/
theorem weight_number (l : List UInt8) (n : Int) (hn : 1 ≤ n) : weightV l = n ↔ numberV l = n ∧ decDigits n.toNat = l := by
  obtain ⟨m, rfl⟩ : ∃ m : Nat, n = m := ⟨n.toNat, by omega⟩
  rw [Int.toNat_natCast]
  constructor
  · intro h
    unfold weightV at h
    split at h
    · rename_i hc
      obtain ⟨c1, c2, c3, c4, c5⟩ := hc
      have hb := dec_back l.length l rfl c4 (by
        cases l with
        | nil => simp at c1
        | cons c r => exact ⟨c, r, rfl, fun e => c3 (by simp only [List.head?_cons, Option.some.injEq]; exact UInt8.toNat_inj.1 e)⟩)
      refine ⟨by unfold numberV; rw [if_pos ⟨c4, c5⟩]; exact h, ?_⟩
      rw [show m = dval l by omega]; exact hb.1
    · omega
  · rintro ⟨h1, h2⟩
    unfold numberV at h1
    split at h1
    · rename_i hc
      obtain ⟨p1, p2, p3, p4⟩ := dec_props m
      obtain ⟨c, r, q1, q2⟩ := p4 (by omega)
      have hlen : l.length = nDigits m := by rw [← h2, decDigits_length]
      have h19 := nDigits_le19 (u := m) (by omega)
      have h1' := nDigits_pos m
      unfold weightV
      rw [if_pos ⟨by omega, by omega, by rw [← h2, q1]; simp only [List.head?_cons, ne_eq, Option.some.injEq]; intro e; exact q2 (by rw [e]; rfl), hc.1, hc.2⟩]
      exact h1
    · omega
end Go.Proofs.YtpmmfabendnhiaaDoor
namespace Go.Proofs.YtpmmfabendnhiaaDoor
/-- words: the one begun, the bytes that are left -/
def wordsGo (cur : List UInt8) : List UInt8 → List (List UInt8)
  | [] => [cur]
  | c :: r => if c = 32 then cur :: wordsGo [] r else wordsGo (cur ++ [c]) r
def wordsV (l : List UInt8) : List (List UInt8) := wordsGo [] l
theorem wordsGo_skip : ∀ (a cur r : List UInt8), (32 : UInt8) ∉ a → wordsGo cur (a ++ r) = wordsGo (cur ++ a) r
  | [], cur, r, _ => by simp
  | c :: a, cur, r, h => by
    have h1 : c ≠ 32 := fun e => h (by simp [e])
    rw [List.cons_append, wordsGo, if_neg h1, wordsGo_skip a _ r (fun hm => h (List.mem_cons_of_mem _ hm))]
    simp
def dig16 (n : Nat) : UInt8 := if n < 10 then UInt8.ofNat (48 + n) else UInt8.ofNat (87 + n)
def hexV (l : List UInt8) : List UInt8 := if l = [] then [45] else l.flatMap fun c => [dig16 (c.toNat / 16), dig16 (c.toNat % 16)]
/-- a digit's number; 16: it is none -/
def undig (c : Nat) : Nat := if 48 ≤ c ∧ c ≤ 57 then c - 48 else if 97 ≤ c ∧ c ≤ 102 then c - 87 else 16
def byt (a b : UInt8) : UInt8 := UInt8.ofNat (16 * undig a.toNat + undig b.toNat)
def pk : List UInt8 → List UInt8
  | a :: b :: r => byt a b :: pk r
  | _ => []
theorem pk_snoc : ∀ (a : List UInt8) (x y : UInt8), a.length % 2 = 0 → pk (a ++ [x, y]) = pk a ++ [byt x y]
  | [], x, y, _ => rfl
  | [_], x, y, h => by simp at h
  | a :: b :: r, x, y, h => by
    have := pk_snoc r x y (by simp at h; omega)
    simp [pk, this]
theorem pk_odd : ∀ (a : List UInt8) (x : UInt8), a.length % 2 = 0 → pk (a ++ [x]) = pk a
  | [], x, _ => rfl
  | [_], x, h => by simp at h
  | a :: b :: r, x, h => by
    have := pk_odd r x (by simp at h; omega)
    simp [pk, this]
theorem pk_len : ∀ (a : List UInt8), (pk a).length = a.length / 2
  | [] => rfl
  | [_] => by simp [pk]
  | a :: b :: r => by
    have := pk_len r
    simp [pk, this]; omega
def hexOk (l : List UInt8) : Bool := l.all fun c => decide (undig c.toNat < 16)
def bytesV (l : List UInt8) : Option (List UInt8) := if l = [45] then some [] else if l = [] ∨ l.length % 2 = 1 then none else if hexOk l = true then some (pk l) else none
def bytesL (l : List UInt8) : List UInt8 := (bytesV l).getD []
def bytesE (l : List UInt8) : Int := if (bytesV l).isSome then 0 else 8
def numV (l : List UInt8) : Option Nat := if l = [] ∨ (1 < l.length ∧ l.head? = some 48) then none else if digs l = true ∧ dval l ≤ 18446744073709551615 then some (dval l) else none
theorem undig_le (c : Nat) : undig c ≤ 16 := by unfold undig; split <;> (try split) <;> omega
/-! Runes and bytes. -/
open Go.Lib (decode_at decodeN)
theorem get_eq (l : List UInt8) (i : Nat) (h : i < l.length) : (strOf l).get! i = l[i] := by
  show (strOf l).data[i]! = _
  have hs : i < (strOf l).data.size := by simp [strOf, h]
  rw [getElem!_pos _ i hs]
  simp [strOf]
theorem get_out (l : List UInt8) (i : Nat) (h : l.length ≤ i) : ((strOf l).get! i).toNat = 0 := by
  show ((strOf l).data[i]!).toNat = 0
  have hs : ¬ i < (strOf l).data.size := by simp [strOf]; omega
  rw [getElem!_neg _ i hs]
  rfl
theorem rune_low {s : ByteArray} {i : Nat} (h : (s.get! i).toNat < 128) : Utf8.decode s i = ((s.get! i).toNat, 1) := by
  rw [decode_at]; unfold decodeN; rw [if_pos h]
theorem rune_high {s : ByteArray} {i : Nat} (h : ¬ (s.get! i).toNat < 128) : 128 ≤ (Utf8.decode s i).1 := by
  rw [decode_at]; unfold decodeN
  rw [if_neg h]
  repeat' split
  all_goals simp only
  all_goals omega
theorem rune_fits (l : List UInt8) {i : Nat} (h : i < l.length) : i + (Utf8.decode (strOf l) i).2 ≤ l.length := by
  rcases Nat.lt_or_ge l.length (i + (Utf8.decode (strOf l) i).2) with q | q
  · have := within (strOf l) i l.length h q
    rw [get_out l l.length (Nat.le_refl _)] at this
    omega
  · exact q
theorem rune_skip (l : List UInt8) {i : Nat} (h : i < l.length) {j : Nat} (h1 : i < j) (h2 : j < i + (Utf8.decode (strOf l) i).2) (hj : j < l.length) : 128 ≤ (l[j]).toNat := by
  have := within (strOf l) i j h1 h2
  rwa [get_eq l j hj] at this
end Go.Proofs.YtpmmfabendnhiaaDoor
namespace Go.Proofs.YtpmmfabendnhiaaDoor
open Go.RowKit
set_option linter.unusedVariables false
set_option linter.unusedSimpArgs false
set_option maxRecDepth 10000
theorem undS : Tryd.prog.underlying 9 = some .string := by kernel_rfl
theorem own_keep {w w' : World} {base e size n : Nat} {v : Value} {xs : List Value} (h : w.ownsRow base e size v n xs) (hb : Below w.heap.size w w') : w'.ownsRow base e size v n xs := row_below h hb
def strs (l : List (List UInt8)) : List Value := l.map fun t => .string (strOf t)
theorem strs_app (a b : List (List UInt8)) : strs (a ++ b) = strs a ++ strs b := by simp [strs]
/-- A word appended to a row of the call's own. -/
theorem appendW {w : World} {base n g : Nat} {v : Value} {xs : List (List UInt8)} {t : List UInt8} {T : TypeId} {k : Kont} (hown : w.ownsRow base 9 1 v n (strs xs)) (hN : Blk w g T #[.string (strOf t)]) (hbs : base ≤ w.heap.size) (hn : n ≤ 100000)
    (hk : ∀ v' w', w'.ownsRow base 9 1 v' (n + 1) (strs (xs ++ [t])) → w.grownBy w' v.ownBlock → k v' w') :
    resE Tryd.prog (appendR Tryd.prog 56 56 56 v (.slice (some ⟨g, 0, none⟩) 1 1) w) k := by
  refine appendE base 9 1 16 Tryd.underlying56 el9 hown (m := 1) (news := strs [t]) ⟨rfl, fun _ => ⟨_, 0, rfl, hN.lt, fun j u hu => by rw [hN.cell]; simpa [strs] using hu⟩⟩ rfl (by unfold maxLen; omega) (by omega) hbs ?_
  intro v' w' hown' hgr _
  exact hk v' w' (by rw [strs_app]; exact hown') hgr
theorem wordsGo_len : ∀ (l cur : List UInt8), (wordsGo cur l).length ≤ l.length + 1
  | [], cur => by simp [wordsGo]
  | c :: l, cur => by
    unfold wordsGo
    split
    · have := wordsGo_len l []; simp; omega
    · have := wordsGo_len l (cur ++ [c]); simp; omega
theorem drop_at {l : List UInt8} {i : Nat} (h : i < l.length) : l.drop i = l[i] :: l.drop (i + 1) := by simp
theorem take_more {l : List UInt8} {f i j : Nat} (h1 : f ≤ i) (h2 : i ≤ j) (h3 : i ≤ l.length) : (l.take j).drop f = (l.take i).drop f ++ (l.take j).drop i := by
  have e : l.take j = l.take i ++ (l.take j).drop i := by
    have := List.take_append_drop i (l.take j)
    rw [List.take_take, Nat.min_eq_left h2] at this
    exact this.symm
  have := congrArg (List.drop f) e
  rw [List.drop_append_of_le_length (by simp; omega)] at this
  exact this
/-- the bytes that an iterator has ahead -/
def itLeft (r n : Nat) (w : World) : Nat := match w.heap[r]? with | some (.stringIter _ i) => n - i | _ => 0
theorem itLeft_eq {r n : Nat} {w : World} {s : ByteArray} {i : Nat} (h : It w r s i) : itLeft r n w = n - i := by
  have h' : w.heap[r]? = some (.stringIter s i) := h
  unfold itLeft; rw [h']
theorem own_itPut {w : World} {base e size n : Nat} {v : Value} {xs : List Value} (h : w.ownsRow base e size v n xs) {r : Nat} (hr : r < base) (o : Obj) : (itPut w r o).ownsRow base e size v n xs := by
  refine ⟨h.1, ?_⟩
  rcases h.2 with q | ⟨g, cap, cur, q1, q2, q3, q4⟩
  · exact .inl q
  · exact .inr ⟨g, cap, cur, q1, q2, by rw [itPut_far _ _ _ (by omega)]; exact q3, q4⟩
theorem It_far {w w' : World} {r : Nat} {s : ByteArray} {i : Nat} (h : It w r s i) (he : w'.heap[r]? = w.heap[r]?) : It w' r s i := he.trans h
theorem row_low {w : World} {b b' e size n : Nat} {v : Value} {xs : List Value} (h : w.ownsRow b e size v n xs) (hb : b' ≤ b) : w.ownsRow b' e size v n xs := by
  refine ⟨h.1, ?_⟩
  rcases h.2 with q | ⟨g, cap, cur, q1, q2, q3⟩
  · exact .inl q
  · exact .inr ⟨g, cap, cur, q1, by omega, q3⟩
/-- what a rune that is no blank leaves behind: no blank among its bytes -/
theorem rune_no {l : List UInt8} {i : Nat} (h : i < l.length) {c : UInt8} (hc : l[i] ≠ c) (h128 : c.toNat < 128) : c ∉ (l.take (i + (Utf8.decode (strOf l) i).2)).drop i ∧ (((Utf8.decode (strOf l) i).1 : Int) == (c.toNat : Int)) = false := by
  have hfit := rune_fits l h
  refine ⟨fun hm => ?_, ?_⟩
  · obtain ⟨k, hk, e⟩ := List.getElem_of_mem hm
    simp only [List.getElem_drop, List.getElem_take] at e
    simp only [List.length_drop, List.length_take] at hk
    rcases Nat.eq_zero_or_pos k with rfl | hp
    · exact hc (by simpa using e)
    · have := rune_skip l h (j := i + k) (by omega) (by omega) (by omega)
      rw [e] at this
      omega
  · apply beq_eq_false_iff_ne.2
    intro e
    have hg := get_eq l i h
    by_cases hlo : ((strOf l).get! i).toNat < 128
    · rw [rune_low hlo, hg] at e
      have e' : ((l[i].toNat : Nat) : Int) = ((c.toNat : Nat) : Int) := e
      exact hc (UInt8.toNat_inj.1 (Int.ofNat.inj e'))
    · have := rune_high hlo
      omega
set_option maxHeartbeats 3200000 in
theorem words_any (t : List UInt8) (ht : t.length ≤ 50000) (w : World) :
    callE Tryd.prog 12 #[.string (strOf t)] w fun v w' => w'.ownsRow w.heap.size 9 1 v (wordsV t).length (strs (wordsV t)) ∧ Below w.heap.size w w' := by
  have hr := fun w => run_range_str (P := Tryd.prog) (w := w) undS (strOf t)
  refine calls_E Tryd.func12 rfl rfl rfl (Nat.le_of_ble_eq_true rfl) ?_
  simp [go_sem, IntWalk.iteOmega, IntWalk.toNatUp, hr]
  refine W_loop (fun st wr => ∃ (i f : Nat) (ws : List (List UInt8)) (v : Value), f ≤ i ∧ i ≤ t.length ∧ ws.length ≤ i ∧ st 0 = .string (strOf t) ∧ st 8 = .pointer (some ⟨w.heap.size, 0, none⟩) ∧ st 3 = v ∧ st 4 = .int .i64 f ∧ It wr w.heap.size (strOf t) i ∧ wordsV t = ws ++ wordsGo ((t.take i).drop f) (t.drop i) ∧ wr.ownsRow (w.heap.size + 1) 9 1 v ws.length (strs ws) ∧ Below w.heap.size w wr) (fun _ wr => itLeft w.heap.size t.length wr) ?_ ?_
  · exact ⟨0, 0, [], .slice none 0 0, by omega, by omega, by simp, by simp [go_sem], by simp [go_sem], by simp [go_sem], by simp [go_sem], It_made w _, by simp [wordsV], World.ownsRow_nil _ _ _ _, ext_alloc _ _⟩
  · rintro st wr ⟨i, f, ws, v, hfi, hi, hwl, e0, e8, e3, e4, hit, hwv, hown, hbw⟩
    have hsz : w.heap.size < wr.heap.size := hit.lt
    have hleft := itLeft_eq (n := t.length) hit
    by_cases hlt : i < t.length
    · have hlt' : i < (strOf t).size := by rw [strOf_size]; exact hlt
      have hw := width_pos (strOf t) i
      have hfit := rune_fits t hlt
      have hx := run_next_str (P := Tryd.prog) hit
      by_cases hc : t[i] = 32
      · have hg : ((strOf t).get! i).toNat = 32 := (congrArg UInt8.toNat ((get_eq t i hlt).trans hc)).trans rfl
        have hd := rune_low (s := strOf t) (i := i) (by rw [hg]; omega)
        rw [hg] at hd
        rw [hd] at hx hfit
        simp only at hx hfit
        have hit2 := hit.put (i + 1)
        have hown2 := own_itPut hown (r := w.heap.size) (by omega) (.stringIter (strOf t) (i + 1))
        have hbw2 := Below.itPut hbw (Nat.le_refl _) (.stringIter (strOf t) (i + 1))
        have hsz2 : w.heap.size < (itPut wr w.heap.size (.stringIter (strOf t) (i + 1))).heap.size := hit2.lt
        have hpsz := itPut_size wr w.heap.size (.stringIter (strOf t) (i + 1))
        simp [go_sem, IntWalk.iteOmega, IntWalk.toNatUp, e0, e8, e3, e4, hx, hlt', strOf_part]
        rw [← hpsz]
        generalize itPut wr w.heap.size (.stringIter (strOf t) (i + 1)) = w2 at *
        have hN : Blk (w2.alloc (.cells #[.string (strOf ((t.take i).drop f))] 9)) w2.heap.size 9 #[.string (strOf ((t.take i).drop f))] := Blk.self_ rfl
        have hlt2 := hown2.lt
        have hbA := hbw2.alloc hbw2.size (.cells #[.string (strOf ((t.take i).drop f))] 9)
        refine appendW (own_keep hown2 (ext_alloc w2 _)) hN (by simp; omega) (by omega) ?_
        intro v3 w3 hown3 g3
        have hb3 := hbA.grown g3 hbA.size (fun k hk => by have := (hlt2 k hk).1; omega)
        have hit3 := It_far (hit2.keep (ext_alloc w2 (.cells #[.string (strOf ((t.take i).drop f))] 9))) (g3.block w.heap.size (by simp; omega) (fun e => by have := (hlt2 _ e.symm).1; omega))
        simp [go_sem, IntWalk.iteOmega, IntWalk.toNatUp, e0, e8, e3, e4]
        refine roundEnd.mk ⟨i + 1, i + 1, ws ++ [(t.take i).drop f], v3, by omega, by omega, by simp; omega, by simp [go_sem, e0], by simp [go_sem, e8], by simp [go_sem], by simp [go_sem], hit3, ?_, by simpa using hown3, hb3⟩ ?_
        · have hdr : t.drop i = 32 :: t.drop (i + 1) := (drop_at hlt).trans (congrArg (· :: t.drop (i + 1)) hc)
          have e2 : (t.take (i + 1)).drop (i + 1) = [] := List.drop_eq_nil_of_le (by simp; omega)
          rw [hwv, hdr, wordsGo, if_pos rfl, e2]
          simp
        · rw [itLeft_eq hit3, hleft]; omega
      · obtain ⟨hno, hne⟩ := rune_no hlt (c := 32) hc (by decide)
        have hne' : (((Utf8.decode (strOf t) i).1 : Int) == 32) = false := hne
        have hit2 := hit.put (i + (Utf8.decode (strOf t) i).2)
        have hown2 := own_itPut hown (r := w.heap.size) (by omega) (.stringIter (strOf t) (i + (Utf8.decode (strOf t) i).2))
        have hbw2 := Below.itPut hbw (Nat.le_refl _) (.stringIter (strOf t) (i + (Utf8.decode (strOf t) i).2))
        generalize Utf8.decode (strOf t) i = D at *
        obtain ⟨rn, wd⟩ := D
        simp only at hno hne' hit2 hown2 hbw2 hw hfit hx
        simp [go_sem, IntWalk.iteOmega, IntWalk.toNatUp, e0, e8, e3, e4, hx, hlt', hne']
        refine roundEnd.mk ⟨i + wd, f, ws, v, by omega, by omega, by omega, by simp [go_sem, e0], by simp [go_sem, e8], by simp [go_sem, e3], by simp [go_sem, e4], hit2, ?_, hown2, hbw2⟩ ?_
        · rw [hwv, take_more (j := i + wd) hfi (by omega) hi]
          have : t.drop i = (t.take (i + wd)).drop i ++ t.drop (i + wd) := by
            conv => lhs; rw [← List.take_append_drop (i + wd) t]
            exact List.drop_append_of_le_length (by simp; omega)
          rw [this, wordsGo_skip _ _ _ hno]
        · rw [itLeft_eq hit2, hleft]; omega
    · obtain rfl : i = t.length := by omega
      have hx := run_next_end (P := Tryd.prog) hit
      have hlt' : ¬ t.length < (strOf t).size := by rw [strOf_size]; omega
      simp [go_sem, IntWalk.iteOmega, IntWalk.toNatUp, e0, e8, e3, e4, hx, hlt', strOf_size, strOf_drop]
      have hN : Blk (wr.alloc (.cells #[.string (strOf (t.drop f))] 9)) wr.heap.size 9 #[.string (strOf (t.drop f))] := Blk.self_ rfl
      have hlt2 := hown.lt
      have hbA := hbw.alloc hbw.size (.cells #[.string (strOf (t.drop f))] 9)
      refine appendW (own_keep hown (ext_alloc wr _)) hN (by simp; omega) (by omega) ?_
      intro v3 w3 hown3 g3
      have hb3 := hbA.grown g3 hbA.size (fun k hk => by have := (hlt2 k hk).1; omega)
      have hwv' : wordsV t = ws ++ [t.drop f] := by
        rw [hwv, List.take_of_length_le (Nat.le_refl _), List.drop_of_length_le (Nat.le_refl _)]; rfl
      simp [go_sem, IntWalk.iteOmega, IntWalk.toNatUp]
      rw [hwv']
      exact ⟨row_low (by simpa using hown3) (by omega), hb3⟩
end Go.Proofs.YtpmmfabendnhiaaDoor
