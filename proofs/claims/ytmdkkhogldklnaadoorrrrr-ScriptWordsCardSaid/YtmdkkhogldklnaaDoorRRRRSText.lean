/-
  Texts as lists of bytes; bytes appended.
-/
import Derived.Test.YtmdkkhogldklnaaDoorRRRRTypes
import Derived.Test.YtmdkkhogldklnaaDoorRRRROwn
import Derived.Test.YtmdkkhogldklnaaDoorRRRRMake
import Derived.Test.YtmdkkhogldklnaaDoorRRRRRunes
import Derived.Test.YtmdkkhogldklnaaDoorRRRRFlow
import Derived.Test.YtmdkkhogldklnaaDoorRRRRRounds
import Derived.Lib.AppendStr
import Derived.Laws.BytesArg
namespace Go.Proofs.YtmdkkhogldklnaaDoorRRRR
open Go.RowKit
open Go.Lib (strCells byteCells)
set_option linter.unusedVariables false
set_option linter.unusedSimpArgs false
set_option maxRecDepth 10000
def strOf (l : List UInt8) : ByteArray := ⟨l.toArray⟩
theorem strOf_size (l : List UInt8) : (strOf l).size = l.length := by simp [strOf, ByteArray.size]
theorem strOf_get (l : List UInt8) (i : Nat) (h : i < l.length) : (strOf l)[i]? = some (l[i]) := by
  have hs : i < (strOf l).size := by rw [strOf_size]; exact h
  rw [getElem?_pos (strOf l) i hs]
  rfl
theorem run_index_str {P : Program} {w : World} {t : TypeId} (ht : P.underlying t = some .string) (l : List UInt8) (i : Nat) (h : i < l.length) : (Instr.index t (.string (strOf l)) (.int .i64 i)).run P w = .ok (.int .u8 ((l[i]).toNat : Int)) w := by
  unfold Instr.index
  have h2 : (0 : Int) ≤ i := by omega
  simp only [Sem.run_bind, asIntOf, Sem.run_pure, Result.andThen_ok, run_underlying ht]
  rw [if_pos h2, Int.toNat_natCast, strOf_get l i h]
  rfl
theorem take_digs {l : List UInt8} {i : Nat} (h : i < l.length) : l.take (i + 1) = l.take i ++ [l[i]] := by
  rw [List.take_add_one, List.getElem?_eq_getElem h]; rfl
theorem strOf_app (a b : List UInt8) : strOf a ++ strOf b = strOf (a ++ b) := by
  apply ByteArray.ext
  simp [strOf]
theorem strOf_self (s : ByteArray) : strOf s.data.toList = s := by simp [strOf]
theorem str_ext {a b : List UInt8} : (strOf a).toList = (strOf b).toList ↔ a = b := by
  have key : ∀ l : List UInt8, (strOf l).toList = l := fun l => by rw [ByteArray.toList_eq]; simp [strOf]
  rw [key, key]
theorem strOf_take (l : List UInt8) (i : Nat) : (strOf l).extract 0 i = strOf (l.take i) := by
  apply ByteArray.ext
  simp [strOf, ByteArray.data_extract]
theorem strOf_drop (l : List UInt8) (i : Nat) : (strOf l).extract i l.length = strOf (l.drop i) := by
  apply ByteArray.ext
  simp [strOf, ByteArray.data_extract]
  exact List.take_of_length_le (by simp)
theorem strOf_part (l : List UInt8) (i j : Nat) : (strOf l).extract i j = strOf ((l.take j).drop i) := by
  apply ByteArray.ext
  simp [strOf, ByteArray.data_extract, List.drop_take]
theorem str_nil : (strOf []).toList = [] := by rw [ByteArray.toList_eq]; rfl
theorem bl_app (a b : List UInt8) : byteCells a ++ byteCells b = byteCells (a ++ b) := by simp [byteCells]
theorem bl_len (a : List UInt8) : (byteCells a).length = a.length := by simp [byteCells]
theorem bl_one : ∀ l : List UInt8, allOne (byteCells l) = true
  | [] => rfl
  | c :: l => by
    show (true && allOne (byteCells l)) = true
    rw [bl_one l]; rfl
theorem bl_at (l : List UInt8) (i : Nat) (h : i < l.length) : (byteCells l)[i]? = some (.int .u8 ((l[i]).toNat : Int)) := by
  simp [byteCells, h]
theorem append1E {w : World} {base n g : Nat} {v : Value} {xs : List UInt8} {k : Kont} (hown : w.ownsRow base 5 1 v n (byteCells xs)) (hbs : base ≤ w.heap.size) (c : UInt8) {T : TypeId}
    (hN : Blk w g T #[.int .u8 (c.toNat : Int)]) (hn : n + 1 ≤ 70368744177664) (hk : ∀ v' w', w'.ownsRow base 5 1 v' (n + 1) (byteCells (xs ++ [c])) → w.grownBy w' v.ownBlock → k v' w') :
    resE Tryd.prog (appendR Tryd.prog 22 22 22 v (.slice (some ⟨g, 0, none⟩) 1 1) w) k := by
  refine appendE base 5 1 1 Tryd.underlying22 el5 hown (m := 1) (news := byteCells [c]) ⟨by simp [byteCells], fun _ => ⟨_, 0, rfl, hN.lt, fun j u hu => by rw [hN.cell]; simpa [byteCells] using hu⟩⟩ (bl_one _) (by unfold maxLen; omega) (by omega) hbs ?_
  intro v' w' hown' hgr _
  exact hk v' w' (by rw [← bl_app]; exact hown') hgr
theorem stringE {w : World} {A : Option Addr} {c : Nat} (l : List UInt8) (h : Rd w 1 A l.length (byteCells l)) (hpos : 0 < l.length) {k : Kont} (hk : k (.string (strOf l)) w) :
    resE Tryd.prog (((convert 22 9 (.slice A l.length c)).run Tryd.prog w).andThen fun a w' => .ok (.value a) w') k := by
  have hs : (convert 22 9 (.slice A l.length c)).run Tryd.prog w = .ok (.string (strOf l)) w := by
    obtain ⟨b, o, rfl, hlt, hc⟩ := h.cells hpos
    rw [run_convert_bytes_arg w 22 5 Tryd.underlying22 Tryd.underlying5 b o l.length c (l.map fun x => (x.toNat : Int)) (by simp) (fun i hi => ?_) 9 Tryd.underlying9]
    · simp [strOfNums, strOf, Function.comp_def]
    · rw [hc i _ (bl_at l i hi)]
      simp [List.getElem?_eq_getElem hi]
  rw [hs]; exact hk
end Go.Proofs.YtmdkkhogldklnaaDoorRRRR
