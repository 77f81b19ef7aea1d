/-
  Appends onto bytes; the text of bytes.
-/
import Derived.Test.YtoabdejoabfbeaaDoorTRefs
import Derived.Test.YtoabdejoabfbeaaDoorTDig
import Derived.Lib.AppendStr
import Derived.Laws.BytesArg
import Derived.Test.YtoabdejoabfbeaaDoorShelf
namespace Go.Proofs.YtoabdejoabfbeaaDoor
open Go.RowKit
open Go.Lib (decDigits strCells byteCells)
set_option linter.unusedVariables false
set_option linter.unusedSimpArgs false
set_option maxRecDepth 10000
theorem bl_app (a b : List UInt8) : byteCells a ++ byteCells b = byteCells (a ++ b) := by simp [byteCells]
theorem bl_len (a : List UInt8) : (byteCells a).length = a.length := by simp [byteCells]
theorem bl_one : ∀ l : List UInt8, allOne (byteCells l) = true
  | [] => rfl
  | c :: l => by
    show (true && allOne (byteCells l)) = true
    rw [bl_one l]; rfl
theorem bl_at (l : List UInt8) (i : Nat) (h : i < l.length) : (byteCells l)[i]? = some (.int .u8 ((l[i]).toNat : Int)) := by
  simp [byteCells, h]
theorem appendSE {w : World} (base : Nat) {v : Value} {n : Nat} {xs : List UInt8} (hown : w.ownsRow base 5 1 v n (byteCells xs)) (s : List UInt8) (hn : n + s.length ≤ 70368744177664) (hbase : base ≤ w.heap.size) {k : Kont}
    (hk : ∀ v' w', w'.ownsRow base 5 1 v' (n + s.length) (byteCells (xs ++ s)) → w.grownBy w' v.ownBlock → k v' w') :
    resE Tryd.prog (appendR Tryd.prog 40 9 40 v (.string (strOf s)) w) k := by
  obtain ⟨i, z, hi, hz, hsz, hby, hzs, hpos⟩ := el5
  have hz0 : (Tryd.prog.info? 5).bind (·.zero) = some (.int .u8 0) := by kernel_rfl
  rw [hi] at hz0
  have hz0' : i.zero = some (.int .u8 0) := hz0
  obtain ⟨v', w', hr, h2, h3, _⟩ := Go.Lib.run_append_own_string (P := Tryd.prog) w base 40 9 40 5 i Tryd.underlying40 Tryd.underlying9 hi hz0' hsz hby v n (byteCells xs) hown (strOf s) (by rw [strOf_size]; unfold maxLen; omega) (by rw [strOf_size]; omega) hbase
  refine resE_append ⟨.value v', w', by rw [appendR, hr]; rfl, ?_⟩
  rw [strOf_size] at h2
  have e : strCells (strOf s) = byteCells s := rfl
  rw [e, bl_app] at h2
  exact hk v' w' h2 h3
theorem append1E {w : World} {base n g : Nat} {v : Value} {xs : List UInt8} {k : Kont} (hown : w.ownsRow base 5 1 v n (byteCells xs)) (hbs : base ≤ w.heap.size) (c : UInt8) {T : TypeId}
    (hN : Blk w g T #[.int .u8 (c.toNat : Int)]) (hn : n + 1 ≤ 70368744177664) (hk : ∀ v' w', w'.ownsRow base 5 1 v' (n + 1) (byteCells (xs ++ [c])) → w.grownBy w' v.ownBlock → k v' w') :
    resE Tryd.prog (appendR Tryd.prog 40 40 40 v (.slice (some ⟨g, 0, none⟩) 1 1) w) k := by
  refine appendE base 5 1 1 Tryd.underlying40 el5 hown (m := 1) (news := byteCells [c]) ⟨by simp [byteCells], fun _ => ⟨_, 0, rfl, hN.lt, fun j u hu => by rw [hN.cell]; simpa [byteCells] using hu⟩⟩ (bl_one _) (by unfold maxLen; omega) (by omega) hbs ?_
  intro v' w' hown' hgr _
  exact hk v' w' (by rw [← bl_app]; exact hown') hgr
theorem stringE {w : World} {A : Option Addr} {c : Nat} (l : List UInt8) (h : Rd w 1 A l.length (byteCells l)) (hpos : 0 < l.length) {k : Kont} (hk : k (.string (strOf l)) w) :
    resE Tryd.prog (((convert 40 9 (.slice A l.length c)).run Tryd.prog w).andThen fun a w' => .ok (.value a) w') k := by
  have hs : (convert 40 9 (.slice A l.length c)).run Tryd.prog w = .ok (.string (strOf l)) w := by
    obtain ⟨b, o, rfl, hlt, hc⟩ := h.cells hpos
    rw [run_convert_bytes_arg w 40 5 Tryd.underlying40 Tryd.underlying5 b o l.length c (l.map fun x => (x.toNat : Int)) (by simp) (fun i hi => ?_) 9 Tryd.underlying9]
    · simp [strOfNums, strOf, Function.comp_def]
    · rw [hc i _ (bl_at l i hi)]
      simp [List.getElem?_eq_getElem hi]
  rw [hs]; exact hk
theorem appendInt_any (B n : Nat) (i : Nat) (h1 : i ≤ 9223372036854775807) (sv : Value) (xs : List UInt8) (w : World) (hown : w.ownsRow B 5 1 sv n (byteCells xs)) (hBw : B ≤ w.heap.size) (hlim : n + 21 ≤ 140737488355328) (htab : Lib.TabBelow Tryd.prog B w "internal/strconv.uint64pow10" .u64 Lib.pow10Tab) :
    callE Tryd.prog 18 #[sv, .int .i64 i, .int .i64 10] w fun v' w' => w'.ownsRow B 5 1 v' (n + (decDigits i).length) (byteCells (xs ++ decDigits i)) ∧ Below B w w' := by
  have e : Lib.itoa i = decDigits i := by unfold Lib.itoa; rw [if_neg (by omega)]; simp
  refine (Tryd.strconv_AppendInt_10 B n i (by omega) (by omega) sv (byteCells xs) w hown hBw hlim htab).mono ?_
  rintro x y ⟨v', rfl, h1, h2, _⟩
  rw [e, bl_app] at h1
  exact ⟨v', rfl, h1, h2⟩
end Go.Proofs.YtoabdejoabfbeaaDoor
