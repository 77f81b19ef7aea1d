/-
  Names as digits: the document's 'Hex', digits' values, and both 'Parse'.
-/
import Derived.Test.YtlhlfodmcffeoaaDoorBegun
import Derived.Test.YtlhlfodmcffeoaaDoorAny
import Derived.Lib.OthersKept
import Derived.Laws.RangeAny
namespace Go.Proofs.YtlhlfodmcffeoaaDoor
open Go.RowKit
set_option linter.unusedVariables false
set_option linter.unusedSimpArgs false
set_option maxRecDepth 10000
theorem refHex_any (T : List UInt8) (w : World) (hT : T.length = 32) :
    callE Tryd.prog 25 #[.agg (bl T).toArray] w fun v' w' => v' = .string ⟨(hexOf T).toArray⟩ ∧ Below w.heap.size w w' := by
  refine calls_E Tryd.func25 rfl rfl rfl (Nat.le_of_ble_eq_true rfl) ?_
  have x5 : (bl T).length = 32 := by rw [bl_length, hT]
  simp [go_sem, IntWalk.iteOmega, IntWalk.toNatUp, x5]
  refine W_at fun W hW => ?_
  obtain ⟨b0, hB, hS⟩ := news1 hW
  clear hW
  refine W_loop (fun s wr => ∃ (i : Nat) (v : Value), i ≤ 32 ∧ s 1 = .pointer (some ⟨w.heap.size, 0, none⟩) ∧ s 4 = .int .i64 i ∧ s 3 = v ∧ wr.ownsRow W.heap.size 5 1 v (2 * i) (bl (hexOf (T.take i))) ∧ W.heap.size ≤ wr.heap.size ∧ Below W.heap.size W wr) (fun s _ => 32 - (intOf (s 4)).toNat) ?_ ?_
  · exact ⟨0, .slice none 0 0, by omega, by simp [go_sem], by simp [go_sem], by simp [go_sem], World.ownsRow_nil _ _ _ _, by omega, Below.refl _ _⟩
  · rintro s w1 ⟨i, v, hi, e1, e4, e3, hown, hsz, hB1⟩
    have hhl : (hexOf (T.take i)).length = 2 * i := by rw [hexOf_length, List.length_take, hT, Nat.min_eq_left hi]
    obtain ⟨A2, c2, rfl, hr21, hr22, hr23, hr24⟩ := own_rdB (l := hexOf (T.take i)) (by rw [hhl]; exact hown)
    rw [hhl] at e3 hown
    by_cases hlt : i < 32
    · have hlt' : (i : Int) < 32 := by omega
      have x1 : w1.cell? ⟨w.heap.size, i, none⟩ = some (.int .u8 (T.getD i 0).toNat) := ((b0.keep hB1).cell i).trans (by rw [List.getElem?_toArray]; exact bl_at T i (by omega))
      have hh := hexOf_take T i (by omega)
      have htl := (T.getD i 0).toNat_lt
      generalize T.getD i 0 = c at x1 hh htl
      have hd1 := digit_at (c.toNat / 16) (by omega)
      have hd2 := digit_at (c.toNat % 16) (by omega)
      simp [go_sem, IntWalk.iteOmega, IntWalk.toNatUp, e1, e4, e3, hlt']
      refine W_tree (.pure 0 (.pure 1 (.pure 2 (.pure 6 (.pure 7 (.two 3 (.pure 4 (.pure 5 (.one 8 (.pure 9 (.pure 10 (.one 11 (.one 12 (.pure 13 (.done))))))))) 8 (.pure 9 (.pure 10 (.one 3 (.pure 4 (.pure 5 (.one 11 (.one 12 (.pure 13 (.done))))))))))))))) follows (by kernel_rfl) ?_
      have hq1 : 0 ≤ (c.toNat : Int) / 16 ∧ (c.toNat : Int) / 16 < 16 := by omega
      simp [go_sem, IntWalk.iteOmega, IntWalk.toNatUp, e1, e4, e3, hlt', x1, hd1, hd2, hq1, wrap_u8_if, (show ((c.toNat : Int)).tmod 16 = ((c.toNat % 16 : Nat) : Int) from rfl)]
      constructor <;>
      · refine append_bytes (w0 := W) (w1 := w1) (news := [hexDigit (c.toNat / 16), hexDigit (c.toNat % 16)]) hown (Nat.le_refl _) hsz hB1 (ext_trans (ext_alloc _ _) (ext_drew _)) ((Blk_drew (w := w1.alloc _)).mpr (Blk.self_ rfl)) 2 rfl (by omega) ?_
        clear hown hB1 hsz hr21 hr22 hr23 hr24
        intro v w2 hown hsz hB1
        simp [go_sem, IntWalk.iteOmega, IntWalk.toNatUp, e1, e4]
        refine roundEnd.mk ⟨i + 1, v, by omega, by simp [go_sem, e1], by simp [go_sem], by simp [go_sem], ?_, hsz, hB1⟩ ?_
        · rw [hh]; exact hown
        · simp [go_sem, intOf]; omega
    · obtain rfl : i = 32 := by omega
      rw [List.take_of_length_le (by omega)] at hr21 hr22 hhl
      rw [← hhl] at e3
      simp [go_sem, IntWalk.iteOmega, IntWalk.toNatUp, e1, e4, e3]
      refine stringE (hexOf T) hr21 (by omega) ?_
      simp [go_sem, IntWalk.iteOmega, IntWalk.toNatUp]
      exact ext_trans hB hB1
theorem wrap_i32_if (n : Int) : IntKind.i32.wrap n = if -2147483648 ≤ n ∧ n ≤ 2147483647 then n else wrapO .i32 n := by
  split
  · rename_i h; exact IntWalk.i32_in n h
  · rfl
/-- a name of noughts -/
def idZero : Array Value := (bl (List.replicate 32 0)).toArray
theorem idz_fold : (#[Value.int .u8 0, Value.int .u8 0, Value.int .u8 0, Value.int .u8 0, Value.int .u8 0, Value.int .u8 0, Value.int .u8 0, Value.int .u8 0, Value.int .u8 0, Value.int .u8 0, Value.int .u8 0, Value.int .u8 0, Value.int .u8 0, Value.int .u8 0, Value.int .u8 0, Value.int .u8 0, Value.int .u8 0, Value.int .u8 0, Value.int .u8 0, Value.int .u8 0, Value.int .u8 0, Value.int .u8 0, Value.int .u8 0, Value.int .u8 0, Value.int .u8 0, Value.int .u8 0, Value.int .u8 0, Value.int .u8 0, Value.int .u8 0, Value.int .u8 0, Value.int .u8 0, Value.int .u8 0] : Array Value) = idZero := rfl
theorem idz_toList : idZero.toList = bl (List.replicate 32 0) := rfl
theorem idz_size : idZero.size = 32 := rfl
/-- A digit's value; -1: it is none. -/
def hexVal (c : Int) : Int := if 48 ≤ c ∧ c ≤ 57 then c - 48 else if 97 ≤ c ∧ c ≤ 102 then c - 87 else -1
theorem hexVal_range (c : Int) : -1 ≤ hexVal c ∧ hexVal c < 16 := by unfold hexVal; split <;> (try split) <;> omega
theorem digit_runs (c : Int) (w : World) (h0 : 0 ≤ c) (h1 : c ≤ 2147483647) : Runs Tryd.prog 33 #[.int .i32 c] w (.int .i64 (hexVal c)) w := by
  refine runs_of_callE ?_
  refine calls_E Tryd.func33 rfl rfl rfl (Nat.le_of_ble_eq_true rfl) ?_
  unfold hexVal
  by_cases a1 : 48 ≤ c <;> by_cases a2 : c ≤ 57 <;> by_cases a3 : 97 ≤ c <;> by_cases a4 : c ≤ 102 <;> simp [go_sem, IntWalk.iteOmega, IntWalk.toNatUp, a1, a2, a3, a4, wrap_i32_if] <;> omega
theorem hexDigit_val : ∀ (c : Fin 256) (i : Fin 16), (hexDigit i.val).toNat = c.val → hexVal c.val = i.val := by decide +kernel
theorem hexDigit_none : ∀ (c : Fin 256), (∀ i : Fin 16, (hexDigit i.val).toNat ≠ c.val) → hexVal c.val = -1 := by decide +kernel
theorem refDigit_any (c : UInt8) (w : World) : callE Tryd.prog 34 #[.int .u8 c.toNat] w fun v w' => v = .int .i64 (hexVal c.toNat) ∧ w' = w := by
  refine calls_E Tryd.func34 rfl rfl rfl (Nat.le_of_ble_eq_true rfl) ?_
  simp [go_sem, IntWalk.iteOmega, IntWalk.toNatUp]
  have hc := c.toNat_lt
  refine W_loop (fun s wr => ∃ i : Nat, i ≤ 16 ∧ s 0 = .int .u8 c.toNat ∧ s 3 = .int .i64 i ∧ (∀ j, j < i → (hexDigit j).toNat ≠ c.toNat) ∧ wr = w) (fun s _ => 16 - (intOf (s 3)).toNat) ?_ ?_
  · exact ⟨0, by omega, by simp [go_sem], by simp [go_sem], fun j h => by omega, rfl⟩
  · rintro s wr ⟨i, hi, e0, e3, hno, rfl⟩
    by_cases hlt : i < 16
    · have hlt' : (i : Int) < 16 := by omega
      have hd := digit_at i hlt
      by_cases heq : (hexDigit i).toNat = c.toNat
      · have hv := hexDigit_val (Fin.mk c.toNat hc) (Fin.mk i hlt) heq
        have heq' : ((hexDigit i).toNat : Int) = (c.toNat : Int) := by omega
        simp only at hv
        simp [go_sem, IntWalk.iteOmega, IntWalk.toNatUp, e0, e3, hlt', hd, heq', hv]
      · have heq' : (((hexDigit i).toNat : Int) == (c.toNat : Int)) = false := by simp; omega
        simp [go_sem, IntWalk.iteOmega, IntWalk.toNatUp, e0, e3, hlt', hd, heq']
        refine roundEnd.mk ⟨i + 1, by omega, by simp [go_sem, e0], by simp [go_sem], fun j hj => ?_, rfl⟩ ?_
        · rcases Nat.lt_or_ge j i with h | h
          · exact hno j h
          · obtain rfl : j = i := by omega
            exact heq
        · simp [go_sem, intOf]; omega
    · obtain rfl : i = 16 := by omega
      have hv := hexDigit_none (Fin.mk c.toNat hc) (fun i => hno i.val i.isLt)
      simp only at hv
      simp [go_sem, IntWalk.iteOmega, IntWalk.toNatUp, e0, e3, hv]
theorem noinit_digit : Tryd.prog.inits.idxOf? 33 = none := by kernel_rfl
/-! The bytes that digits tell. -/
def hexAt (l : List UInt8) (i : Nat) : Int := hexVal (byteAt l i)
/-- byte k behind the first i digits -/
def partByte (l : List UInt8) (i k : Nat) : UInt8 := UInt8.ofNat (if 2 * k + 1 < i then 16 * (hexAt l (2 * k)).toNat + (hexAt l (2 * k + 1)).toNat else if 2 * k < i then (hexAt l (2 * k)).toNat else 0)
def partId (l : List UInt8) (i : Nat) : List UInt8 := (List.range 32).map (partByte l i)
def allHex (l : List UInt8) (i : Nat) : Prop := ∀ j, j < i → 0 ≤ hexAt l j
/-- what a text's digits are -/
def isHex (l : List UInt8) : Bool := l.length == 64 && (List.range 64).all fun j => decide (0 ≤ hexAt l j)
def parsed (l : List UInt8) : List UInt8 := if isHex l then partId l 64 else List.replicate 32 0
def parseErr (l : List UInt8) : Int := if isHex l then 0 else 20
theorem partId_length (l : List UInt8) (i : Nat) : (partId l i).length = 32 := by simp [partId]
theorem parsed_length (l : List UInt8) : (parsed l).length = 32 := by unfold parsed; split <;> simp [partId]
theorem partId_zero (l : List UInt8) : partId l 0 = List.replicate 32 0 := by
  apply List.ext_getElem
  · simp [partId]
  · intro n h1 h2; rw [List.getElem_replicate]; simp [partId, partByte]
theorem partByte_lt (l : List UInt8) (i k : Nat) : (partByte l i k).toNat = if 2 * k + 1 < i then 16 * (hexAt l (2 * k)).toNat + (hexAt l (2 * k + 1)).toNat else if 2 * k < i then (hexAt l (2 * k)).toNat else 0 := by
  unfold partByte
  rw [UInt8.toNat_ofNat']
  have h1 := hexVal_range (byteAt l (2 * k))
  have h2 := hexVal_range (byteAt l (2 * k + 1))
  unfold hexAt
  split
  · omega
  · split <;> omega
theorem partId_at (l : List UInt8) (i k : Nat) (h : k < 32) : (bl (partId l i))[k]? = some (.int .u8 (partByte l i k).toNat) := by
  simp [bl, partId, h]
theorem partId_step (l : List UInt8) (i : Nat) (h : i < 64) (hh : 0 ≤ hexAt l i) : ((bl (partId l i)).toArray.setIfInBounds (i / 2) (.int .u8 (((partByte l i (i / 2)).toNat : Int) * 16 % 256 + hexAt l i))) = (bl (partId l (i + 1))).toArray := by
  have hr := hexVal_range (byteAt l i)
  rw [List.setIfInBounds_toArray]
  congr 1
  apply List.ext_getElem
  · simp [bl, partId]
  · intro k h1 h2
    have hk : k < 32 := by simpa [bl, partId] using h2
    rw [List.getElem_set]
    split
    · rename_i e
      subst e
      simp only [bl, partId, List.getElem_map, List.getElem_range]
      rw [partByte_lt, partByte_lt]
      congr 1
      rcases Nat.mod_two_eq_zero_or_one i with h0 | h0
      · rw [if_neg (by omega), if_neg (by omega), if_neg (by omega), if_pos (by omega), show 2 * (i / 2) = i by omega]
        omega
      · have hr2 := hexVal_range (byteAt l (2 * (i / 2)))
        rw [if_neg (by omega), if_pos (by omega), if_pos (by omega), show 2 * (i / 2) + 1 = i by omega]
        unfold hexAt at *
        omega
    · rename_i e
      simp only [bl, partId, List.getElem_map, List.getElem_range]
      congr 2
      unfold partByte
      congr 1
      by_cases a1 : 2 * k + 1 < i
      · rw [if_pos a1, if_pos (by omega)]
      · rw [if_neg a1]
        by_cases a2 : 2 * k < i
        · rw [if_pos a2, if_neg (by omega), if_pos (by omega)]
        · rw [if_neg a2, if_neg (by omega), if_neg (by omega)]
theorem or_digit : ∀ (x d : Fin 16), bits .or .u8 (x.val * 16 % 256 : Int) (d.val : Int) = (x.val * 16 % 256 : Int) + d.val := by decide +kernel
theorem allHex_succ {l : List UInt8} {i : Nat} (h : allHex l i) (hh : 0 ≤ hexAt l i) : allHex l (i + 1) := fun j hj => by
  rcases Nat.lt_or_ge j i with h1 | h1
  · exact h j h1
  · obtain rfl : j = i := by omega
    exact hh
theorem isHex_of {l : List UInt8} (hl : l.length = 64) (h : allHex l 64) : isHex l = true := by
  simp only [isHex, hl, BEq.rfl, Bool.true_and, List.all_eq_true, List.mem_range, decide_eq_true_eq]
  exact h
theorem notHex_of {l : List UInt8} {i : Nat} (hi : i < 64) (h : hexAt l i < 0) : isHex l = false := by
  simp only [isHex, Bool.and_eq_false_iff]
  right
  rw [List.all_eq_false]
  exact ⟨i, by simpa using hi, by simp; omega⟩
theorem notHex_len {l : List UInt8} (h : l.length ≠ 64) : isHex l = false := by simp [isHex, h]
set_option maxHeartbeats 800000 in
theorem refParse_any (t : ByteArray) (w : World) (hm : t.size ≤ maxLen) : callE Tryd.prog 24 #[.string t] w fun v w' => v = .tuple #[.agg (bl (parsed t.data.toList)).toArray, .int .i64 (parseErr t.data.toList)] ∧ Below w.heap.size w w' := by
  unfold maxLen at hm
  have hl : t.data.toList.length = t.size := by rw [Array.length_toList]; rfl
  refine calls_E Tryd.func24 rfl rfl rfl (Nat.le_of_ble_eq_true rfl) ?_
  by_cases h64 : t.size = 64
  · simp [go_sem, IntWalk.iteOmega, IntWalk.toNatUp, h64, idz_fold]
    refine W_at fun W hW => ?_
    obtain ⟨b0, b1, hB, hS⟩ := news2 hW
    clear hW
    have b1 : Blk W (w.heap.size + 1) 23 (bl (partId t.data.toList 0)).toArray := b1.as_ (by rw [partId_zero]; rfl)
    have b0 : Blk W w.heap.size 23 (bl (List.replicate 32 0)).toArray := b0.as_ rfl
    generalize hT : t.data.toList = T at *
    refine W_loop (fun s wr => ∃ i : Nat, i ≤ 64 ∧ s 0 = .string t ∧ s 2 = .pointer (some ⟨w.heap.size, 0, none⟩) ∧ s 4 = .pointer (some ⟨w.heap.size + 1, 0, none⟩) ∧ s 5 = .int .i64 i ∧ allHex T i ∧
      Blk wr (w.heap.size + 1) 23 (bl (partId T i)).toArray ∧ Blk wr w.heap.size 23 (bl (List.replicate 32 0)).toArray ∧ Below w.heap.size w wr) (fun s _ => 64 - (intOf (s 5)).toNat) ?_ ?_
    · exact ⟨0, by omega, by simp [go_sem], by simp [go_sem], by simp [go_sem], by simp [go_sem], fun j hj => by omega, b1, b0, hB⟩
    · clear b0 b1 hB hS
      rintro s wr ⟨i, hi, e0, e2, e4, e5, hall, b1, b0, hB⟩
      by_cases hlt : i < 64
      · have hlt' : (i : Int) < 64 := by omega
        have hsz : t.data.size = 64 := h64
        have hx : t[i]'(by omega) = T.getD i 0 := by
          subst hT; simp [List.getD, ByteArray.getElem_eq_getElem_data]; rw [Array.getElem?_eq_getElem (by omega)]; rfl
        simp [go_sem, IntWalk.iteOmega, IntWalk.toNatUp, e0, e2, e4, e5, hlt', h64, hx]
        refine callE_of (refDigit_any (T.getD i 0) wr) ?_
        rintro v w1 ⟨rfl, rfl⟩
        have hv : hexVal (T.getD i 0).toNat = hexAt T i := rfl
        have hr : -1 ≤ hexAt T i ∧ hexAt T i < 16 := hexVal_range _
        rw [hv]
        by_cases hneg : hexAt T i < 0
        · have hh := notHex_of hlt hneg
          have x2 := canWrite_all b0 32 rfl
          have x3 := storeSeg_all b0 idZero.toList rfl
          have x4 : readCells (w1.setRow w.heap.size idZero) ⟨w.heap.size, 0, none⟩ 0 32 = some idZero.toList := readCells_all (Blk_setRow b0) 32 rfl
          have x6 : allOne idZero.toList = true := bl_one (List.replicate 32 0)
          simp only [Array.toArray_toList] at x3
          simp [go_sem, IntWalk.iteOmega, IntWalk.toNatUp, e0, e2, e4, e5, hneg, idz_fold, idz_size, x2, x3, x4, x6, parsed, parseErr, hh]
          exact ⟨rfl, below_setRow hB (Nat.le_refl _) _⟩
        · have y1 : w1.cell? ⟨w.heap.size + 1, i / 2, none⟩ = some (.int .u8 (partByte T i (i / 2)).toNat) := (b1.cell _).trans (by rw [List.getElem?_toArray]; exact partId_at T i (i / 2) (by omega))
          have y2 := b1.frozen (i / 2)
          have hst := partId_step T i hlt (by omega)
          have hd : IntKind.u8.wrap (((partByte T i (i / 2)).toNat : Int) * 16 % 256 + hexAt T i) = ((partByte T i (i / 2)).toNat : Int) * 16 % 256 + hexAt T i := by rw [IntKind.wrap_u8]; omega
          have hq : (i : Int) / 2 = ((i / 2 : Nat) : Int) := by omega
          have hd2 : IntKind.u8.wrap (hexAt T i) = hexAt T i := by rw [IntKind.wrap_u8]; omega
          have hd3 : IntKind.u8.wrap (((partByte T i (i / 2)).toNat : Int) * 16) = ((partByte T i (i / 2)).toNat : Int) * 16 % 256 := by rw [IntKind.wrap_u8]
          have hq3 : i / 2 < 32 := by omega
          generalize (partByte T i (i / 2)).toNat = pb at *
          generalize hj : i / 2 = j at *
          simp [go_sem, IntWalk.iteOmega, IntWalk.toNatUp, e0, e2, e4, e5, hneg, hq, hq3, hd, hd2, hd3, y1, y2]
          refine roundEnd.mk ⟨i + 1, by omega, by simp [go_sem, e0], by simp [go_sem, e2], by simp [go_sem, e4], by simp [go_sem], allHex_succ hall (by omega), (Blk_set b1).as_ hst, b0.farCell (by omega) _, hB.setCell (p := ⟨w.heap.size + 1, j, none⟩) (by simp) _⟩ ?_
          simp [go_sem, intOf]; omega
      · obtain rfl : i = 64 := by omega
        have hh := isHex_of (by omega) hall
        have x5 : (bl (partId T 64)).length = 32 := by rw [bl_length, partId_length]
        have x1 : readCells wr ⟨w.heap.size + 1, 0, none⟩ 0 32 = some (bl (partId T 64)) := readCells_all b1 32 (by simpa using x5)
        have x2 := canWrite_all b0 32 rfl
        have x3 := storeSeg_all b0 (bl (partId T 64)) (by rw [x5]; rfl)
        have x4 : readCells (wr.setRow w.heap.size (bl (partId T 64)).toArray) ⟨w.heap.size, 0, none⟩ 0 32 = some (bl (partId T 64)) := readCells_all (Blk_setRow b0) 32 (by simpa using x5)
        have x6 := bl_one (partId T 64)
        simp [go_sem, IntWalk.iteOmega, IntWalk.toNatUp, e0, e2, e4, e5, x1, x2, x3, x4, x5, x6, parsed, parseErr, hh]
        exact below_setRow hB (Nat.le_refl _) _
  · have hn := notHex_len (l := t.data.toList) (by omega)
    have h64' : ((t.size : Int) != 64) = true := bne_iff_ne.2 (by omega)
    have b0 : Blk ((w.alloc (.cells idZero 23)).alloc (.cells idZero 23)) w.heap.size 23 idZero := (Blk.self_ rfl).more _
    have x2 := canWrite_all b0 32 rfl
    have x3 := storeSeg_all b0 idZero.toList rfl
    have x4 : readCells (((w.alloc (.cells idZero 23)).alloc (.cells idZero 23)).setRow w.heap.size idZero) ⟨w.heap.size, 0, none⟩ 0 32 = some idZero.toList := readCells_all (Blk_setRow b0) 32 rfl
    have x6 : allOne idZero.toList = true := bl_one (List.replicate 32 0)
    simp only [Array.toArray_toList] at x3
    simp [go_sem, IntWalk.iteOmega, IntWalk.toNatUp, h64', idz_fold, idz_size, x2, x3, x4, x6, parsed, parseErr, hn]
    exact ⟨rfl, below_setRow (ext_trans (ext_alloc _ _) (ext_alloc _ _)) (Nat.le_refl _) _⟩
end Go.Proofs.YtlhlfodmcffeoaaDoor
