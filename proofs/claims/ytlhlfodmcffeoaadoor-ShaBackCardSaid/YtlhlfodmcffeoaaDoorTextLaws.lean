/-
  'ShaTexts' and 'ShaBack' answer yes at every name and text.
-/
import Derived.Test.YtlhlfodmcffeoaaDoorParse
import Derived.Test.YtlhlfodmcffeoaaDoorOrder
namespace Go.Proofs.YtlhlfodmcffeoaaDoor
open Go.RowKit
set_option linter.unusedVariables false
set_option linter.unusedSimpArgs false
set_option maxRecDepth 10000
theorem can_new (W : World) : canWrite (W.alloc (.cells idZero 23)) ⟨W.heap.size, 0, none⟩ 0 32 = true := canWrite_all (Blk.self_ (t := 23) rfl) 32 rfl
theorem store_new (W : World) (l : List UInt8) (h : l.length = 32) : storeSeg (W.alloc (.cells idZero 23)) ⟨W.heap.size, 0, none⟩ 0 (bl l) = W.alloc (.cells (bl l).toArray 23) :=
  storeSeg_new rfl (by rw [bl_length, h]; rfl)
set_option maxHeartbeats 800000 in
theorem shaTexts_any (x : List UInt8) (t : ByteArray) (w : World) (hx : x.length = 32) (hm : t.size ≤ maxLen) (hC : Cubes w) :
    callE Tryd.prog 8 #[.agg (bl x).toArray, .string t] w fun v w' => v = .bool true ∧ Below w.heap.size w w' := by
  have x5 : (bl x).length = 32 := by rw [bl_length, hx]
  have hp := parsed_length t.data.toList
  have p5 : (bl (parsed t.data.toList)).length = 32 := by rw [bl_length, hp]
  refine calls_E Tryd.func8 rfl rfl rfl (Nat.le_of_ble_eq_true rfl) ?_
  simp [go_sem, IntWalk.iteOmega, IntWalk.toNatUp, x5]
  refine callE_at fun W hW => ?_
  obtain ⟨b0, hB, hS⟩ := news1 hW
  clear hW
  refine callE_of (parse_any t W hm) ?_
  rintro v w1 ⟨rfl, hB1⟩
  simp [go_sem, IntWalk.iteOmega, IntWalk.toNatUp, idz_fold, can_new, store_new _ _ hp, p5, bl_one]
  refine callE_at fun W2 hW2 => ?_
  obtain ⟨b1, hB2, hS2⟩ := news1 hW2
  clear hW2
  refine callE_of (refParse_any t W2 hm) ?_
  rintro v w3 ⟨rfl, hB3⟩
  simp [go_sem, IntWalk.iteOmega, IntWalk.toNatUp, idz_fold, can_new, store_new _ _ hp, p5, bl_one]
  refine W_at fun W4 hW4 => ?_
  obtain ⟨b2, hB4, hS4⟩ := news1 hW4
  clear hW4
  have k2 := ext_trans hB3 hB4
  have k1 := ext_trans hB2 k2
  have k0 := ext_trans hB1 k1
  have kk := ext_trans hB k0
  replace b0 := b0.keep k0
  replace b1 := b1.keep k2
  have r0 := readCells_all b0 32 (by simpa using x5)
  have r1 := readCells_all b1 32 (by simpa using p5)
  have r2 := readCells_all b2 32 (by simpa using p5)
  have l0 := b0.lt
  have l1 := b1.lt
  have l2 := b2.lt
  have hC4 := hC.keep kk
  have Be : ∀ k, anyCall Tryd.prog 11 #[] W4 k = k (.bool true) := fun k => anyCall_eq (by kernel_rfl) (fun w hw => begun_any w (hC4.keep hw)) k
  have H : ∀ k, anyCall Tryd.prog 14 #[.agg (bl x).toArray] W4 k = k (.string ⟨(hexOf x).toArray⟩) := fun k => anyCall_eq (by kernel_rfl) (fun w _ => hex_any x w hx) k
  have R : ∀ k, anyCall Tryd.prog 25 #[.agg (bl x).toArray] W4 k = k (.string ⟨(hexOf x).toArray⟩) := fun k => anyCall_eq (by kernel_rfl) (fun w _ => refHex_any x w hx) k
  have I := id_eq (parsed t.data.toList) (parsed t.data.toList) hp hp
  clear b0 b1 b2 hS hS2 hS4 hB1 hB2 hB3 hB4 k2 k1 k0 hC hC4 hB
  refine W_below follows (by kernel_rfl) ?_
  simp [go_sem, IntWalk.iteOmega, IntWalk.toNatUp, r0, r1, r2, Be, H, R, I]
  intro w5 hB5
  exact ext_trans kk hB5
/-! There and back, in plain Lean. -/
theorem hexVal_digit : ∀ n : Fin 16, hexVal (hexDigit n.val).toNat = n.val := by decide +kernel
theorem digit_hexVal : ∀ c : Fin 256, 0 ≤ hexVal c.val → hexDigit (hexVal c.val).toNat = UInt8.ofNat c.val := by decide +kernel
theorem hexOf_at (x : List UInt8) : ∀ (k : Nat), k < x.length → (hexOf x)[2 * k]? = some (hexDigit ((x.getD k 0).toNat / 16)) ∧ (hexOf x)[2 * k + 1]? = some (hexDigit ((x.getD k 0).toNat % 16)) := by
  induction x with
  | nil => intro k h; simp at h
  | cons a x ih =>
    intro k h
    have e : hexOf (a :: x) = hexDigit (a.toNat / 16) :: hexDigit (a.toNat % 16) :: hexOf x := rfl
    cases k with
    | zero => rw [e]; exact ⟨rfl, rfl⟩
    | succ k =>
      have := ih k (by simpa using h)
      rw [e, show 2 * (k + 1) = 2 * k + 1 + 1 by omega]
      simpa using this
theorem hexAt_even (x : List UInt8) (k : Nat) (h : k < x.length) : hexAt (hexOf x) (2 * k) = ((x.getD k 0).toNat / 16 : Nat) := by
  have := hexVal_digit (Fin.mk ((x.getD k 0).toNat / 16) (by have := (x.getD k 0).toNat_lt; omega))
  unfold hexAt byteAt
  rw [List.getD, (hexOf_at x k h).1, Option.getD_some]
  exact this
theorem hexAt_odd (x : List UInt8) (k : Nat) (h : k < x.length) : hexAt (hexOf x) (2 * k + 1) = ((x.getD k 0).toNat % 16 : Nat) := by
  have := hexVal_digit (Fin.mk ((x.getD k 0).toNat % 16) (by omega))
  unfold hexAt byteAt
  rw [List.getD, (hexOf_at x k h).2, Option.getD_some]
  exact this
theorem isHex_hexOf (x : List UInt8) (hx : x.length = 32) : isHex (hexOf x) = true := by
  refine isHex_of (by rw [hexOf_length, hx]) fun j hj => ?_
  rcases Nat.mod_two_eq_zero_or_one j with h | h
  · rw [show j = 2 * (j / 2) by omega, hexAt_even x _ (by omega)]; omega
  · rw [show j = 2 * (j / 2) + 1 by omega, hexAt_odd x _ (by omega)]; omega
theorem parsed_hexOf (x : List UInt8) (hx : x.length = 32) : parsed (hexOf x) = x := by
  unfold parsed
  rw [if_pos (isHex_hexOf x hx)]
  apply List.ext_getElem
  · rw [partId_length, hx]
  · intro k h1 h2
    simp only [partId, List.getElem_map, List.getElem_range]
    apply UInt8.toNat_inj.1
    rw [partByte_lt, if_pos (by omega), hexAt_even x k h2, hexAt_odd x k h2]
    simp [List.getD, List.getElem?_eq_getElem h2]
    omega
theorem hexOf_flat (f : Nat → UInt8) (n : Nat) : (hexOf ((List.range n).map f)) = (List.range (2 * n)).map fun j => if j % 2 = 0 then hexDigit ((f (j / 2)).toNat / 16) else hexDigit ((f (j / 2)).toNat % 16) := by
  induction n with
  | zero => rfl
  | succ n ih =>
    rw [List.range_succ, List.map_append, show 2 * (n + 1) = 2 * n + 1 + 1 by omega, List.range_succ, List.range_succ]
    unfold hexOf at ih ⊢
    rw [List.flatMap_append, ih]
    simp [show (2 * n + 1) / 2 = n by omega, show (2 * n + 1) % 2 = 1 by omega]
theorem hexOf_parsed (l : List UInt8) (h : isHex l = true) : hexOf (parsed l) = l := by
  have hl : l.length = 64 := by simp only [isHex, Bool.and_eq_true, beq_iff_eq] at h; exact h.1
  have ha : allHex l 64 := by
    simp only [isHex, Bool.and_eq_true, List.all_eq_true, List.mem_range, decide_eq_true_eq] at h
    exact h.2
  have hd : ∀ j (hj : j < 64), hexDigit (hexAt l j).toNat = l[j]'(by omega) := by
    intro j hj
    have := digit_hexVal (Fin.mk (byteAt l j) (l.getD j 0).toNat_lt) (ha j hj)
    simp only at this
    rw [hexAt, this]
    unfold byteAt
    rw [List.getD, List.getElem?_eq_getElem (by omega), Option.getD_some]
    simp
  have hr := fun j => hexVal_range (byteAt l j)
  unfold parsed
  rw [if_pos h, partId, hexOf_flat]
  apply List.ext_getElem
  · simp [hl]
  · intro j h1 h2
    have hj : j < 64 := by omega
    simp only [List.getElem_map, List.getElem_range]
    rw [partByte_lt, if_pos (show 2 * (j / 2) + 1 < 64 by omega)]
    have h3 := ha (2 * (j / 2)) (by omega)
    have h4 := ha (2 * (j / 2) + 1) (by omega)
    have h5 := hr (2 * (j / 2))
    have h6 := hr (2 * (j / 2) + 1)
    split
    · rename_i e
      rw [show (16 * (hexAt l (2 * (j / 2))).toNat + (hexAt l (2 * (j / 2) + 1)).toNat) / 16 = (hexAt l (2 * (j / 2))).toNat by unfold hexAt at *; omega]
      have := hd (2 * (j / 2)) (by omega)
      rw [this]; congr 1; omega
    · rename_i e
      rw [show (16 * (hexAt l (2 * (j / 2))).toNat + (hexAt l (2 * (j / 2) + 1)).toNat) % 16 = (hexAt l (2 * (j / 2) + 1)).toNat by unfold hexAt at *; omega]
      have := hd (2 * (j / 2) + 1) (by omega)
      rw [this]; congr 1; omega
theorem hexString_size (x : List UInt8) (hx : x.length = 32) : (ByteArray.mk (hexOf x).toArray).size = 64 := by
  show (hexOf x).toArray.size = 64
  rw [List.size_toArray, hexOf_length, hx]
set_option maxHeartbeats 1600000 in
theorem shaBack_any (x : List UInt8) (t : ByteArray) (w : World) (hx : x.length = 32) (hm : t.size ≤ maxLen) (hC : Cubes w) :
    callE Tryd.prog 9 #[.agg (bl x).toArray, .string t] w fun v w' => v = .bool true ∧ Below w.heap.size w w' := by
  have x5 : (bl x).length = 32 := by rw [bl_length, hx]
  have hp := parsed_length t.data.toList
  have p5 : (bl (parsed t.data.toList)).length = 32 := by rw [bl_length, hp]
  have hz := hexString_size x hx
  have Hx := isHex_hexOf x hx
  have Px := parsed_hexOf x hx
  refine calls_E Tryd.func9 rfl rfl rfl (Nat.le_of_ble_eq_true rfl) ?_
  simp [go_sem, IntWalk.iteOmega, IntWalk.toNatUp, x5]
  generalize hW : w.alloc (.cells (bl x).toArray 23) = W
  obtain ⟨b0, hB, hS⟩ := news1 hW.symm
  clear hW
  have r0 := readCells_all b0 32 (by simpa using x5)
  simp [go_sem, IntWalk.iteOmega, IntWalk.toNatUp, r0]
  refine callE_of (hex_any x W hx) ?_
  rintro v w1 ⟨rfl, hB1⟩
  simp [go_sem, IntWalk.iteOmega, IntWalk.toNatUp]
  refine callE_of (parse_any _ w1 (by rw [hz]; unfold maxLen; omega)) ?_
  rintro v w2 ⟨rfl, hB2⟩
  simp only [parseErr, Hx, Px, if_true]
  simp [go_sem, IntWalk.iteOmega, IntWalk.toNatUp, idz_fold, can_new, store_new _ _ hx, x5, bl_one]
  refine callE_at fun W3 hW3 => ?_
  obtain ⟨b1, hB3, hS3⟩ := news1 hW3
  clear hW3
  have kk := ext_trans (ext_trans (ext_trans hB hB1) hB2) hB3
  have k1 := ext_trans (ext_trans hB1 hB2) hB3
  refine callE_of (begun_any W3 (hC.keep kk)) ?_
  rintro v w4 ⟨rfl, hB4⟩
  have q0 := readCells_all ((b0.keep k1).keep hB4) 32 (by simpa using x5)
  have q1 := readCells_all (b1.keep hB4) 32 (by simpa using x5)
  have I := id_eq x x hx hx
  have k4 := ext_trans kk hB4
  clear b0 b1 r0 k1 hB hB1 hB2 hB3 hB4 hS3
  simp [go_sem, IntWalk.iteOmega, IntWalk.toNatUp, q0, q1, I]
  refine callE_of (hex_any x w4 hx) ?_
  rintro v w5 ⟨rfl, hB5⟩
  have k5 := ext_trans k4 hB5
  simp [go_sem, IntWalk.iteOmega, IntWalk.toNatUp, hz, hexOf_length, hx]
  refine callE_of (parse_any t w5 hm) ?_
  rintro v w6 ⟨rfl, hB6⟩
  have k6 := ext_trans k5 hB6
  clear q0 q1 k4 k5 kk hB5 hB6
  by_cases hh : isHex t.data.toList = true
  · simp only [parseErr, hh, if_true]
    have Ht := hexOf_parsed _ hh
    simp [go_sem, IntWalk.iteOmega, IntWalk.toNatUp, idz_fold, can_new, store_new _ _ hp, p5, bl_one]
    generalize hW : w6.alloc (.cells (bl (parsed t.data.toList)).toArray 23) = W7
    obtain ⟨b7, hB7, hS7⟩ := news1 hW.symm
    clear hW
    have r7 := readCells_all b7 32 (by simpa using p5)
    simp [go_sem, IntWalk.iteOmega, IntWalk.toNatUp, r7]
    refine callE_of (hex_any _ W7 hp) ?_
    rintro v w8 ⟨rfl, hB8⟩
    simp [go_sem, IntWalk.iteOmega, IntWalk.toNatUp, Ht]
    exact ext_trans (ext_trans k6 hB7) hB8
  · have hf : isHex t.data.toList = false := by simpa using hh
    have hz0 : parsed t.data.toList = List.replicate 32 0 := by simp [parsed, hf]
    have I2 := id_eq (List.replicate 32 0) (List.replicate 32 0) rfl rfl
    have ez : (bl (List.replicate 32 0)).toArray = idZero := rfl
    rw [ez] at I2
    rw [hz0, ez]
    have h2 : ∀ W : World, canWrite (W.alloc (.cells idZero 23)) ⟨W.heap.size, 0, none⟩ 0 32 = true := can_new
    have h3 : ∀ W : World, storeSeg (W.alloc (.cells idZero 23)) ⟨W.heap.size, 0, none⟩ 0 idZero.toList = W.alloc (.cells idZero 23) := fun W => store_new W (List.replicate 32 0) rfl
    have h4 : allOne idZero.toList = true := bl_one _
    simp only [parseErr, hf]
    simp [go_sem, IntWalk.iteOmega, IntWalk.toNatUp, idz_fold, idz_size, h2, h3, h4]
    generalize hW : w6.alloc (.cells idZero 23) = W7
    obtain ⟨b7, hB7, hS7⟩ := news1 hW.symm
    clear hW
    have r7 := readCells_all b7 32 rfl
    simp [go_sem, IntWalk.iteOmega, IntWalk.toNatUp, r7, idz_fold, I2]
    exact ext_trans k6 hB7
end Go.Proofs.YtlhlfodmcffeoaaDoor
