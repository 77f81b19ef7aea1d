/-
  The program's 'Parse'; 'ShaTexts' and 'ShaBack' answer yes at every name and text.
-/
import Derived.Test.YtlhlfodmcffeoaaDoorTexts
import Derived.Test.YtlhlfodmcffeoaaDoorOrderLaw
import Derived.Stop.BytesEq
namespace Go.Proofs.YtlhlfodmcffeoaaDoor
open Go.RowKit Go.Lib
set_option linter.unusedVariables false
set_option linter.unusedSimpArgs false
set_option maxRecDepth 10000
theorem Blk.iterAt {w : World} {g k : Nat} {t : TypeId} {cs : Array Value} (h : Blk w g t cs) (hne : g ≠ k) (s : ByteArray) (p : Nat) : Blk (w.iterAt k s p) g t cs := by
  unfold Blk; rw [iterAt_other w k g s p hne]; exact h
theorem iter_keep {w w' : World} {k : Nat} {s : ByteArray} {p : Nat} (h : w.heap[k]? = some (.stringIter s p)) (hb : Below w.heap.size w w') : w'.heap[k]? = some (.stringIter s p) :=
  (hb.block k (Array.getElem?_eq_some_iff.1 h).1).trans h
set_option maxHeartbeats 1600000 in
theorem parse_any (t : ByteArray) (w : World) (hm : t.size ≤ maxLen) : callE Tryd.prog 23 #[.string t] w fun v w' => v = .tuple #[.agg (bl (parsed t.data.toList)).toArray, .int .i64 (parseErr t.data.toList)] ∧ Below w.heap.size w w' := by
  unfold maxLen at hm
  have hl : t.data.toList.length = t.size := by rw [Array.length_toList]; rfl
  refine calls_E Tryd.func23 rfl rfl rfl (Nat.le_of_ble_eq_true rfl) ?_
  by_cases h64 : t.size = 64
  · simp [go_sem, IntWalk.iteOmega, IntWalk.toNatUp, h64, idz_fold]
    refine W_at fun W hW => ?_
    obtain ⟨W0, hW0⟩ : ∃ W0, W0 = (w.alloc (.cells idZero 23)).alloc (.cells idZero 23) := ⟨_, rfl⟩
    rw [← hW0] at hW
    obtain ⟨b0, b1, hB, hS⟩ := news2 hW0
    clear hW0
    have hit : W.heap[w.heap.size + 1 + 1]? = some (.stringIter t 0) := by
      rw [hW, ← hS]; exact World.iter_heap W0 t 0
    have hB0 : Below W0.heap.size W0 W := by rw [hW]; exact ext_alloc _ _
    replace b0 := b0.keep hB0
    replace b1 := b1.keep hB0
    replace hB := ext_trans hB hB0
    clear hW hB0 hS
    have b1 : Blk W (w.heap.size + 1) 23 (bl (partId t.data.toList 0)).toArray := b1.as_ (by rw [partId_zero]; rfl)
    generalize hT : t.data.toList = T at *
    refine W_loop (fun s wr => ∃ i : Nat, i ≤ 64 ∧ s 2 = .pointer (some ⟨w.heap.size, 0, none⟩) ∧ s 4 = .pointer (some ⟨w.heap.size + 1, 0, none⟩) ∧ s 13 = .pointer (some ⟨w.heap.size + 1 + 1, 0, none⟩) ∧ allHex T i ∧
      wr.heap[w.heap.size + 1 + 1]? = some (.stringIter t i) ∧ Blk wr (w.heap.size + 1) 23 (bl (partId T i)).toArray ∧ Blk wr w.heap.size 23 idZero ∧ Below w.heap.size w wr) (fun s wr => 64 - wr.iterPos (w.heap.size + 1 + 1)) ?_ ?_
    · exact ⟨0, by omega, by simp [go_sem], by simp [go_sem], by simp [go_sem], fun j hj => by omega, hit, b1, b0, hB⟩
    · clear b0 b1 hB hit
      rintro s wr ⟨i, hi, e2, e4, e13, hall, hit, b1, b0, hB⟩
      have hpos : wr.iterPos (w.heap.size + 1 + 1) = i := by simp [World.iterPos, hit]
      by_cases hlt : i < 64
      · have hsz : t.data.size = 64 := h64
        have hx : t[i]'(by omega) = T.getD i 0 := by
          subst hT; simp [List.getD, ByteArray.getElem_eq_getElem_data]; rw [Array.getElem?_eq_getElem (by omega)]; rfl
        have key : ∃ (c : Int) (p : Nat), (∀ ty, (Instr.next (.pointer (some ⟨w.heap.size + 1 + 1, 0, none⟩)) true ty).run Tryd.prog wr = .ok (.tuple #[.bool true, .int .i64 i, .int .i32 c]) (wr.iterAt (w.heap.size + 1 + 1) t p)) ∧
            0 ≤ c ∧ c ≤ 2147483647 ∧ hexVal c = hexAt T i ∧ (0 ≤ hexAt T i → p = i + 1) := by
          by_cases ha : (T.getD i 0).toNat < 128
          · have hnx := fun ty => run_next_ascii_at (P := Tryd.prog) wr _ t i ty hit (by omega) (by rw [hx]; exact ha)
            simp only [hx] at hnx
            exact ⟨_, _, hnx, by omega, by omega, rfl, fun _ => rfl⟩
          · have hd := (decode_high t i (by omega) (by rw [hx]; omega)).1
            have hle := decode_le t i
            have h1 : hexAt T i = -1 := by unfold hexAt byteAt hexVal; rw [if_neg (by omega), if_neg (by omega)]
            refine ⟨_, _, fun ty => run_next_any_at (P := Tryd.prog) wr _ t i ty hit (by omega), by omega, by omega, ?_, fun h => by omega⟩
            rw [h1]; unfold hexVal; rw [if_neg (by omega), if_neg (by omega)]
        obtain ⟨c, p, hnx, c0, c1, hv, hp⟩ := key
        have hr : -1 ≤ hexAt T i ∧ hexAt T i < 16 := hexVal_range _
        have hd := fun w k => callE_eq noinit_digit (digit_runs c w c0 c1) k
        rw [hv] at hd
        have hne : w.heap.size ≠ w.heap.size + 1 + 1 := by omega
        have hne1 : w.heap.size + 1 ≠ w.heap.size + 1 + 1 := by omega
        have c0' : Blk (wr.iterAt (w.heap.size + 1 + 1) t p) w.heap.size 23 idZero := b0.iterAt hne t p
        have c1' := b1.iterAt hne1 t p
        have hit' : (wr.iterAt (w.heap.size + 1 + 1) t p).heap[w.heap.size + 1 + 1]? = some (.stringIter t p) := iterAt_heap wr _ t i p hit
        have hB' := below_iterAt hB (k := w.heap.size + 1 + 1) (by omega) t p
        generalize wr.iterAt (w.heap.size + 1 + 1) t p = w1 at *
        clear hv hx
        by_cases hneg : hexAt T i < 0
        · have hh := notHex_of hlt hneg
          have x2 := canWrite_all c0' 32 rfl
          have x3 := storeSeg_all c0' idZero.toList rfl
          have x4 : readCells (w1.setRow w.heap.size idZero) ⟨w.heap.size, 0, none⟩ 0 32 = some idZero.toList := readCells_all (Blk_setRow c0') 32 rfl
          have x6 : allOne idZero.toList = true := bl_one (List.replicate 32 0)
          simp only [Array.toArray_toList] at x3
          simp [go_sem, IntWalk.iteOmega, IntWalk.toNatUp, e2, e4, e13, hnx, hd, hneg, idz_fold, idz_size, x2, x3, x4, x6, parsed, parseErr, hh]
          exact ⟨rfl, below_setRow hB' (Nat.le_refl _) _⟩
        · obtain rfl := hp (by omega)
          have y1 : w1.cell? ⟨w.heap.size + 1, i / 2, none⟩ = some (.int .u8 (partByte T i (i / 2)).toNat) := (c1'.cell _).trans (by rw [List.getElem?_toArray]; exact partId_at T i (i / 2) (by omega))
          have y2 := c1'.frozen (i / 2)
          have hst := partId_step T i hlt (by omega)
          have hpb : (partByte T i (i / 2)).toNat < 256 := (partByte T i (i / 2)).toNat_lt
          have hq : (i : Int) / 2 = ((i / 2 : Nat) : Int) := by omega
          have hd2 : IntKind.u8.wrap (hexAt T i) = hexAt T i := by rw [IntKind.wrap_u8]; omega
          have hd3 : IntKind.u8.wrap (((partByte T i (i / 2)).toNat : Int) * 16) = ((partByte T i (i / 2)).toNat : Int) * 16 % 256 := by rw [IntKind.wrap_u8]
          have hd4 : bits .or .u8 (((partByte T i (i / 2)).toNat : Int) * 16 % 256) (hexAt T i) = ((partByte T i (i / 2)).toNat : Int) * 16 % 256 + hexAt T i := by
            have := or_digit (Fin.mk ((partByte T i (i / 2)).toNat % 16) (by omega)) (Fin.mk (hexAt T i).toNat (by omega))
            simp only at this
            rw [show (((partByte T i (i / 2)).toNat : Int) * 16 % 256) = (((partByte T i (i / 2)).toNat % 16 : Nat) : Int) * 16 % 256 by omega, show hexAt T i = ((hexAt T i).toNat : Int) by omega]
            exact this
          have hq3 : i / 2 < 32 := by omega
          generalize (partByte T i (i / 2)).toNat = pb at *
          generalize hj : i / 2 = j at *
          simp [go_sem, IntWalk.iteOmega, IntWalk.toNatUp, e2, e4, e13, hnx, hd, hneg, hq, hq3, hd2, hd3, hd4, y1, y2]
          refine roundEnd.mk ⟨i + 1, by omega, by simp [go_sem, e2], by simp [go_sem, e4], by simp [go_sem, e13], allHex_succ hall (by omega), ?_, (Blk_set c1').as_ hst, c0'.farCell (by omega) _, hB'.setCell (p := ⟨w.heap.size + 1, j, none⟩) (by simp) _⟩ ?_
          · rw [hp_set, if_neg (by omega)]; exact hit'
          · have : (w1.setCell ⟨w.heap.size + 1, j, none⟩ (.int .u8 ((pb : Int) * 16 % 256 + hexAt T i))).iterPos (w.heap.size + 1 + 1) = i + 1 := by
              unfold World.iterPos; rw [hp_set, if_neg (by omega), hit']
            rw [this]; omega
      · obtain rfl : i = 64 := by omega
        have hnx := fun ty => run_next_end_at (P := Tryd.prog) wr _ t 64 ty hit (by omega)
        have hh := isHex_of (by omega) hall
        have x5 : (bl (partId T 64)).length = 32 := by rw [bl_length, partId_length]
        have x1 : readCells wr ⟨w.heap.size + 1, 0, none⟩ 0 32 = some (bl (partId T 64)) := readCells_all b1 32 (by simpa using x5)
        have x2 := canWrite_all b0 32 rfl
        have x3 := storeSeg_all b0 (bl (partId T 64)) (by rw [x5]; rfl)
        have x4 : readCells (wr.setRow w.heap.size (bl (partId T 64)).toArray) ⟨w.heap.size, 0, none⟩ 0 32 = some (bl (partId T 64)) := readCells_all (Blk_setRow b0) 32 (by simpa using x5)
        have x6 := bl_one (partId T 64)
        simp [go_sem, IntWalk.iteOmega, IntWalk.toNatUp, e2, e4, e13, hnx, x1, x2, x3, x4, x5, x6, parsed, parseErr, hh]
        exact below_setRow hB (Nat.le_refl _) _
  · have hn := notHex_len (l := t.data.toList) (by omega)
    have h64' : ((t.size : Int) != 64) = true := bne_iff_ne.2 (by omega)
    have b0 : Blk ((w.alloc (.cells idZero 23)).alloc (.cells idZero 23)) w.heap.size 23 idZero := (Blk.self_ rfl).more _
    have b1 : Blk ((w.alloc (.cells idZero 23)).alloc (.cells idZero 23)) (w.heap.size + 1) 23 idZero := Blk.self_ (by simp)
    have x1 := readCells_all b1 32 rfl
    have x2 := canWrite_all b0 32 rfl
    have x3 := storeSeg_all b0 idZero.toList rfl
    have x4 : readCells (((w.alloc (.cells idZero 23)).alloc (.cells idZero 23)).setRow w.heap.size idZero) ⟨w.heap.size, 0, none⟩ 0 32 = some idZero.toList := readCells_all (Blk_setRow b0) 32 rfl
    have x6 : allOne idZero.toList = true := bl_one (List.replicate 32 0)
    simp only [Array.toArray_toList] at x3
    simp [go_sem, IntWalk.iteOmega, IntWalk.toNatUp, h64', idz_fold, idz_size, x1, x2, x3, x4, x6, parsed, parseErr, hn]
    exact ⟨rfl, below_setRow (ext_trans (ext_alloc _ _) (ext_alloc _ _)) (Nat.le_refl _) _⟩
end Go.Proofs.YtlhlfodmcffeoaaDoor
