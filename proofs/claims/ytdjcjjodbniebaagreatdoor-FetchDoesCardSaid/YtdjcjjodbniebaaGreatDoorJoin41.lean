/-
  Texts joined: FRParse.
-/
import Derived.Test.YtdjcjjodbniebaaGreatDoorJoin40
namespace Go.Proofs.YtdjcjjodbniebaaGreatDoor
open Go.RowKit
set_option linter.unusedVariables false
set_option linter.unusedSimpArgs false
set_option maxRecDepth 10000
def xR (l : List UInt8) : Bk := ⟨(l.drop 2).take 32, IntKind.i64.wrap (beN ((l.drop 34).take 8)), l.drop 46⟩
theorem parse_bad {l : List UInt8} (h : (parseB l).2 ≠ 0) : parseB l = (zeroBk, 30) := by
  unfold parseB at h ⊢
  split
  · rfl
  · rename_i h1
    rw [if_neg h1] at h
    split
    · rfl
    · rename_i h2
      rw [if_neg h2] at h
      unfold madeB at h ⊢
      split
      · rename_i h3
        rw [if_pos h3] at h
        exact absurd rfl h
      · rfl
theorem wrap_rng (n : Int) : -9223372036854775808 ≤ IntKind.i64.wrap n ∧ IntKind.i64.wrap n ≤ 9223372036854775807 := by
  rw [IntKind.wrap_i64]
  omega
theorem xR_ok {l : List UInt8} (h : 46 ≤ l.length) : BkOk (xR l) := ⟨by simp [xR]; omega, (wrap_rng _).1, (wrap_rng _).2⟩
theorem xR_bytes {y : Bk} (hok : BkOk y) (hck : checkB y = 0) : xR (bytesB y) = y := by
  have hh := checkB_height hck
  have hhi := hok.hi
  have e0 : bytesB y = numB 2 0 ++ (y.parent ++ (numB 8 y.height.toNat ++ (numB 4 y.data.length ++ y.data))) := by simp [bytesB]
  have d2 : (bytesB y).drop 2 = y.parent ++ (numB 8 y.height.toNat ++ (numB 4 y.data.length ++ y.data)) := by
    rw [e0, List.drop_append_of_le_length (by simp [numB_len]), List.drop_of_length_le (by simp [numB_len]), List.nil_append]
  have d34 : (bytesB y).drop 34 = numB 8 y.height.toNat ++ (numB 4 y.data.length ++ y.data) := by
    rw [show 34 = 2 + 32 from rfl, ← List.drop_drop, d2, List.drop_append_of_le_length (by rw [hok.len]; omega), List.drop_of_length_le (by rw [hok.len]; omega), List.nil_append]
  have d46 : (bytesB y).drop 46 = y.data := by
    have e8 : (numB 8 y.height.toNat).length = 8 := numB_len _ _
    have e4 : (numB 4 y.data.length).length = 4 := numB_len _ _
    rw [show 46 = 34 + (8 + 4) from rfl, ← List.drop_drop, d34, ← List.append_assoc, show 8 + 4 = (numB 8 y.height.toNat ++ numB 4 y.data.length).length by simp [e8, e4], List.drop_left]
  have p : ((bytesB y).drop 2).take 32 = y.parent := by
    rw [d2, List.take_append_of_le_length (by rw [hok.len]; omega), List.take_of_length_le (by rw [hok.len]; omega)]
  have h8 : ((bytesB y).drop 34).take 8 = numB 8 y.height.toNat := by
    rw [d34, List.take_append_of_le_length (by simp [numB_len]), List.take_of_length_le (by simp [numB_len])]
  unfold xR
  rw [p, h8, d46, beN_numB 8 _ (by omega)]
  have e : ((y.height.toNat : Nat) : Int) = y.height := by omega
  rw [e, wrap_i64_if, if_pos (by omega)]
open Classical in
theorem parseR_eq (l : List UInt8) : parseB l = if l.length < 46 then (zeroBk, 30) else if checkB (xR l) ≠ 0 ∨ bytesB (xR l) ≠ l then (zeroBk, 30) else (xR l, 0) := by
  split
  · rename_i h
    refine parse_bad fun hp => ?_
    have h1 := congrArg List.length (bytes_parse hp)
    have h2 := (parse_ok hp).1.len
    simp [bytesB, numB_len, h2] at h1
    omega
  · rename_i h
    split
    · rename_i hb
      refine parse_bad fun hp => ?_
      have h1 := bytes_parse hp
      have h2 := xR_bytes (parse_ok hp).1 (parse_ok hp).2
      rw [h1] at h2
      rcases hb with hb | hb
      · exact hb (by rw [h2]; exact (parse_ok hp).2)
      · exact hb (by rw [h2]; exact h1)
    · rename_i hb
      have h1 : checkB (xR l) = 0 := Decidable.byContradiction fun hn => hb (.inl hn)
      have h2 : bytesB (xR l) = l := Decidable.byContradiction fun hn => hb (.inr hn)
      have := parse_bytes (xR_ok (by omega)) h1
      rwa [h2] at this
theorem rd_drop {w : World} {b o : Nat} {l : List UInt8} (h : Rd w 1 (some ⟨b, o, none⟩) l.length (bl l)) {k m : Nat} (hk : k + m ≤ l.length) : Rd w 1 (some ⟨b, o + k, none⟩) m (bl ((l.drop k).take m)) := by
  refine ⟨by simp [bl]; omega, fun h0 => ?_⟩
  obtain ⟨b', o', e, hb, hc⟩ := h.cells (by omega)
  injection e with e
  injection e with e1 e2
  subst e1 e2
  refine ⟨b, o + k, rfl, hb, fun j v hj => ?_⟩
  rw [show o + k + j = o + (k + j) by omega]
  refine hc _ v ?_
  unfold bl at hj ⊢
  rw [List.getElem?_map] at hj ⊢
  rw [List.getElem?_take] at hj
  split at hj
  · rw [List.getElem?_drop] at hj
    exact hj
  · simp at hj
def parTo (l : List UInt8) (i : Nat) : List UInt8 := (l.drop 2).take i ++ List.replicate (32 - i) 0
theorem parTo_len {l : List UInt8} (h : 46 ≤ l.length) {i : Nat} (hi : i ≤ 32) : (parTo l i).length = 32 := by simp [parTo]; omega
theorem parTo_set {l : List UInt8} (h : 46 ≤ l.length) {i : Nat} (hi : i < 32) {ht : Int} {d : List UInt8} {dv : Value} : (bkv ⟨parTo l i, ht, d⟩ dv).toArray.setIfInBounds i (.int .u8 (l[i + 2]'(by omega)).toNat) = (bkv ⟨parTo l (i + 1), ht, d⟩ dv).toArray := by
  have e : (parTo l i).set i (l[i + 2]'(by omega)) = parTo l (i + 1) := by
    apply List.ext_getElem?
    intro j
    rw [List.getElem?_set]
    unfold parTo
    by_cases hj : i = j
    · subst hj
      rw [if_pos rfl, if_pos (by simp; omega), List.getElem?_append_left (by simp; omega), List.getElem?_take, if_pos (by omega), List.getElem?_drop, show 2 + i = i + 2 by omega, List.getElem?_eq_getElem (by omega)]
    · rw [if_neg hj]
      rcases Nat.lt_or_ge j i with h1 | h1
      · rw [List.getElem?_append_left (by simp; omega), List.getElem?_append_left (by simp; omega), List.getElem?_take, List.getElem?_take, if_pos h1, if_pos (by omega)]
      · rw [List.getElem?_append_right (by simp; omega), List.getElem?_append_right (by simp; omega)]
        simp only [List.length_take, List.length_drop, List.getElem?_replicate]
        rw [Nat.min_eq_left (by omega), Nat.min_eq_left (by omega)]
        by_cases h2 : j < 32
        · rw [if_pos (by omega), if_pos (by omega)]
        · rw [if_neg (by omega), if_neg (by omega)]
  unfold bkv
  dsimp only
  rw [List.setIfInBounds_toArray, List.set_append_left _ _ (by rw [bl_length, parTo_len h (by omega)]; exact hi), ← e]
  congr 2
  unfold bl
  rw [List.map_set]
theorem rdB_nil (w : World) : RdB w (.slice none 0 0) [] := ⟨none, 0, rfl, ⟨rfl, fun h => by simp at h⟩, fun _ => rfl, by simp, by simp⟩
set_option maxHeartbeats 6400000 in
theorem rparse_any {w : World} {v : Value} {l : List UInt8} (h : RdB w v l) :
    callE Tryz.prog 106 #[v] w fun r w' => ∃ dv, r = .tuple #[.agg (bkv (parseB l).1 dv).toArray, .int .i64 (parseB l).2] ∧ RdB w' dv (parseB l).1.data ∧ ((parseB l).2 = 0 → w'.ownsRow w.heap.size 5 1 dv (parseB l).1.data.length (bl (parseB l).1.data)) ∧ Below w.heap.size w w' := by
  obtain ⟨A, c, rfl, hr, hA, hc, hcm⟩ := id h
  rw [parseR_eq]
  have kA := ext_alloc w (.cells zeroB.toArray 29)
  have hZ : Blk (w.alloc (.cells zeroB.toArray 29)) w.heap.size 29 zeroB.toArray := Blk.self_ rfl
  have hz0 : RdB w (.slice none 0 0) [] := ⟨none, 0, rfl, ⟨rfl, fun h => by simp at h⟩, fun _ => rfl, by simp, by simp⟩
  refine calls_E Tryz.func106 rfl rfl rfl (Nat.le_of_ble_eq_true rfl) ?_
  by_cases h46 : l.length < 46
  · have h46' : (l.length : Int) < 46 := by omega
    rw [if_pos h46]
    have z1 := canWrite_all hZ 34 rfl
    have z2 : ∀ (m : List Value), m.length = 34 → storeSeg (w.alloc (.cells zeroB.toArray 29)) ⟨w.heap.size, 0, none⟩ 0 m = (w.alloc (.cells zeroB.toArray 29)).setRow w.heap.size m.toArray := fun m hm => storeSeg_all hZ m (by rw [hm]; rfl)
    have z3 : ∀ (m : List Value), m.length = 34 → readCells ((w.alloc (.cells zeroB.toArray 29)).setRow w.heap.size m.toArray) ⟨w.heap.size, 0, none⟩ 0 34 = some m := fun m hm => readCells_all (Blk_setRow hZ) 34 (by simpa using hm)
    rw [zeroB_lit] at z1 z2 z3
    simp [go_sem, IntWalk.iteOmega, IntWalk.toNatUp, h46, h46', z1, z2, z3]
    rw [← zeroB_lit]
    exact ⟨.slice none 0 0, rfl, rdB_nil _, below_setRow kA (Nat.le_refl _) _⟩
  · have h46' : ¬ (l.length : Int) < 46 := by omega
    rw [if_neg h46]
    obtain ⟨b, o, rfl, hb, hcells⟩ := hr.cells (by omega)
    obtain ⟨H, hH⟩ : ∃ H, H = IntKind.i64.wrap ((beN ((l.drop 34).take 8) : Nat) : Int) := ⟨_, rfl⟩
    have hxr : xR l = ⟨(l.drop 2).take 32, H, l.drop 46⟩ := by unfold xR; rw [hH]
    have hl8 : ((l.drop 34).take 8).length = 8 := by simp; omega
    obtain ⟨pA, hpA⟩ : ∃ pA, (if c = 46 then some (⟨b, o, none⟩ : Addr) else some ⟨b, o + 46, none⟩) = pA := ⟨_, rfl⟩
    obtain ⟨m46, hm46⟩ : ∃ m46, m46 = l.length - 46 := ⟨_, rfl⟩
    obtain ⟨c46, hc46⟩ : ∃ c46, c46 = c - 46 := ⟨_, rfl⟩
    have q1 : (42 : Int) ≤ c := by omega
    have q1' : 42 ≤ c := by omega
    have q2 : (46 : Int) ≤ l.length := by omega
    have q2' : 46 ≤ l.length := by omega
    have hval : ∀ W, Below w.heap.size w W → callE Tryz.prog 136 #[.slice (some ⟨b, o + 34, none⟩) 8 (c - 34)] W fun v w' => v = .int .u64 (beN ((l.drop 34).take 8)) ∧ w' = W := fun W hW => by
      have h := rval_any (some ⟨b, o + 34, none⟩) (c - 34) ((l.drop 34).take 8) (by omega) W ((by rw [hl8]; exact rd_drop (hr.keep hW) (by omega)))
      rwa [hl8] at h
    simp [go_sem, IntWalk.iteOmega, IntWalk.toNatUp, h46, h46']
    rw [← zeroB_lit]
    refine W_cutE (fun s wr => s 0 = .slice (some ⟨b, o, none⟩) l.length c ∧ s 2 = .pointer (some ⟨w.heap.size, 0, none⟩) ∧ s 4 = .pointer (some ⟨w.heap.size + 1, 0, none⟩) ∧ Blk wr w.heap.size 29 zeroB.toArray ∧ Blk wr (w.heap.size + 1) 29 (bkv ⟨parTo l 0, H, l.drop 46⟩ (.slice pA m46 c46)).toArray ∧ Below w.heap.size w wr) ?_ ?_
    · refine W_flow (fun g => False) (.pure 0 (.pure 1 (.pure 4 (.pure 5 (.two 2 (.pure 3 (.pure 6 (.one 7 (.one 8 (.done))))) 7 (.one 2 (.pure 3 (.pure 6 (.one 8 (.done)))))))))) follows (by kernel_rfl) ?_
      have hq := held_refl (fun g => False) (w.alloc (.cells zeroB.toArray 29)).drew
      have kd := kA.drew
      have hZd := hZ.drew
      have hsz : (w.alloc (.cells zeroB.toArray 29)).drew.heap.size = w.heap.size + 1 := by simp
      generalize hwv : (w.alloc (.cells zeroB.toArray 29)).drew = w1 at *
      have hqa : ∀ o, heldE (fun g => False) w1 (w1.alloc o) := fun o => hq.alloc o
      have hqs : ∀ o g cs, heldE (fun g => False) w1 ((w1.alloc o).setRow g cs) := fun o g cs => (hq.alloc o).row cs (fun h => h)
      have y2 : ∀ (k : Array Value) (t : TypeId), k.size = 34 → canWrite (w1.alloc (.cells k t)) ⟨w1.heap.size, 0, none⟩ 0 34 = true := fun k t hk => canWrite_all (Blk.self_ rfl) 34 hk
      have y3 : ∀ (k : Array Value) (t : TypeId) (l : List Value), k.size = 34 → l.length = 34 → storeSeg (w1.alloc (.cells k t)) ⟨w1.heap.size, 0, none⟩ 0 l = (w1.alloc (.cells k t)).setRow w1.heap.size l.toArray := fun k t l hk hl => storeSeg_all (Blk.self_ rfl) l (by omega)
      have hHw : IntKind.i64.wrap ((beN ((l.drop 34).take 8) : Nat) : Int) = H := hH.symm
      have hfin : ∀ (k : Array Value) (t : TypeId), Blk ((w1.alloc (.cells k 29)).setRow w1.heap.size (bkv ⟨parTo l 0, H, l.drop 46⟩ (.slice pA m46 c46)).toArray) (w.heap.size + 1) 29 (bkv ⟨parTo l 0, H, l.drop 46⟩ (.slice pA m46 c46)).toArray := fun k t => by
        rw [← hsz]
        exact Blk_setRow (Blk.self_ rfl)
      have hpar0 : parTo l 0 = List.replicate 32 0 := by simp [parTo]
      have hfin2 : ∀ (k : Array Value) (cs : Array Value), Blk ((w1.alloc (.cells k 29)).setRow w1.heap.size cs) w.heap.size 29 zeroB.toArray := fun k cs => (hZd.more _).farRow (by omega) _
      have hfin3 : ∀ (k : Array Value) (cs : Array Value), Below w.heap.size w ((w1.alloc (.cells k 29)).setRow w1.heap.size cs) := fun k cs => below_setRow (kd.trans ((ext_alloc w1 _).mono kd.size)) (by omega) _
      rw [hpar0] at hfin
      simp [go_sem, IntWalk.iteOmega, IntWalk.toNatUp, hq, hqa, q1, q1', q2, q2', hpA]
      rw [← hm46, ← hc46]
      refine ⟨?_, ?_⟩
      · refine callE_of (hval w1 kd) ?_
        rintro _ w2 ⟨rfl, rfl⟩
        simp [go_sem, IntWalk.iteOmega, IntWalk.toNatUp, hq, hqa, hqs, y2, y3, hHw]
        exact atCut.mk ⟨by simp [go_sem], by simp [go_sem], by simp [go_sem, hsz], hfin2 _ _, by rw [hpar0]; exact hfin _ 0, hfin3 _ _⟩
      · refine callE_of (hval _ (kd.trans ((ext_alloc w1 _).mono kd.size))) ?_
        rintro _ w2 ⟨rfl, rfl⟩
        simp [go_sem, IntWalk.iteOmega, IntWalk.toNatUp, hq, hqa, hqs, y2, y3, hHw]
        exact atCut.mk ⟨by simp [go_sem], by simp [go_sem], by simp [go_sem, hsz], hfin2 _ _, by rw [hpar0]; exact hfin _ 0, hfin3 _ _⟩
    · rintro s3 w3 ⟨e0, e2, e4, hZ3, hX3, k3⟩
      simp [go_sem, IntWalk.iteOmega, IntWalk.toNatUp, e0, e2, e4]
      have hdd : ∀ W, Below w.heap.size w W → RdB W (.slice pA m46 c46) (l.drop 46) := fun W hW => by
        have hl : (l.drop 46).length = m46 := by simp; omega
        refine ⟨pA, c46, by rw [hl], ?_, fun hn => ?_, by omega, by omega⟩
        · rw [hl]
          by_cases h0 : m46 = 0
          · rw [h0]
            have : l.drop 46 = [] := List.length_eq_zero_iff.1 (by omega)
            rw [this]
            exact ⟨rfl, fun h => by omega⟩
          · rw [if_neg (by omega)] at hpA
            subst hpA
            have h1 := rd_drop (hr.keep hW) (k := 46) (m := m46) (by omega)
            rw [List.take_of_length_le (by omega)] at h1
            exact h1
        · split at hpA <;> · rw [hn] at hpA; cases hpA
      refine W_loop (fun st wr => ∃ i : Nat, i ≤ 32 ∧ st 0 = .slice (some ⟨b, o, none⟩) l.length c ∧ st 2 = .pointer (some ⟨w.heap.size, 0, none⟩) ∧ st 4 = .pointer (some ⟨w.heap.size + 1, 0, none⟩) ∧ st 5 = .int .i64 i ∧ Blk wr w.heap.size 29 zeroB.toArray ∧ Blk wr (w.heap.size + 1) 29 (bkv ⟨parTo l i, H, l.drop 46⟩ (.slice pA m46 c46)).toArray ∧ Below w.heap.size w wr) (fun st _ => 32 - (intOf (st 5)).toNat) ?_ ?_
      · exact ⟨0, by omega, by simp [go_sem, e0], by simp [go_sem, e2], by simp [go_sem, e4], by simp [go_sem], hZ3, hX3, k3⟩
      clear e0 e2 e4 hZ3 hX3 k3
      rintro s4 w4 ⟨i, hi, e0, e2, e4, e5, hZ4, hX4, k4⟩
      by_cases hlt : i < 32
      · have hlt' : (i : Int) < 32 := by omega
        have hil : i + 2 < l.length := by omega
        have hE : IntKind.i64.wrap (2 + (i : Int)) = ((i + 2 : Nat) : Int) := by rw [wrap_i64_if, if_pos (by omega)]; omega
        have hil' : ((i + 2 : Nat) : Int) < l.length := by omega
        have x0 : w4.cell? ⟨b, o + (i + 2), none⟩ = some (.int .u8 l[i + 2].toNat) := (k4.cell (p := ⟨b, o + (i + 2), none⟩) hb).trans (hcells _ _ (bl_at2 l (i + 2) hil))
        have hst := parTo_set (l := l) (by omega) hlt (ht := H) (d := l.drop 46) (dv := .slice pA m46 c46)
        have hfz := hX4.frozen
        have hXc := hX4.cell
        have hsz4 : i < (bkv ⟨parTo l i, H, l.drop 46⟩ (.slice pA m46 c46)).length := by
          have : (bkv ⟨parTo l i, H, l.drop 46⟩ (.slice pA m46 c46)).length = 34 := bkv_len (parTo_len (by omega) (by omega))
          omega
        obtain ⟨u, hu⟩ : ∃ u, u = l[i + 2] := ⟨_, rfl⟩
        rw [← hu] at x0 hst
        obtain ⟨i2, hi2⟩ : ∃ i2, i2 = i + 2 := ⟨_, rfl⟩
        rw [← hi2] at hE hil' x0
        have hil2 : i2 < l.length := by omega
        simp [go_sem, IntWalk.iteOmega, IntWalk.toNatUp, e0, e2, e4, e5, hlt, hlt', hE, hil', hil2, x0, hfz, hXc, hsz4]
        have kS : Below w.heap.size w (w4.setCell ⟨w.heap.size + 1, i, none⟩ (.int .u8 u.toNat)) := k4.trans ((Keeps.setCell (O := fun j => j < w.heap.size) w4 ⟨w.heap.size + 1, i, none⟩ _ (by show ¬ w.heap.size + 1 < w.heap.size; omega)).below k4.size fun k hk => hk)
        refine roundEnd.mk ⟨i + 1, by omega, by simp [go_sem, e0], by simp [go_sem, e2], by simp [go_sem, e4], by simp [go_sem], (Keeps.setCell (O := fun j => j = w.heap.size) w4 ⟨w.heap.size + 1, i, none⟩ _ (by show ¬ w.heap.size + 1 = w.heap.size; omega)).blk hZ4 rfl, by rw [← hst]; exact Blk_set hX4, kS⟩ ?_
        simp [go_sem, intOf]; omega
      · obtain rfl : i = 32 := by omega
        have hp32 : parTo l 32 = (l.drop 2).take 32 := by simp [parTo]
        rw [hp32, ← hxr] at hX4
        have hok := xR_ok (l := l) (by omega)
        have l34 : (bkv (xR l) (.slice pA m46 c46)).length = 34 := bkv_len hok.len
        have hdx : (xR l).data = l.drop 46 := rfl
        have x1 := readCells_all hX4 34 (by simpa using l34)
        simp [go_sem, IntWalk.iteOmega, IntWalk.toNatUp, e0, e2, e4, e5, x1]
        refine callE_of (rbytes_any hok (by rw [hdx]; exact hdd w4 k4)) ?_
        rintro _ w5 ⟨(⟨hck, rfl⟩ | ⟨hck, u, rfl, hu⟩), k5⟩
        · have hbad : checkB (xR l) ≠ 0 ∨ bytesB (xR l) ≠ l := .inl (by omega)
          rw [if_pos hbad]
          have hZ5 := hZ4.keep k5
          have z1 := canWrite_all hZ5 34 rfl
          have z2 : ∀ (m : List Value), m.length = 34 → storeSeg w5 ⟨w.heap.size, 0, none⟩ 0 m = w5.setRow w.heap.size m.toArray := fun m hm => storeSeg_all hZ5 m (by rw [hm]; rfl)
          have z3 : ∀ (m : List Value), m.length = 34 → readCells (w5.setRow w.heap.size m.toArray) ⟨w.heap.size, 0, none⟩ 0 34 = some m := fun m hm => readCells_all (Blk_setRow hZ5) 34 (by simpa using hm)
          simp [go_sem, IntWalk.iteOmega, IntWalk.toNatUp, e0, e2, e4, z1, z2, z3]
          exact ⟨.slice none 0 0, rfl, rdB_nil _, below_setRow (k4.trans (k5.mono k4.size)) (Nat.le_refl _) _⟩
        · have k45 := k4.trans (k5.mono k4.size)
          have cx := conv_rd hu
          have cy := conv_rd (h.keep k45)
          have hZ5 := hZ4.keep k5
          have hX5 := hX4.keep k5
          have x5 := readCells_all hX5 34 (by simpa using l34)
          by_cases hbl : bytesB (xR l) = l
          · have hgood : ¬ (checkB (xR l) ≠ 0 ∨ bytesB (xR l) ≠ l) := by rintro (h | h); exact h hck; exact h hbl
            rw [if_neg hgood]
            rw [hbl] at cx
            obtain ⟨uA, uc, rfl, -⟩ := id hu
            simp [go_sem, IntWalk.iteOmega, IntWalk.toNatUp, e0, e2, e4, cx, cy, x5]
            refine callE_of (rclone_any hok (by rw [hdx]; exact hdd w5 k45) (by have := checkB_data hck; omega)) ?_
            rintro _ w6 ⟨⟨dv', rfl, hd6⟩, k6⟩
            have hZ6 := hZ5.keep k6
            have l34' : (bkv (xR l) dv').length = 34 := bkv_len hok.len
            obtain ⟨dA, dc, edv, -⟩ := id (own_rdB hd6)
            have hone : allOne (bkv (xR l) dv') = true := by rw [edv]; exact bkv_one _ _ _ _
            have z1 := canWrite_all hZ6 34 rfl
            have z2 : ∀ (m : List Value), m.length = 34 → storeSeg w6 ⟨w.heap.size, 0, none⟩ 0 m = w6.setRow w.heap.size m.toArray := fun m hm => storeSeg_all hZ6 m (by rw [hm]; rfl)
            have z3 : ∀ (m : List Value), m.length = 34 → readCells (w6.setRow w.heap.size m.toArray) ⟨w.heap.size, 0, none⟩ 0 34 = some m := fun m hm => readCells_all (Blk_setRow hZ6) 34 (by simpa using hm)
            simp [go_sem, IntWalk.iteOmega, IntWalk.toNatUp, e0, e2, e4, z1, z2, z3, l34', hone]
            have hs5 := k45.size
            have hkeep : Keeps (fun j => j ≠ w.heap.size) w6 (w6.setRow w.heap.size (bkv (xR l) dv').toArray) := Keeps.setRow _ _ _ (fun h => h rfl)
            have hlt5 := hZ5.lt
            have hd7 := row_keeps hd6 hkeep (fun j hj => by have := (hd6.lt j hj).1; omega)
            exact ⟨dv', rfl, own_rdB hd7, own_mono hd7 (by omega), below_setRow (k45.trans (k6.mono k45.size)) (Nat.le_refl _) _⟩
          · have hbad : checkB (xR l) ≠ 0 ∨ bytesB (xR l) ≠ l := .inr hbl
            rw [if_pos hbad]
            obtain ⟨uA, uc, rfl, -⟩ := id hu
            have z1 := canWrite_all hZ5 34 rfl
            have z2 : ∀ (m : List Value), m.length = 34 → storeSeg w5 ⟨w.heap.size, 0, none⟩ 0 m = w5.setRow w.heap.size m.toArray := fun m hm => storeSeg_all hZ5 m (by rw [hm]; rfl)
            have z3 : ∀ (m : List Value), m.length = 34 → readCells (w5.setRow w.heap.size m.toArray) ⟨w.heap.size, 0, none⟩ 0 34 = some m := fun m hm => readCells_all (Blk_setRow hZ5) 34 (by simpa using hm)
            have hblq : (bytesB (xR l) == l) = false := by simpa using hbl
            simp [go_sem, IntWalk.iteOmega, IntWalk.toNatUp, e0, e2, e4, cx, cy, hblq, z1, z2, z3]
            exact ⟨.slice none 0 0, rfl, rdB_nil _, below_setRow k45 (Nat.le_refl _) _⟩
end Go.Proofs.YtdjcjjodbniebaaGreatDoor
