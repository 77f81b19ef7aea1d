/-
  Texts joined: FConts, FIndexB, FStepsH.
-/
import Derived.Test.YtdjcjjodbniebaaGreatDoorJoin37
namespace Go.Proofs.YtdjcjjodbniebaaGreatDoor
open Go.RowKit
set_option linter.unusedVariables false
set_option linter.unusedSimpArgs false
set_option maxRecDepth 10000
/-- an act's cells -/
def opV (d a b : Int) (want : Bool) (fv : Value) (many bad : UInt8) (rv : Value) : Array Value := #[.int .i64 d, .int .u8 a, .int .u8 b, .bool want, fv, .int .u8 many.toNat, .int .u8 bad.toNat, rv]
def contX (bs : List Bk) (k : Nat) (bad : UInt8) (raw : List UInt8) (i : Nat) : List UInt8 := if bad.toNat = i then raw else bytesB (if i ≤ k then bs.getD (k - i) firstB else firstB)
def contN (k : Nat) (many : UInt8) : Nat := min (many.toNat % 20) (k + 2)
def contL (bs : List Bk) (k : Nat) (many bad : UInt8) (raw : List UInt8) : List (List UInt8) := (List.range (contN k many)).map (contX bs k bad raw)
/-- what containers hands back -/
def ContPost (base : Nat) (bs : List Bk) (k : Nat) (many bad : UInt8) (raw : List UInt8) (rv : Value) (r : Value) (w' : World) : Prop :=
  ∃ vals, w'.ownsRow base 22 1 r (contN k many) vals ∧ (∀ (i : Nat) (u : Value) (l : List UInt8), vals[i]? = some u → (contL bs k many bad raw)[i]? = some l → RdB w' u l) ∧ ∀ u ∈ vals, u = rv ∨ ∀ A n c, u = .slice A n c → ∀ j, atB n A j → base ≤ j
theorem RdB.of_own {w : World} {base e : Nat} {v : Value} {l : List UInt8} (h : w.ownsRow base e 1 v l.length (bl l)) : RdB w v l := by
  obtain ⟨-, A, c, rfl⟩ := own_sl h
  refine ⟨A, c, rfl, Rd.of_own h, fun hA => ?_, ?_, ?_⟩
  · rcases h.2 with ⟨e, h0⟩ | ⟨g, cap, cur, e, _, _, hn, hm, _⟩
    · exact h0
    · injection e with e1 e2 e3
      rw [hA] at e1; cases e1
  · rcases h.2 with ⟨e, h0⟩ | ⟨g, cap, cur, e, _, _, hn, hm, _⟩
    · omega
    · injection e with e1 e2 e3
      omega
  · rcases h.2 with ⟨e, h0⟩ | ⟨g, cap, cur, e, _, _, hn, hm, _⟩
    · injection e with e1 e2 e3
      omega
    · injection e with e1 e2 e3
      unfold maxLen at hm
      omega
set_option maxHeartbeats 6400000 in
theorem conts_any {w : World} {lv : Value} {bs : List Bk} (hl : BksR w lv bs) (hck : ∀ b ∈ bs, checkB b = 0) {k : Nat} (hk : k < bs.length) (hlen : bs.length ≤ 100000) {d a b : Int} {want : Bool} {fv rv : Value} {many bad : UInt8} {raw : List UInt8} (hraw : RdB w rv raw) :
    callE Tryz.prog 22 #[lv, .int .i64 k, .agg (opV d a b want fv many bad rv)] w fun r w' => ContPost w.heap.size bs k many bad raw rv r w' ∧ Below w.heap.size w w' := by
  obtain ⟨rA, rc, rfl, -⟩ := id hraw
  obtain ⟨lA, lc, -, rfl, -⟩ := id hl
  obtain ⟨lb, lo, rfl, -, hlb, hla⟩ := hl.at2 (by omega)
  have kA := ext_alloc w (.cells (opV d a b want fv many bad (.slice rA raw.length rc)) 52)
  have hO : Blk (w.alloc (.cells (opV d a b want fv many bad (.slice rA raw.length rc)) 52)) w.heap.size 52 (opV d a b want fv many bad (.slice rA raw.length rc)) := Blk.self_ rfl
  obtain ⟨n, hn⟩ : ∃ n, n = many.toNat % 20 := ⟨_, rfl⟩
  have hn20 : n < 20 := by omega
  have hm1 : (many.toNat : Int).tmod 20 = (n : Int) := by
    rw [Int.tmod_eq_emod_of_nonneg (by omega)]
    omega
  have hm2 : IntKind.i64.wrap (n : Int) = n := by rw [wrap_i64_if, if_pos (by omega)]
  have hm3 : IntKind.i64.wrap (bad.toNat : Int) = (bad.toNat : Int) := by rw [wrap_i64_if, if_pos (by have := bad.toNat_lt; omega)]
  have hcn : contN k many = min n (k + 2) := by unfold contN; rw [hn]
  have hcx : ∀ i, i < contN k many → (contL bs k many bad raw)[i]? = some (contX bs k bad raw i) := fun i hi => by
    unfold contL
    rw [List.getElem?_map, List.getElem?_range hi]
    rfl
  refine calls_E Tryz.func22 rfl rfl rfl (Nat.le_of_ble_eq_true rfl) ?_
  simp [go_sem, IntWalk.iteOmega, IntWalk.toNatUp, opV, hm1, hm2]
  change W _ _ _ _ (w.alloc (.cells (opV d a b want fv many bad (.slice rA raw.length rc)) 52)) _
  generalize w.alloc (.cells (opV d a b want fv many bad (.slice rA raw.length rc)) 52) = w2 at *
  refine W_loop (fun st wr => ∃ i ov vals, i ≤ n ∧ i ≤ k + 1 ∧ st 0 = .slice (some ⟨lb, lo, none⟩) bs.length lc ∧ st 1 = .int .i64 k ∧ st 5 = .pointer (some ⟨w.heap.size, 0, none⟩) ∧ st 7 = ov ∧ st 14 = .int .i64 n ∧ st 15 = .int .i64 i ∧ wr.ownsRow w2.heap.size 22 1 ov i vals ∧ (∀ (j : Nat) (u : Value), vals[j]? = some u → (u = .slice rA raw.length rc ∧ contX bs k bad raw j = raw) ∨ wr.ownsRow w.heap.size 5 1 u (contX bs k bad raw j).length (bl (contX bs k bad raw j))) ∧ Below w2.heap.size w2 wr) (fun st _ => n - (intOf (st 15)).toNat) ?_ ?_
  · exact ⟨0, .slice none 0 0, [], by omega, by omega, by simp [go_sem], by simp [go_sem], by simp [go_sem], by simp [go_sem], by simp [go_sem], by simp [go_sem], World.ownsRow_nil _ _ _ _, by simp, Below.refl _ _⟩
  · rintro st wr ⟨i, ov, vals, hi, hik, e0, e1, e5, e7, e14, e15, hov, hvals, hB⟩
    have kB : Below w.heap.size w wr := kA.trans (hB.mono kA.size)
    have fin : ∀ (W : World) (u : Value) (vs : List Value) (m : Nat), m = contN k many → W.ownsRow w2.heap.size 22 1 u m vs → Below w.heap.size w W → (∀ (j : Nat) (u : Value), vs[j]? = some u → (u = .slice rA raw.length rc ∧ contX bs k bad raw j = raw) ∨ W.ownsRow w.heap.size 5 1 u (contX bs k bad raw j).length (bl (contX bs k bad raw j))) → ContPost w.heap.size bs k many bad raw (.slice rA raw.length rc) u W := fun W u vs m hm ho hw hv => by
      subst hm
      refine ⟨vs, own_mono (base' := w.heap.size) ho kA.size, fun j u l hu hl => ?_, fun u hu => ?_⟩
      · have hj := (List.getElem?_eq_some_iff.1 hu).1
        rw [ho.1, Nat.mul_one] at hj
        rw [hcx j hj] at hl
        injection hl with hl
        rw [← hl]
        rcases hv j u hu with ⟨rfl, h2⟩ | h2
        · rw [h2]; exact hraw.keep hw
        · exact RdB.of_own h2
      · obtain ⟨j, hj, rfl⟩ := List.getElem_of_mem hu
        rcases hv j _ (List.getElem?_eq_getElem hj) with ⟨h1, _⟩ | h2
        · exact .inl h1
        · refine .inr fun A n c e j' hj' => ?_
          rw [e] at h2
          obtain ⟨e2, _⟩ := own_sl h2
          exact (h2.lt j' (by obtain ⟨_, b, o, rfl, rfl⟩ := hj'; rfl)).1
    by_cases hlt : i < n
    · have hlt' : (i : Int) < n := by omega
      simp [go_sem, IntWalk.iteOmega, IntWalk.toNatUp, e0, e1, e5, e7, e14, e15, hlt, hlt']
      refine callE_of (lfirst_any wr) ?_
      rintro _ w3 ⟨rfl, hd3, k3⟩
      have l34 : (bkv firstB (.slice (some ⟨wr.heap.size + 1, 0, none⟩) 1 1)).length = 34 := bkv_len firstB_ok.len
      have hb1 := bkv_one firstB (some ⟨wr.heap.size + 1, 0, none⟩) 1 1
      have y2 : ∀ (k : Array Value) (t : TypeId), k.size = 34 → canWrite (w3.alloc (.cells k t)) ⟨w3.heap.size, 0, none⟩ 0 34 = true := fun k t hk => canWrite_all (Blk.self_ rfl) 34 hk
      have y3 : ∀ (k : Array Value) (t : TypeId) (l : List Value), k.size = 34 → l.length = 34 → storeSeg (w3.alloc (.cells k t)) ⟨w3.heap.size, 0, none⟩ 0 l = (w3.alloc (.cells k t)).setRow w3.heap.size l.toArray := fun k t l hk hl => storeSeg_all (Blk.self_ rfl) l (by omega)
      have hov3 := row_below hov k3
      have hB3 := hB.trans (k3.mono hB.size)
      obtain ⟨Z, hZ⟩ : ∃ Z, Z = bytesB (if i ≤ k then bs.getD (k - i) firstB else firstB) := ⟨_, rfl⟩
      by_cases hki : i ≤ k
      case' pos =>
        have hkE : IntKind.i64.wrap ((k : Int) - i) = ((k - i : Nat) : Int) := by rw [wrap_i64_if, if_pos (by omega)]; omega
        have hkl : k - i < bs.length := by omega
        simp [go_sem, IntWalk.iteOmega, IntWalk.toNatUp, e0, e1, e5, e7, e14, e15, y2, y3, l34, hb1, hkE, hkl]
        rw [← zeroB_lit]
        have kz : Below w3.heap.size w3 ((w3.alloc (.cells zeroB.toArray 29)).setRow w3.heap.size (bkv firstB (.slice (some ⟨wr.heap.size + 1, 0, none⟩) 1 1)).toArray) := below_setRow (ext_alloc w3 _) (Nat.le_refl _) _
        have hxb : Blk ((w3.alloc (.cells zeroB.toArray 29)).setRow w3.heap.size (bkv firstB (.slice (some ⟨wr.heap.size + 1, 0, none⟩) 1 1)).toArray) w3.heap.size 29 (bkv firstB (.slice (some ⟨wr.heap.size + 1, 0, none⟩) 1 1)).toArray := Blk_setRow (Blk.self_ rfl)
        generalize (w3.alloc (.cells zeroB.toArray 29)).setRow w3.heap.size (bkv firstB (.slice (some ⟨wr.heap.size + 1, 0, none⟩) 1 1)).toArray = w5 at *
        obtain ⟨dv, hcb, hbd, hrd⟩ := hla (k - i) hkl
        have hcc := hck _ (List.getElem_mem hkl)
        have hxe : bytesB bs[k - i] = Z := by rw [hZ, if_pos hki, List.getD_eq_getElem?_getD, List.getElem?_eq_getElem hkl]; rfl
        have kB5 : Below w.heap.size w w5 := (kB.trans (k3.mono kB.size)).trans (kz.mono (by have := kB.size; have := k3.size; omega))
        have hr5 := hrd w5 kB5
        have hcd5 := hbd.keep kB5
        have hlt5 := hxb.lt
        generalize bs[k - i] = cb at *
        have l34c : (bkv cb dv).length = 34 := bkv_len hcb.len
        obtain ⟨dA, dc, rfl, -⟩ := id hbd
        have hb1c := bkv_one cb dA cb.data.length dc
        have v2 := canWrite_all hxb 34 (by rw [List.size_toArray, l34])
        have v3 := storeSeg_all hxb (bkv cb (.slice dA cb.data.length dc)) (by rw [List.size_toArray, l34, l34c])
        have v4 := readCells_all (Blk_setRow hxb (cs' := (bkv cb (.slice dA cb.data.length dc)).toArray)) 34 (by simpa using l34c)
        simp [go_sem, IntWalk.iteOmega, IntWalk.toNatUp, e0, e1, e5, e7, e14, e15, hr5, v2, v3, v4, l34c, hb1c]
        have k36 : Below w3.heap.size w3 (w5.setRow w3.heap.size (bkv cb (.slice dA cb.data.length dc)).toArray) := below_setRow kz (Nat.le_refl _) _
        have hcd : RdB (w5.setRow w3.heap.size (bkv cb (.slice dA cb.data.length dc)).toArray) (.slice dA cb.data.length dc) cb.data := (hbd.keep kB).keep ((k3.trans (k36.mono k3.size)))
        have hszc : w3.heap.size < (w5.setRow w3.heap.size (bkv cb (.slice dA cb.data.length dc)).toArray).heap.size := by simpa [World.setRow] using hlt5
        generalize w5.setRow w3.heap.size (bkv cb (.slice dA cb.data.length dc)).toArray = w6 at *
        generalize (Value.slice dA cb.data.length dc) = dv6 at *
      case' neg =>
        have hkE : IntKind.i64.wrap ((k : Int) - i) = -1 := by rw [wrap_i64_if, if_pos (by omega)]; omega
        have hik1 : i = k + 1 := by omega
        simp [go_sem, IntWalk.iteOmega, IntWalk.toNatUp, e0, e1, e5, e7, e14, e15, y2, y3, l34, hb1, hkE]
        rw [← zeroB_lit]
        have k36 : Below w3.heap.size w3 ((w3.alloc (.cells zeroB.toArray 29)).setRow w3.heap.size (bkv firstB (.slice (some ⟨wr.heap.size + 1, 0, none⟩) 1 1)).toArray) := below_setRow (ext_alloc w3 _) (Nat.le_refl _) _
        have hxb : Blk ((w3.alloc (.cells zeroB.toArray 29)).setRow w3.heap.size (bkv firstB (.slice (some ⟨wr.heap.size + 1, 0, none⟩) 1 1)).toArray) w3.heap.size 29 (bkv firstB (.slice (some ⟨wr.heap.size + 1, 0, none⟩) 1 1)).toArray := Blk_setRow (Blk.self_ rfl)
        have hcd := hd3.keep k36
        have hcb := firstB_ok
        have hcc := firstB_check
        have hxe : bytesB firstB = Z := by rw [hZ, if_neg hki]
        have v4 := readCells_all hxb 34 (by simpa using l34)
        simp [go_sem, IntWalk.iteOmega, IntWalk.toNatUp, e0, e1, e5, e7, e14, e15, v4]
        generalize (w3.alloc (.cells zeroB.toArray 29)).setRow w3.heap.size (bkv firstB (.slice (some ⟨wr.heap.size + 1, 0, none⟩) 1 1)).toArray = w6 at *
        generalize (Value.slice (some ⟨wr.heap.size + 1, 0, none⟩) 1 1) = dv6 at *
        generalize firstB = cb at hcb hcc hcd hxe ⊢
      all_goals
        refine callE_of (wrote_any hcb hcc hcd) ?_
        rintro xv w7 ⟨hxo, k7⟩
        obtain ⟨-, xA, xc, rfl⟩ := own_sl hxo
        have k37 := k36.trans (k7.mono k36.size)
        have kB7 : Below wr.heap.size wr w7 := k3.trans (k37.mono k3.size)
        have kw7 := kB.trans (kB7.mono kB.size)
        have hO7 := (hO.keep hB).keep kB7
        have hoc := hO7.cell
        have hov7 := row_below hov3 k37
        have hxo7 := own_mono (base' := w.heap.size) hxo (by have := kB.size; have := k3.size; have := k36.size; omega)
        have hi1 : IntKind.i64.wrap ((i : Int) + 1) = (i : Int) + 1 := by rw [wrap_i64_if, if_pos (by omega)]
        by_cases hbi : bad.toNat = i
        case' pos =>
          have hbi' : ((bad.toNat : Int) == (i : Int)) = true := by rw [hbi]; simp
          simp [go_sem, IntWalk.iteOmega, IntWalk.toNatUp, e0, e1, e5, e7, e14, e15, hoc, opV, hm3, hbi']
          obtain ⟨X, hX⟩ : ∃ X, Value.slice rA raw.length rc = X := ⟨_, rfl⟩
          have hX1 : allOne [X] = true := by rw [← hX]; rfl
          have hXv : (X = .slice rA raw.length rc ∧ contX bs k bad raw i = raw) ∨ w7.ownsRow w.heap.size 5 1 X (contX bs k bad raw i).length (bl (contX bs k bad raw i)) := .inl ⟨hX.symm, by unfold contX; rw [if_pos hbi]⟩
          rw [hX]
        case' neg =>
          have hbi' : ((bad.toNat : Int) == (i : Int)) = false := by rw [beq_eq_false_iff_ne]; omega
          simp [go_sem, IntWalk.iteOmega, IntWalk.toNatUp, e0, e1, e5, e7, e14, e15, hoc, opV, hm3, hbi']
          have hcxe : contX bs k bad raw i = bytesB cb := by unfold contX; rw [if_neg hbi, hxe, hZ]
          obtain ⟨X, hX⟩ : ∃ X, Value.slice xA (bytesB cb).length xc = X := ⟨_, rfl⟩
          have hX1 : allOne [X] = true := by rw [← hX]; rfl
          have hXv : (X = .slice rA raw.length rc ∧ contX bs k bad raw i = raw) ∨ w7.ownsRow w.heap.size 5 1 X (contX bs k bad raw i).length (bl (contX bs k bad raw i)) := .inr (by rw [hcxe, ← hX]; exact hxo7)
          rw [hX]
        all_goals
          have kW := ext_alloc w7 (.cells #[X] 22)
          have hrdX : Rd (w7.alloc (.cells #[X] 22)) 1 (some ⟨w7.heap.size, 0, none⟩) 1 [X] := rd_one (Blk.self_ rfl) rfl
          have hovW := row_below hov7 kW
          have kwW := kw7.trans (kW.mono kw7.size)
          have kBW := kB7.trans (kW.mono kB7.size)
          have hBW := hB.trans (kBW.mono hB.size)
          have hsW : w2.heap.size ≤ (w7.alloc (.cells #[X] 22)).heap.size := hBW.size
          generalize w7.alloc (.cells #[X] 22) = wA at *
          refine appendE w2.heap.size 22 1 24 Tryz.underlying48 el22 hovW hrdX hX1 (by unfold maxLen; omega) (by omega) hsW ?_
          intro v' w9 hr9 hg9 hbk9
          have kB9 := hBW.grown hg9 hsW (fun k hk => (hovW.lt k hk).1)
          have kw9 := kA.trans (kB9.mono kA.size)
          have hlen9 : vals.length = i := by have := hov.1; omega
          have hv9 : ∀ (j : Nat) (u : Value), (vals ++ [X])[j]? = some u → (u = .slice rA raw.length rc ∧ contX bs k bad raw j = raw) ∨ w9.ownsRow w.heap.size 5 1 u (contX bs k bad raw j).length (bl (contX bs k bad raw j)) := fun j u hu => by
            have far : ∀ {a : World} {v : Value} {l : List UInt8}, a = wA → a.ownsRow w.heap.size 5 1 v l.length (bl l) → w9.ownsRow w.heap.size 5 1 v l.length (bl l) := fun {a v l} ha ho => by
              subst ha
              exact row_keeps (O := fun j => ov.ownBlock ≠ some j) ho (Keeps.grown hg9 fun k hk h => h hk) (fun j hj e => rows_ne hovW ho (by decide) j e hj)
            by_cases hj : j < i
            · rw [List.getElem?_append_left (by omega)] at hu
              exact (hvals j u hu).imp id fun h => far rfl (row_below h kBW)
            · rw [List.getElem?_append_right (by omega)] at hu
              have hj0 : j - vals.length = 0 := by have := (List.getElem?_eq_some_iff.1 hu).1; simp at this; omega
              obtain rfl : j = i := by omega
              rw [hj0] at hu
              injection hu with hu
              subst hu
              exact hXv.imp id fun h => far rfl (row_below h kW)
          simp [go_sem, IntWalk.iteOmega, IntWalk.toNatUp, e0, e1, e5, e7, e14, e15, hkE, hi1]
          subst hX
          first
          | exact ⟨fin _ _ _ _ (by rw [hcn]; omega) hr9 kw9 hv9, kw9⟩
          | (refine roundEnd.mk ⟨i + 1, v', vals ++ [_], by omega, by omega, by simp [go_sem, e0], by simp [go_sem, e1], by simp [go_sem, e5], by simp [go_sem], by simp [go_sem, e14], by simp [go_sem], hr9, hv9, kB9⟩ ?_
             simp [go_sem, intOf, e15]
             omega)
    · obtain rfl : i = n := by omega
      have hlt' : ¬ (i : Int) < i := by omega
      simp [go_sem, IntWalk.iteOmega, IntWalk.toNatUp, e0, e1, e5, e7, e14, e15, hlt']
      exact ⟨fin _ _ _ _ (by rw [hcn]; omega) hov kB hvals, kB⟩
end Go.Proofs.YtdjcjjodbniebaaGreatDoor
namespace Go.Proofs.YtdjcjjodbniebaaGreatDoor
open Go.RowKit
set_option linter.unusedVariables false
set_option linter.unusedSimpArgs false
set_option maxRecDepth 10000
set_option maxHeartbeats 1600000 in
theorem steps1_any {w : World} {b : Bk} {dv : Value} (hok : BkOk b) (hd : RdB w dv b.data) {p : Nat} {id : List UInt8} (hid : id.length = 32) (hp : Blk w p 27 (bl id).toArray) :
    callE Tryz.prog 20 #[.agg (bkv b dv).toArray, .pointer (some ⟨p, 0, none⟩)] w fun r w' => r = .bool ((idB b).1 == id) ∧ Below w.heap.size w w' := by
  have l34 : (bkv b dv).length = 34 := bkv_len hok.len
  have l32 : (bl id).length = 32 := by rw [bl_length]; exact hid
  have kA := ext_alloc w (.cells (bkv b dv).toArray 29)
  have hX : Blk (w.alloc (.cells (bkv b dv).toArray 29)) w.heap.size 29 (bkv b dv).toArray := Blk.self_ rfl
  have hpA := hp.keep kA
  refine calls_E Tryz.func20 rfl rfl rfl (Nat.le_of_ble_eq_true rfl) ?_
  simp [go_sem, IntWalk.iteOmega, IntWalk.toNatUp]
  generalize w.alloc (.cells (bkv b dv).toArray 29) = w2 at *
  refine W_flow (fun g => True) (.pure 0 (.pure 2 (.one 1 (.pure 3 (.pure 4 (.done)))))) follows (by kernel_rfl) ?_
  have hq := held_refl (fun g => True) w2.drew
  have x1 := readCells_all hX.drew 34 (by simpa using l34)
  have x2 := readCells_all hpA.drew 32 (by simpa using l32)
  have hl1 := hX.lt
  have hl2 := hpA.lt
  simp [go_sem, IntWalk.iteOmega, IntWalk.toNatUp, hq, x1, x2, hl1, hl2]
  refine callE_of (named_any hok ((hd.keep kA).keep (ext_drew w2))) ?_
  rintro _ w3 ⟨rfl, k3⟩
  have hqe := fun W => id_eq (idB b).1 id (idB_len b) hid W
  have hq3 := hq.below k3
  simp [go_sem, IntWalk.iteOmega, IntWalk.toNatUp, hq3, hqe]
  exact kA.trans ((ext_drew w2).trans (k3.mono (ext_drew w2).size) |>.mono kA.size)
set_option maxHeartbeats 1600000 in
theorem indexB_any {w : World} {lv : Value} {bs : List Bk} (hl : BksR w lv bs) (hlen : bs.length ≤ 100000) {p : Nat} {id : List UInt8} (hid : id.length = 32) (hp : Blk w p 27 (bl id).toArray) :
    callE Tryz.prog 19 #[lv, .func (.func 20) #[] #[.pointer (some ⟨p, 0, none⟩)]] w fun r w' => ((∃ k : Nat, ∃ hk : k < bs.length, r = .int .i64 k ∧ (idB bs[k]).1 = id ∧ ∀ m (hm : m < bs.length), m < k → (idB bs[m]).1 ≠ id) ∨ (r = .int .i64 (-1) ∧ ∀ m (hm : m < bs.length), (idB bs[m]).1 ≠ id)) ∧ Below w.heap.size w w' := by
  obtain ⟨A, c, -, rfl, -⟩ := _root_.id hl
  refine calls_E Tryz.func19 rfl rfl rfl (Nat.le_of_ble_eq_true rfl) ?_
  simp [go_sem, IntWalk.iteOmega, IntWalk.toNatUp]
  refine W_loop (fun st wr => ∃ i : Nat, i ≤ bs.length ∧ st 0 = .slice A bs.length c ∧ st 1 = .func (.func 20) #[] #[.pointer (some ⟨p, 0, none⟩)] ∧ st 7 = .int .i64 bs.length ∧ st 8 = .int .i64 i ∧ (∀ m (hm : m < bs.length), m < i → (idB bs[m]).1 ≠ id) ∧ Below w.heap.size w wr) (fun st _ => bs.length - (intOf (st 8)).toNat) ?_ ?_
  · exact ⟨0, by omega, by simp [go_sem], by simp [go_sem], by simp [go_sem], by simp [go_sem], fun m hm h => by omega, Below.refl _ _⟩
  · rintro st wr ⟨i, hi, e0, e1, e7, e8, hno, hB⟩
    by_cases hlt : i < bs.length
    · have hlt' : (i : Int) < bs.length := by omega
      obtain ⟨lb, lo, rfl, -, hlb, hla⟩ := hl.at2 (by omega)
      obtain ⟨dv, hok, hd, hrd⟩ := hla i hlt
      have ra' := hrd wr hB
      simp [go_sem, IntWalk.iteOmega, IntWalk.toNatUp, e0, e1, e7, e8, hlt, hlt', ra']
      refine callE_of (steps1_any hok (hd.keep hB) hid (hp.keep hB)) ?_
      rintro _ w3 ⟨rfl, k3⟩
      have hB3 := hB.trans (k3.mono hB.size)
      by_cases hq : (idB bs[i]).1 = id
      · have hq' : ((idB bs[i]).1 == id) = true := by simpa using hq
        simp [go_sem, IntWalk.iteOmega, IntWalk.toNatUp, e0, e1, e7, e8, hq']
        exact ⟨⟨i, rfl, ⟨hlt, hq⟩, fun m hm h => hno m hm h⟩, hB3⟩
      · have hq' : ((idB bs[i]).1 == id) = false := by simpa using hq
        simp [go_sem, IntWalk.iteOmega, IntWalk.toNatUp, e0, e1, e7, e8, hq']
        refine roundEnd.mk ⟨i + 1, by omega, by simp [go_sem, e0], by simp [go_sem, e1], by simp [go_sem, e7], by simp [go_sem], fun m hm h => ?_, hB3⟩ ?_
        · by_cases hmi : m = i
          · subst hmi; exact hq
          · exact hno m hm (by omega)
        · simp [go_sem, intOf, e8]; omega
    · have hlt' : ¬ (i : Int) < bs.length := by omega
      simp [go_sem, IntWalk.iteOmega, IntWalk.toNatUp, e0, e1, e7, e8, hlt']
      exact ⟨fun m hm => hno m hm (by omega), hB⟩
end Go.Proofs.YtdjcjjodbniebaaGreatDoor
namespace Go.Proofs.YtdjcjjodbniebaaGreatDoor
open Go.RowKit
set_option linter.unusedVariables false
set_option linter.unusedSimpArgs false
set_option maxRecDepth 10000
theorem own_of_blk {w : World} {base g e size n : Nat} {cs : Array Value} (h : Blk w g e cs) (hb : base ≤ g) (hs : cs.size = n * size) (hn : n ≤ maxLen) : w.ownsRow base e size (.slice (some ⟨g, 0, none⟩) n n) n cs.toList := by
  refine ⟨by simpa using hs, .inr ⟨g, n, cs, rfl, hb, h, Nat.le_refl _, hn, hs, ?_⟩⟩
  rw [List.take_of_length_le (by simp; omega)]
theorem own_caps {w : World} {base e size n c : Nat} {A : Option Addr} {xs : List Value} (h : w.ownsRow base e size (.slice A n c) n xs) : n ≤ c ∧ c ≤ 9223372036854775807 := by
  rcases h.2 with ⟨e, h0⟩ | ⟨g, cap, cur, e, _, _, hn, hm, _⟩
  · injection e with e1 e2 e3
    omega
  · injection e with e1 e2 e3
    unfold maxLen at hm
    omega
theorem flat_len : ∀ (xs : List (Bk × Value)), (∀ x ∈ xs, x.1.parent.length = 32) → (flat xs).length = xs.length * 34
  | [], _ => rfl
  | y :: ys, h => by
    show (bkv y.1 y.2 ++ flat ys).length = _
    rw [List.length_append, bkv_len (h y (by simp)), flat_len ys fun x hx => h x (by simp [hx]), List.length_cons]
    omega
theorem flat_drop : ∀ (r : Nat) (xs : List (Bk × Value)), (∀ x ∈ xs, x.1.parent.length = 32) → ∀ j, (flat (xs.drop r))[j]? = (flat xs)[r * 34 + j]? ∨ xs.length < r
  | 0, xs, _, j => .inl (by simp)
  | r + 1, [], _, j => .inr (by simp)
  | r + 1, y :: ys, h, j => by
    rcases flat_drop r ys (fun x hx => h x (by simp [hx])) j with h1 | h1
    · refine .inl ?_
      show (flat (ys.drop r))[j]? = (bkv y.1 y.2 ++ flat ys)[(r + 1) * 34 + j]?
      have hl : (bkv y.1 y.2).length = 34 := bkv_len (h y (by simp))
      rw [h1, List.getElem?_append_right (by omega), hl, show (r + 1) * 34 + j - 34 = r * 34 + j by omega]
    · exact .inr (by simp; omega)
theorem BksR.drop {w : World} {b o n c : Nat} {bs : List Bk} (h : BksR w (.slice (some ⟨b, o, none⟩) n c) bs) {r : Nat} (hr : r < bs.length) : BksR w (.slice (some ⟨b, o + r * 34, none⟩) (n - r) (c - r)) (bs.drop r) := by
  obtain ⟨A, c', xs, e, hxm, hrd, hc1, hc2, hxo⟩ := h
  injection e with e1 e2 e3
  subst e1 e2 e3
  have hxl : xs.length = bs.length := by rw [← hxm, List.length_map]
  have hp : ∀ x ∈ xs, x.1.parent.length = 32 := fun x hx => (hxo x hx).1.len
  refine ⟨some ⟨b, o + r * 34, none⟩, c - r, xs.drop r, by rw [List.length_drop], by rw [List.map_drop, hxm], ?_, by rw [List.length_drop]; omega, by omega, fun x hx => hxo x (List.mem_of_mem_drop hx)⟩
  obtain ⟨b', o', e, hb, hc⟩ := hrd.cells (by omega)
  injection e with e
  injection e with e1 e2
  subst e1 e2
  refine ⟨?_, fun _ => ⟨b, o + r * 34, rfl, hb, fun j v hj => ?_⟩⟩
  · rw [flat_len _ fun x hx => hp x (List.mem_of_mem_drop hx), List.length_drop, List.length_drop, hxl]
  · rcases flat_drop r xs hp j with h1 | h1
    · rw [h1] at hj
      rw [show o + r * 34 + j = o + (r * 34 + j) by omega]
      exact hc _ _ hj
    · omega
/-- a block's row, and the others behind it -/
theorem app_first {v1 wA : World} {g : Nat} {fv : Value} {b0 : Bk} (kA : Below v1.heap.size v1 wA) (hg : Blk wA g 29 (bkv b0 fv).toArray) (hge : v1.heap.size ≤ g) (hb0 : BkOk b0) (hd : RdB v1 fv b0.data) {lv : Value} {bs : List Bk} (hl : BksR v1 lv bs) (hb : bs.length ≤ 1000) {ty : Nat} {k : Kont}
    (hk : ∀ v' w', BksR w' v' (b0 :: bs) → Below v1.heap.size v1 w' → wA.grownBy w' (some g) → k v' w') : resE Tryz.prog (appendR Tryz.prog 24 24 ty (.slice (some ⟨g, 0, none⟩) 1 1) lv wA) k := by
  obtain ⟨A, c, xs, rfl, hxm, hrd, hc1, hc2, hxo⟩ := hl
  have h34 : (bkv b0 fv).length = 34 := bkv_len hb0.len
  have hown : wA.ownsRow v1.heap.size 29 34 (.slice (some ⟨g, 0, none⟩) 1 1) 1 (bkv b0 fv) := own_of_blk hg hge (by rw [List.size_toArray]; exact h34) (by decide)
  have h1 : allOne (flat xs) = true := allOne_of fun v hv => by
    unfold flat at hv
    obtain ⟨x, hx, hv⟩ := List.mem_flatMap.1 hv
    obtain ⟨A', c', e, _⟩ := (hxo x hx).2
    have := bkv_one x.1 A' x.1.data.length c'
    rw [← e] at this
    exact allOne_mem this v hv
  refine appendE v1.heap.size 29 34 64 Tryz.underlying24 el29 hown (hrd.keep kA) h1 (by unfold maxLen; omega) (by omega) kA.size ?_
  intro v' w' hr' hg' hb'
  have kB : Below v1.heap.size v1 w' := kA.grown hg' kA.size (fun k hk => (hown.lt k hk).1)
  refine hk v' w' ?_ kB hg'
  obtain ⟨-, A', c', rfl⟩ := own_sl hr'
  have hcp := own_caps hr'
  have e1 : 1 + bs.length = (b0 :: bs).length := by simp; omega
  refine ⟨A', c', (b0, fv) :: xs, by rw [e1], by simp [hxm], ?_, by rw [← e1]; exact hcp.1, hcp.2, ?_⟩
  · rw [← e1]
    exact Rd.of_own hr'
  · intro x hx
    rcases List.mem_cons.1 hx with rfl | hx
    · exact ⟨hb0, hd.keep kB⟩
    · exact ⟨(hxo x hx).1, (hxo x hx).2.keep kB⟩
theorem rd_blockQ {w : World} {b o : Nat} {Q : Value → List UInt8 → Prop} {xs : List (Bk × Value)} {bs : List Bk} (hm : xs.map Prod.fst = bs) (hok : ∀ x ∈ xs, BkOk x.1 ∧ Q x.2 x.1.data) (hc : ∀ j v, (flat xs)[j]? = some v → w.cell? ⟨b, o + j, none⟩ = some v) {i : Nat} (hi : i < bs.length) :
    ∃ dv, BkOk bs[i] ∧ Q dv bs[i].data ∧ ∀ j v, (bkv bs[i] dv)[j]? = some v → w.cell? ⟨b, o + (34 * i + j), none⟩ = some v := by
  obtain ⟨dv, hx⟩ := map_at hm hi
  have hmem := List.mem_of_getElem? hx
  exact ⟨dv, (hok _ hmem).1, (hok _ hmem).2, fun j v hj => hc _ _ (flat_at xs (fun x hx => (hok x hx).1.len) i _ hx j v hj)⟩
/-- a block's row, and the others behind it -/
theorem app_firstQ {v1 wA : World} {g : Nat} {fv : Value} {b0 : Bk} (kA : Below v1.heap.size v1 wA) (hg : Blk wA g 29 (bkv b0 fv).toArray) (hge : v1.heap.size ≤ g) (hb0 : BkOk b0) {A : Option Addr} {c n : Nat} {bs : List Bk} {xs : List (Bk × Value)} (hxm : xs.map Prod.fst = bs) (hn : bs.length = n) (hrd : Rd v1 34 A n (flat xs)) (hxo : ∀ x ∈ xs, BkOk x.1 ∧ RdB v1 x.2 x.1.data) (hb : n ≤ 1000)
    (Q : Value → List UInt8 → Prop) (hQ0 : Q fv b0.data) (hQ : ∀ x ∈ xs, Q x.2 x.1.data) {ty : Nat} {k : Kont}
    (hk : ∀ v' w' b o c', v' = .slice (some ⟨b, o, none⟩) (n + 1) c' → b < w'.heap.size → (∀ i (hi : i < (b0 :: bs).length), ∃ dv, BkOk (b0 :: bs)[i] ∧ Q dv (b0 :: bs)[i].data ∧ ∀ W, Below w'.heap.size w' W → readCells W ⟨b, o + i * 34, none⟩ 0 34 = some (bkv (b0 :: bs)[i] dv)) → Below v1.heap.size v1 w' → wA.grownBy w' (some g) → k v' w') : resE Tryz.prog (appendR Tryz.prog 24 24 ty (.slice (some ⟨g, 0, none⟩) 1 1) (.slice A n c) wA) k := by
  subst hn
  have h34 : (bkv b0 fv).length = 34 := bkv_len hb0.len
  have hown : wA.ownsRow v1.heap.size 29 34 (.slice (some ⟨g, 0, none⟩) 1 1) 1 (bkv b0 fv) := own_of_blk hg hge (by rw [List.size_toArray]; exact h34) (by decide)
  have h1 : allOne (flat xs) = true := allOne_of fun v hv => by
    unfold flat at hv
    obtain ⟨x, hx, hv⟩ := List.mem_flatMap.1 hv
    obtain ⟨A', c', e, _⟩ := (hxo x hx).2
    have := bkv_one x.1 A' x.1.data.length c'
    rw [← e] at this
    exact allOne_mem this v hv
  refine appendE v1.heap.size 29 34 64 Tryz.underlying24 el29 hown (hrd.keep kA) h1 (by unfold maxLen; omega) (by omega) kA.size ?_
  intro v' w' hr' hg' hb'
  have kB : Below v1.heap.size v1 w' := kA.grown hg' kA.size (fun k hk => (hown.lt k hk).1)
  obtain ⟨-, A', c', rfl⟩ := own_sl hr'
  obtain ⟨b, o, rfl, hbl, hcs⟩ := (Rd.of_own hr').cells (by omega)
  refine hk _ w' b o c' (by rw [Nat.add_comm]) hbl ?_ kB hg'
  intro i hi
  have hm : ((b0, fv) :: xs).map Prod.fst = b0 :: bs := by simp [hxm]
  obtain ⟨dv, h1, h2, h3⟩ := rd_blockQ (w := w') (b := b) (o := o) (Q := Q) hm (fun x hx => by
    rcases List.mem_cons.1 hx with rfl | hx
    · exact ⟨hb0, hQ0⟩
    · exact ⟨(hxo x hx).1, hQ x hx⟩) hcs hi
  refine ⟨dv, h1, h2, fun W hW => readCells_cells 34 0 _ (bkv_len h1.len) (fun j v hj => ?_)⟩
  rw [show o + i * 34 + 0 + j = o + (34 * i + j) by omega]
  exact (hW.cell (p := ⟨b, o + (34 * i + j), none⟩) hbl).trans (h3 j v hj)
/-- how many answers are needed -/
theorem need_lt {d t i : Nat} (ht : 1 ≤ t) (hi : i < (d + t - 1) / t) : i * t < d := by
  have h1 := Nat.div_mul_le_self (d + t - 1) t
  have h2 : (i + 1) * t ≤ (d + t - 1) / t * t := Nat.mul_le_mul_right _ hi
  have h3 : (i + 1) * t = i * t + t := Nat.succ_mul _ _
  omega
theorem need_ge {d t : Nat} (ht : 1 ≤ t) : d ≤ (d + t - 1) / t * t := by
  have h1 := Nat.div_add_mod (d + t - 1) t
  have h2 := Nat.mod_lt (d + t - 1) (show 0 < t by omega)
  rw [Nat.mul_comm] at h1
  omega
theorem need_small {d t : Nat} (ht : 1 ≤ t) (hd : 1 ≤ d) : (d + t - 1) / t ≤ d := by
  rw [Nat.div_le_iff_le_mul_add_pred (by omega)]
  have : d ≤ t * d := Nat.le_mul_of_pos_left d (by omega)
  omega
theorem row_at {n i : Nat} (hi : i < n) : (rowL 5 n firstB)[i]? = some (qB 5 (i + 1)) := by
  have h := rowL_qB 5 n 0
  rw [show qB 5 0 = firstB from rfl] at h
  rw [h, List.getElem?_map, List.getElem?_range hi]
  show some (qB 5 (0 + 1 + i)) = _
  rw [show 0 + 1 + i = i + 1 by omega]
theorem row_len (n : Nat) : (rowL 5 n firstB).length = n := by
  have h := rowL_qB 5 n 0
  rw [show qB 5 0 = firstB from rfl] at h
  rw [h]; simp
theorem row_drop {m r : Nat} (hr : r < m) : (topL (qB 5) m (m - r)).reverse = (rowL 5 m firstB).drop r := by
  apply List.ext_getElem?
  intro i
  rw [List.getElem?_drop]
  by_cases hi : i < m - r
  · rw [row_at (by omega), List.getElem?_reverse (by rw [topL_len]; exact hi), topL_len]
    unfold topL
    rw [List.getElem?_map, List.getElem?_range (by omega)]
    show some (qB 5 (m - (m - r - 1 - i))) = _
    rw [show m - (m - r - 1 - i) = r + i + 1 by omega]
  · rw [List.getElem?_eq_none (by rw [List.length_reverse, topL_len]; omega), List.getElem?_eq_none (by rw [row_len]; omega)]
theorem cont_steps {m h : Nat} (h1 : 1 ≤ h) (hm : h ≤ m) {t : UInt8} (ht : 1 ≤ t.toNat) (ht2 : t.toNat ≤ 16) : contL (rowL 5 m firstB) (h - 1) t 255 [] = (List.range (min t.toNat (h + 1))).map fun j => bytesB (qB 5 (h - j)) := by
  unfold contL contN
  rw [show t.toNat % 20 = t.toNat by omega, show h - 1 + 2 = h + 1 by omega]
  apply List.map_congr_left
  intro j hj
  have hj' := List.mem_range.1 hj
  unfold contX
  have h255 : (255 : UInt8).toNat = 255 := rfl
  rw [if_neg (by omega)]
  split
  · rw [List.getD_eq_getElem?_getD, row_at (by omega)]
    show bytesB (qB 5 (h - 1 - j + 1)) = _
    rw [show h - 1 - j + 1 = h - j by omega]
  · rw [show h - j = 0 by omega]
    rfl
theorem named_q {q : Nat → Bk} {m i : Nat} (hq : QRow q m) (hi : i ≤ m) : (idB (q i)).1 = nq q i := idB_eq (hq.ok i hi).2.1 rfl
end Go.Proofs.YtdjcjjodbniebaaGreatDoor
