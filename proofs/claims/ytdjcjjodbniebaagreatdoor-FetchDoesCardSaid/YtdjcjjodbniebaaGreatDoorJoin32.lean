/-
  Texts joined: FConts, FNones, FTold.
-/
import Derived.Test.YtdjcjjodbniebaaGreatDoorJoin31
import Derived.ChangeKeysEq
namespace Go.Proofs.YtdjcjjodbniebaaGreatDoor
open Go.RowKit
set_option linter.unusedVariables false
set_option linter.unusedSimpArgs false
set_option maxRecDepth 10000
def opV (d a b : Int) (want : Bool) (fv : Value) (many bad : UInt8) (rv : Value) : Array Value := #[.int .i64 d, .int .u8 a, .int .u8 b, .bool want, fv, .int .u8 many.toNat, .int .u8 bad.toNat, rv]
def contX (bs : List Bk) (k : Nat) (bad : UInt8) (raw : List UInt8) (i : Nat) : List UInt8 := if bad.toNat = i then raw else bytesB (if i ≤ k then bs.getD (k - i) firstB else firstB)
def contN (k : Nat) (many : UInt8) : Nat := min (many.toNat % 20) (k + 2)
def contL (bs : List Bk) (k : Nat) (many bad : UInt8) (raw : List UInt8) : List (List UInt8) := (List.range (contN k many)).map (contX bs k bad raw)
def ContPost (base : Nat) (bs : List Bk) (k : Nat) (many bad : UInt8) (raw : List UInt8) (rv : Value) (r : Value) (w' : World) : Prop :=
  ∃ vals, w'.ownsRow base 22 1 r (contN k many) vals ∧ (∀ (i : Nat) (u : Value) (l : List UInt8), vals[i]? = some u → (contL bs k many bad raw)[i]? = some l → RdB w' u l) ∧ ∀ u ∈ vals, u = rv ∨ ∀ A n c, u = .slice A n c → ∀ j, atB n A j → base ≤ j
theorem RdB.of_own {w : World} {base e : Nat} {v : Value} {l : List UInt8} (h : w.ownsRow base e 1 v l.length (bl l)) : RdB w v l := by
  obtain ⟨-, A, c, rfl⟩ := own_sl h
  refine ⟨A, c, rfl, Rd.of_own h, fun hA => ?_, ?_, ?_⟩
  · rcases h.2 with ⟨e, h0⟩ | ⟨g, cap, cur, e, _, _, hn, hm, _⟩
    · exact h0
    · injection e with e1 e2 e3
      rw [hA] at e1; cases e1
  · rcases h.2 with ⟨e, h0⟩ | ⟨g, cap, cur, e, _, _, hn, hm, _⟩
    · omega
    · injection e with e1 e2 e3
      omega
  · rcases h.2 with ⟨e, h0⟩ | ⟨g, cap, cur, e, _, _, hn, hm, _⟩
    · injection e with e1 e2 e3
      omega
    · injection e with e1 e2 e3
      unfold maxLen at hm
      omega
set_option maxHeartbeats 6400000 in
theorem conts_any {w : World} {lv : Value} {bs : List Bk} (hl : BksR w lv bs) (hck : ∀ b ∈ bs, checkB b = 0) {k : Nat} (hk : k < bs.length) (hlen : bs.length ≤ 100000) {d a b : Int} {want : Bool} {fv rv : Value} {many bad : UInt8} {raw : List UInt8} (hraw : RdB w rv raw) :
    callE Tryz.prog 22 #[lv, .int .i64 k, .agg (opV d a b want fv many bad rv)] w fun r w' => ContPost w.heap.size bs k many bad raw rv r w' ∧ Below w.heap.size w w' := by
  obtain ⟨rA, rc, rfl, -⟩ := id hraw
  obtain ⟨lA, lc, -, rfl, -⟩ := id hl
  obtain ⟨lb, lo, rfl, -, hlb, hla⟩ := hl.at2 (by omega)
  have kA := ext_alloc w (.cells (opV d a b want fv many bad (.slice rA raw.length rc)) 52)
  have hO : Blk (w.alloc (.cells (opV d a b want fv many bad (.slice rA raw.length rc)) 52)) w.heap.size 52 (opV d a b want fv many bad (.slice rA raw.length rc)) := Blk.self_ rfl
  obtain ⟨n, hn⟩ : ∃ n, n = many.toNat % 20 := ⟨_, rfl⟩
  have hn20 : n < 20 := by omega
  have hm1 : (many.toNat : Int).tmod 20 = (n : Int) := by
    rw [Int.tmod_eq_emod_of_nonneg (by omega)]
    omega
  have hm2 : IntKind.i64.wrap (n : Int) = n := by rw [wrap_i64_if, if_pos (by omega)]
  have hm3 : IntKind.i64.wrap (bad.toNat : Int) = (bad.toNat : Int) := by rw [wrap_i64_if, if_pos (by have := bad.toNat_lt; omega)]
  have hcn : contN k many = min n (k + 2) := by unfold contN; rw [hn]
  have hcx : ∀ i, i < contN k many → (contL bs k many bad raw)[i]? = some (contX bs k bad raw i) := fun i hi => by
    unfold contL
    rw [List.getElem?_map, List.getElem?_range hi]
    rfl
  refine calls_E Tryz.func22 rfl rfl rfl (Nat.le_of_ble_eq_true rfl) ?_
  simp [go_sem, IntWalk.iteOmega, IntWalk.toNatUp, opV, hm1, hm2]
  change W _ _ _ _ (w.alloc (.cells (opV d a b want fv many bad (.slice rA raw.length rc)) 52)) _
  generalize w.alloc (.cells (opV d a b want fv many bad (.slice rA raw.length rc)) 52) = w2 at *
  refine W_loop (fun st wr => ∃ i ov vals, i ≤ n ∧ i ≤ k + 1 ∧ st 0 = .slice (some ⟨lb, lo, none⟩) bs.length lc ∧ st 1 = .int .i64 k ∧ st 5 = .pointer (some ⟨w.heap.size, 0, none⟩) ∧ st 7 = ov ∧ st 14 = .int .i64 n ∧ st 15 = .int .i64 i ∧ wr.ownsRow w2.heap.size 22 1 ov i vals ∧ (∀ (j : Nat) (u : Value), vals[j]? = some u → (u = .slice rA raw.length rc ∧ contX bs k bad raw j = raw) ∨ wr.ownsRow w.heap.size 5 1 u (contX bs k bad raw j).length (bl (contX bs k bad raw j))) ∧ Below w2.heap.size w2 wr) (fun st _ => n - (intOf (st 15)).toNat) ?_ ?_
  · exact ⟨0, .slice none 0 0, [], by omega, by omega, by simp [go_sem], by simp [go_sem], by simp [go_sem], by simp [go_sem], by simp [go_sem], by simp [go_sem], World.ownsRow_nil _ _ _ _, by simp, Below.refl _ _⟩
  · rintro st wr ⟨i, ov, vals, hi, hik, e0, e1, e5, e7, e14, e15, hov, hvals, hB⟩
    have kB : Below w.heap.size w wr := kA.trans (hB.mono kA.size)
    have fin : ∀ (W : World) (u : Value) (vs : List Value) (m : Nat), m = contN k many → W.ownsRow w2.heap.size 22 1 u m vs → Below w.heap.size w W → (∀ (j : Nat) (u : Value), vs[j]? = some u → (u = .slice rA raw.length rc ∧ contX bs k bad raw j = raw) ∨ W.ownsRow w.heap.size 5 1 u (contX bs k bad raw j).length (bl (contX bs k bad raw j))) → ContPost w.heap.size bs k many bad raw (.slice rA raw.length rc) u W := fun W u vs m hm ho hw hv => by
      subst hm
      refine ⟨vs, own_mono (base' := w.heap.size) ho kA.size, fun j u l hu hl => ?_, fun u hu => ?_⟩
      · have hj := (List.getElem?_eq_some_iff.1 hu).1
        rw [ho.1, Nat.mul_one] at hj
        rw [hcx j hj] at hl
        injection hl with hl
        rw [← hl]
        rcases hv j u hu with ⟨rfl, h2⟩ | h2
        · rw [h2]; exact hraw.keep hw
        · exact RdB.of_own h2
      · obtain ⟨j, hj, rfl⟩ := List.getElem_of_mem hu
        rcases hv j _ (List.getElem?_eq_getElem hj) with ⟨h1, _⟩ | h2
        · exact .inl h1
        · refine .inr fun A n c e j' hj' => ?_
          rw [e] at h2
          obtain ⟨e2, _⟩ := own_sl h2
          exact (h2.lt j' (by obtain ⟨_, b, o, rfl, rfl⟩ := hj'; rfl)).1
    by_cases hlt : i < n
    · have hlt' : (i : Int) < n := by omega
      simp [go_sem, IntWalk.iteOmega, IntWalk.toNatUp, e0, e1, e5, e7, e14, e15, hlt, hlt']
      refine callE_of (lfirst_any wr) ?_
      rintro _ w3 ⟨rfl, hd3, k3⟩
      have l34 : (bkv firstB (.slice (some ⟨wr.heap.size + 1, 0, none⟩) 1 1)).length = 34 := bkv_len firstB_ok.len
      have hb1 := bkv_one firstB (some ⟨wr.heap.size + 1, 0, none⟩) 1 1
      have y2 : ∀ (k : Array Value) (t : TypeId), k.size = 34 → canWrite (w3.alloc (.cells k t)) ⟨w3.heap.size, 0, none⟩ 0 34 = true := fun k t hk => canWrite_all (Blk.self_ rfl) 34 hk
      have y3 : ∀ (k : Array Value) (t : TypeId) (l : List Value), k.size = 34 → l.length = 34 → storeSeg (w3.alloc (.cells k t)) ⟨w3.heap.size, 0, none⟩ 0 l = (w3.alloc (.cells k t)).setRow w3.heap.size l.toArray := fun k t l hk hl => storeSeg_all (Blk.self_ rfl) l (by omega)
      have hov3 := row_below hov k3
      have hB3 := hB.trans (k3.mono hB.size)
      obtain ⟨Z, hZ⟩ : ∃ Z, Z = bytesB (if i ≤ k then bs.getD (k - i) firstB else firstB) := ⟨_, rfl⟩
      by_cases hki : i ≤ k
      case' pos =>
        have hkE : IntKind.i64.wrap ((k : Int) - i) = ((k - i : Nat) : Int) := by rw [wrap_i64_if, if_pos (by omega)]; omega
        have hkl : k - i < bs.length := by omega
        simp [go_sem, IntWalk.iteOmega, IntWalk.toNatUp, e0, e1, e5, e7, e14, e15, y2, y3, l34, hb1, hkE, hkl]
        rw [← zeroB_lit]
        have kz : Below w3.heap.size w3 ((w3.alloc (.cells zeroB.toArray 29)).setRow w3.heap.size (bkv firstB (.slice (some ⟨wr.heap.size + 1, 0, none⟩) 1 1)).toArray) := below_setRow (ext_alloc w3 _) (Nat.le_refl _) _
        have hxb : Blk ((w3.alloc (.cells zeroB.toArray 29)).setRow w3.heap.size (bkv firstB (.slice (some ⟨wr.heap.size + 1, 0, none⟩) 1 1)).toArray) w3.heap.size 29 (bkv firstB (.slice (some ⟨wr.heap.size + 1, 0, none⟩) 1 1)).toArray := Blk_setRow (Blk.self_ rfl)
        generalize (w3.alloc (.cells zeroB.toArray 29)).setRow w3.heap.size (bkv firstB (.slice (some ⟨wr.heap.size + 1, 0, none⟩) 1 1)).toArray = w5 at *
        obtain ⟨dv, hcb, hbd, hrd⟩ := hla (k - i) hkl
        have hcc := hck _ (List.getElem_mem hkl)
        have hxe : bytesB bs[k - i] = Z := by rw [hZ, if_pos hki, List.getD_eq_getElem?_getD, List.getElem?_eq_getElem hkl]; rfl
        have kB5 : Below w.heap.size w w5 := (kB.trans (k3.mono kB.size)).trans (kz.mono (by have := kB.size; have := k3.size; omega))
        have hr5 := hrd w5 kB5
        have hcd5 := hbd.keep kB5
        have hlt5 := hxb.lt
        generalize bs[k - i] = cb at *
        have l34c : (bkv cb dv).length = 34 := bkv_len hcb.len
        obtain ⟨dA, dc, rfl, -⟩ := id hbd
        have hb1c := bkv_one cb dA cb.data.length dc
        have v2 := canWrite_all hxb 34 (by rw [List.size_toArray, l34])
        have v3 := storeSeg_all hxb (bkv cb (.slice dA cb.data.length dc)) (by rw [List.size_toArray, l34, l34c])
        have v4 := readCells_all (Blk_setRow hxb (cs' := (bkv cb (.slice dA cb.data.length dc)).toArray)) 34 (by simpa using l34c)
        simp [go_sem, IntWalk.iteOmega, IntWalk.toNatUp, e0, e1, e5, e7, e14, e15, hr5, v2, v3, v4, l34c, hb1c]
        have k36 : Below w3.heap.size w3 (w5.setRow w3.heap.size (bkv cb (.slice dA cb.data.length dc)).toArray) := below_setRow kz (Nat.le_refl _) _
        have hcd : RdB (w5.setRow w3.heap.size (bkv cb (.slice dA cb.data.length dc)).toArray) (.slice dA cb.data.length dc) cb.data := (hbd.keep kB).keep ((k3.trans (k36.mono k3.size)))
        have hszc : w3.heap.size < (w5.setRow w3.heap.size (bkv cb (.slice dA cb.data.length dc)).toArray).heap.size := by simpa [World.setRow] using hlt5
        generalize w5.setRow w3.heap.size (bkv cb (.slice dA cb.data.length dc)).toArray = w6 at *
        generalize (Value.slice dA cb.data.length dc) = dv6 at *
      case' neg =>
        have hkE : IntKind.i64.wrap ((k : Int) - i) = -1 := by rw [wrap_i64_if, if_pos (by omega)]; omega
        have hik1 : i = k + 1 := by omega
        simp [go_sem, IntWalk.iteOmega, IntWalk.toNatUp, e0, e1, e5, e7, e14, e15, y2, y3, l34, hb1, hkE]
        rw [← zeroB_lit]
        have k36 : Below w3.heap.size w3 ((w3.alloc (.cells zeroB.toArray 29)).setRow w3.heap.size (bkv firstB (.slice (some ⟨wr.heap.size + 1, 0, none⟩) 1 1)).toArray) := below_setRow (ext_alloc w3 _) (Nat.le_refl _) _
        have hxb : Blk ((w3.alloc (.cells zeroB.toArray 29)).setRow w3.heap.size (bkv firstB (.slice (some ⟨wr.heap.size + 1, 0, none⟩) 1 1)).toArray) w3.heap.size 29 (bkv firstB (.slice (some ⟨wr.heap.size + 1, 0, none⟩) 1 1)).toArray := Blk_setRow (Blk.self_ rfl)
        have hcd := hd3.keep k36
        have hcb := firstB_ok
        have hcc := firstB_check
        have hxe : bytesB firstB = Z := by rw [hZ, if_neg hki]
        have v4 := readCells_all hxb 34 (by simpa using l34)
        simp [go_sem, IntWalk.iteOmega, IntWalk.toNatUp, e0, e1, e5, e7, e14, e15, v4]
        generalize (w3.alloc (.cells zeroB.toArray 29)).setRow w3.heap.size (bkv firstB (.slice (some ⟨wr.heap.size + 1, 0, none⟩) 1 1)).toArray = w6 at *
        generalize (Value.slice (some ⟨wr.heap.size + 1, 0, none⟩) 1 1) = dv6 at *
        generalize firstB = cb at hcb hcc hcd hxe ⊢
      all_goals
        refine callE_of (wrote_any hcb hcc hcd) ?_
        rintro xv w7 ⟨hxo, k7⟩
        obtain ⟨-, xA, xc, rfl⟩ := own_sl hxo
        have k37 := k36.trans (k7.mono k36.size)
        have kB7 : Below wr.heap.size wr w7 := k3.trans (k37.mono k3.size)
        have kw7 := kB.trans (kB7.mono kB.size)
        have hO7 := (hO.keep hB).keep kB7
        have hoc := hO7.cell
        have hov7 := row_below hov3 k37
        have hxo7 := own_mono (base' := w.heap.size) hxo (by have := kB.size; have := k3.size; have := k36.size; omega)
        have hi1 : IntKind.i64.wrap ((i : Int) + 1) = (i : Int) + 1 := by rw [wrap_i64_if, if_pos (by omega)]
        by_cases hbi : bad.toNat = i
        case' pos =>
          have hbi' : ((bad.toNat : Int) == (i : Int)) = true := by rw [hbi]; simp
          simp [go_sem, IntWalk.iteOmega, IntWalk.toNatUp, e0, e1, e5, e7, e14, e15, hoc, opV, hm3, hbi']
          obtain ⟨X, hX⟩ : ∃ X, Value.slice rA raw.length rc = X := ⟨_, rfl⟩
          have hX1 : allOne [X] = true := by rw [← hX]; rfl
          have hXv : (X = .slice rA raw.length rc ∧ contX bs k bad raw i = raw) ∨ w7.ownsRow w.heap.size 5 1 X (contX bs k bad raw i).length (bl (contX bs k bad raw i)) := .inl ⟨hX.symm, by unfold contX; rw [if_pos hbi]⟩
          rw [hX]
        case' neg =>
          have hbi' : ((bad.toNat : Int) == (i : Int)) = false := by rw [beq_eq_false_iff_ne]; omega
          simp [go_sem, IntWalk.iteOmega, IntWalk.toNatUp, e0, e1, e5, e7, e14, e15, hoc, opV, hm3, hbi']
          have hcxe : contX bs k bad raw i = bytesB cb := by unfold contX; rw [if_neg hbi, hxe, hZ]
          obtain ⟨X, hX⟩ : ∃ X, Value.slice xA (bytesB cb).length xc = X := ⟨_, rfl⟩
          have hX1 : allOne [X] = true := by rw [← hX]; rfl
          have hXv : (X = .slice rA raw.length rc ∧ contX bs k bad raw i = raw) ∨ w7.ownsRow w.heap.size 5 1 X (contX bs k bad raw i).length (bl (contX bs k bad raw i)) := .inr (by rw [hcxe, ← hX]; exact hxo7)
          rw [hX]
        all_goals
          have kW := ext_alloc w7 (.cells #[X] 22)
          have hrdX : Rd (w7.alloc (.cells #[X] 22)) 1 (some ⟨w7.heap.size, 0, none⟩) 1 [X] := rd_one (Blk.self_ rfl) rfl
          have hovW := row_below hov7 kW
          have kwW := kw7.trans (kW.mono kw7.size)
          have kBW := kB7.trans (kW.mono kB7.size)
          have hBW := hB.trans (kBW.mono hB.size)
          have hsW : w2.heap.size ≤ (w7.alloc (.cells #[X] 22)).heap.size := hBW.size
          generalize w7.alloc (.cells #[X] 22) = wA at *
          refine appendE w2.heap.size 22 1 24 Tryz.underlying48 el22 hovW hrdX hX1 (by unfold maxLen; omega) (by omega) hsW ?_
          intro v' w9 hr9 hg9 hbk9
          have kB9 := hBW.grown hg9 hsW (fun k hk => (hovW.lt k hk).1)
          have kw9 := kA.trans (kB9.mono kA.size)
          have hlen9 : vals.length = i := by have := hov.1; omega
          have hv9 : ∀ (j : Nat) (u : Value), (vals ++ [X])[j]? = some u → (u = .slice rA raw.length rc ∧ contX bs k bad raw j = raw) ∨ w9.ownsRow w.heap.size 5 1 u (contX bs k bad raw j).length (bl (contX bs k bad raw j)) := fun j u hu => by
            have far : ∀ {a : World} {v : Value} {l : List UInt8}, a = wA → a.ownsRow w.heap.size 5 1 v l.length (bl l) → w9.ownsRow w.heap.size 5 1 v l.length (bl l) := fun {a v l} ha ho => by
              subst ha
              exact row_keeps (O := fun j => ov.ownBlock ≠ some j) ho (Keeps.grown hg9 fun k hk h => h hk) (fun j hj e => rows_ne hovW ho (by decide) j e hj)
            by_cases hj : j < i
            · rw [List.getElem?_append_left (by omega)] at hu
              exact (hvals j u hu).imp id fun h => far rfl (row_below h kBW)
            · rw [List.getElem?_append_right (by omega)] at hu
              have hj0 : j - vals.length = 0 := by have := (List.getElem?_eq_some_iff.1 hu).1; simp at this; omega
              obtain rfl : j = i := by omega
              rw [hj0] at hu
              injection hu with hu
              subst hu
              exact hXv.imp id fun h => far rfl (row_below h kW)
          simp [go_sem, IntWalk.iteOmega, IntWalk.toNatUp, e0, e1, e5, e7, e14, e15, hkE, hi1]
          subst hX
          first
          | exact ⟨fin _ _ _ _ (by rw [hcn]; omega) hr9 kw9 hv9, kw9⟩
          | (refine roundEnd.mk ⟨i + 1, v', vals ++ [_], by omega, by omega, by simp [go_sem, e0], by simp [go_sem, e1], by simp [go_sem, e5], by simp [go_sem], by simp [go_sem, e14], by simp [go_sem], hr9, hv9, kB9⟩ ?_
             simp [go_sem, intOf, e15]
             omega)
    · obtain rfl : i = n := by omega
      have hlt' : ¬ (i : Int) < i := by omega
      simp [go_sem, IntWalk.iteOmega, IntWalk.toNatUp, e0, e1, e5, e7, e14, e15, hlt']
      exact ⟨fin _ _ _ _ (by rw [hcn]; omega) hov kB hvals, kB⟩
def NoF (w : World) (p : Value) : Prop := p = .pointer none ∨ ∃ f cs, p = .pointer (some ⟨f, 0, none⟩) ∧ Blk w f 72 cs ∧ cs[35]? = some (.map none)
theorem NoF.keep {w w' : World} {p : Value} (h : NoF w p) (hk : Below w.heap.size w w') : NoF w' p := by
  rcases h with h | ⟨f, cs, h1, h2, h3⟩
  · exact .inl h
  · exact .inr ⟨f, cs, h1, h2.keep hk, h3⟩
section
variable {w : World} {p : Value}
end
theorem entersWants (args : Array Value) (w : World) : (callFunc 51 args).run Tryz.prog w = .ok (.enter 51 args) w :=
  enters_of Tryz.func51 (by kernel_rfl) rfl args w
def encI (id : List UInt8) : Array Value := #[.agg (bl id).toArray]
theorem flatI_at : ∀ (xs : List (List UInt8)) (hok : ∀ x ∈ xs, x.length = 32) (i : Nat) (x : List UInt8), xs[i]? = some x → ∀ j v, (bl x)[j]? = some v → (flatI xs)[32 * i + j]? = some v
  | [], _, i, x, h, _, _, _ => by simp at h
  | y :: ys, hok, 0, x, h, j, v, hj => by
    simp at h
    subst h
    show ((bl y) ++ flatI ys)[32 * 0 + j]? = some v
    rw [Nat.mul_zero, Nat.zero_add, List.getElem?_append_left (List.getElem?_eq_some_iff.1 hj).1]
    exact hj
  | y :: ys, hok, i + 1, x, h, j, v, hj => by
    have hl : (bl y).length = 32 := by rw [bl_length]; exact hok y (by simp)
    show ((bl y) ++ flatI ys)[32 * (i + 1) + j]? = some v
    rw [List.getElem?_append_right (by omega), hl, show 32 * (i + 1) + j - 32 = 32 * i + j by omega]
    exact flatI_at ys (fun x hx => hok x (by simp [hx])) i x (by simpa using h) j v hj
set_option maxHeartbeats 1600000 in
theorem wants_seq (xs : List (List UInt8)) (hok : ∀ x ∈ xs, x.length = 32) (A : Option Addr) (cap g : Nat) (w : World) (hlen : xs.length ≤ 100000) (hg : Blk w g 37 #[.slice A xs.length cap]) (hrd : Rd w 32 A xs.length (flatI xs)) :
    Seq Tryz.prog 51 #[.pointer (some ⟨g, 0, none⟩)] encI (fun l => l = xs) (fun j => j = g ∨ atB xs.length A j) w := by
  intro L W O₀ J Jx hkW hN hJ hJx hY h0 hO
  have hg1 := hkW.blk hg (.inl rfl)
  have hgc := hg1.cell
  show callE Tryz.prog 51 #[.func (.yield L) #[] #[], .pointer (some ⟨g, 0, none⟩)] W _
  refine calls_E Tryz.func51 rfl rfl rfl (Nat.le_of_ble_eq_true rfl) ?_
  simp [go_sem, IntWalk.iteOmega, IntWalk.toNatUp, hgc]
  refine W_loop (fun st wr => ∃ (i : Nat) (O : Nat → Prop), i ≤ xs.length ∧ st 0 = .func (.yield L) #[] #[] ∧ st 5 = .slice A xs.length cap ∧ st 6 = .int .i64 xs.length ∧ st 7 = .int .i64 i ∧
    J (xs.take i) O wr ∧ W.heap.size ≤ wr.heap.size ∧ (∀ j, O j → j < wr.heap.size) ∧ (∀ j, j < W.heap.size → O j → O₀ j) ∧ Keeps (fun j => j = g ∨ atB xs.length A j) w wr) (fun st _ => xs.length - (intOf (st 7)).toNat) ?_ ?_
  · exact ⟨0, O₀, by omega, by simp [go_sem], by simp [go_sem], by simp [go_sem], by simp [go_sem], by simpa using h0, Nat.le_refl _, hO, fun _ _ h => h, hkW⟩
  · rintro st wr ⟨i, O, hi, e0, e5, e6, e7, hj, hsz, hOs, hOO, hkp⟩
    by_cases hlt : i < xs.length
    · obtain ⟨b, o, rfl, hb, hc⟩ := hrd.cells (by omega)
      have hbN : (fun j => j = g ∨ atB xs.length (some ⟨b, o, none⟩) j) b := .inr ⟨by omega, b, o, rfl, rfl⟩
      have hx := List.getElem?_eq_getElem hlt
      have hxl := hok _ (List.getElem_mem hlt)
      have hl32 : (bl xs[i]).length = 32 := by rw [bl_length]; exact hxl
      have hcs := flatI_at xs hok i _ hx
      have ra : readCells wr ⟨b, o + i * 32, none⟩ 0 32 = some (bl xs[i]) := readCells_cells 32 0 _ hl32 (fun j v hj => by
        rw [show o + i * 32 + 0 + j = o + (32 * i + j) by omega]
        rw [hkp.cell (p := ⟨b, o + (32 * i + j), none⟩) hb hbN]
        exact hc _ _ (hcs j v hj))
      have hlt' : (i : Int) < xs.length := by omega
      have htk : xs.take (i + 1) = xs.take i ++ [xs[i]] := take_snoc' hlt
      have hyield := fun a ha1 ha2 ha3 => hY (xs.take i) xs[i] O a ⟨_, rfl, by rw [← htk]; exact List.take_prefix _ _⟩ ha1 ha2 ha3 hOO
      rw [← htk] at hyield
      simp only [encI] at hyield
      generalize xs[i] = x at *
      have y2 : ∀ (k : Array Value) (t : TypeId), k.size = 32 → canWrite (wr.alloc (.cells k t)) ⟨wr.heap.size, 0, none⟩ 0 32 = true := fun k t hk => canWrite_all (Blk.self_ rfl) 32 hk
      have y3 : ∀ (k : Array Value) (t : TypeId) (l : List Value), k.size = 32 → l.length = 32 → storeSeg (wr.alloc (.cells k t)) ⟨wr.heap.size, 0, none⟩ 0 l = (wr.alloc (.cells k t)).setRow wr.heap.size l.toArray := fun k t l hk hl => storeSeg_all (Blk.self_ rfl) l (by omega)
      have y4 : ∀ (k : Array Value) (t : TypeId) (l : List Value), l.length = 32 → readCells ((wr.alloc (.cells k t)).setRow wr.heap.size l.toArray) ⟨wr.heap.size, 0, none⟩ 0 32 = some l := fun k t l hl => readCells_all (Blk_setRow (Blk.self_ rfl)) 32 (by simpa using hl)
      simp [go_sem, IntWalk.iteOmega, IntWalk.toNatUp, e0, e5, e6, e7, hlt, hlt', ra, y2, y3, y4, hl32, bl_one]
      rw [← zeroI_lit]
      have kz : Below wr.heap.size wr ((wr.alloc (.cells zeroI.toArray 27)).setRow wr.heap.size (bl x).toArray) := below_setRow (ext_alloc wr _) (Nat.le_refl _) _
      generalize (wr.alloc (.cells zeroI.toArray 27)).setRow wr.heap.size (bl x).toArray = w2 at *
      have hj2 := hJ _ _ _ _ hj (Keeps.of_ext (O := fun j => O j ∨ j < W.heap.size) kz)
      have hs2 : wr.heap.size ≤ w2.heap.size := kz.size
      have hkp2 := hkp.trans (Keeps.of_ext kz)
      refine yieldE_of (hyield w2 hj2 (Nat.le_trans hsz hs2) (fun j h => Nat.lt_of_lt_of_le (hOs j h) hs2)) ?_
      rintro v b2 ⟨O', hm, (⟨rfl, hj3⟩ | ⟨rfl, hj3⟩)⟩
      · have hk3 : Keeps (fun j => j = g ∨ atB xs.length (some ⟨b, o, none⟩) j) w b2 := hkp2.trans (hm.2.2.mono fun j _ hj hOj => by
          have h1 := hN j hj
          exact h1.2 (hOO j (Nat.lt_of_lt_of_le h1.1 hkW.size) hOj))
        have hs3 := Nat.le_trans (Nat.le_trans hsz hs2) hm.2.2.size
        simp [go_sem, IntWalk.iteOmega, IntWalk.toNatUp, e0, e5, e6, e7]
        refine roundEnd.mk ⟨i + 1, O', by omega, by simp [go_sem, e0], by simp [go_sem, e5], by simp [go_sem, e6], by simp [go_sem], hj3, hs3, hm.2.1, fun j hj h => ?_, hk3⟩ ?_
        · rcases hm.1 j h with h | h
          · exact hOO j hj h
          · omega
        · simp [go_sem, intOf]; omega
      · simp [go_sem, IntWalk.iteOmega, IntWalk.toNatUp, e0, e5, e6, e7]
        exact ⟨O', xs.take (i + 1), List.take_prefix _ _, Nat.le_trans (Nat.le_trans hsz hs2) hm.2.2.size, .inr hj3⟩
    · obtain rfl : i = xs.length := by omega
      rw [List.take_of_length_le (Nat.le_refl _)] at hj
      have hlt' : ¬ (xs.length : Int) < xs.length := by omega
      simp [go_sem, IntWalk.iteOmega, IntWalk.toNatUp, e0, e5, e6, e7, hlt']
      exact ⟨O, xs, List.prefix_refl _, hsz, .inl ⟨rfl, hj⟩⟩
theorem run_equalIn_func {P : Program} (d : Nat) {t : TypeId} {D : TypeDesc} (ht : P.underlying t = some D) (hD : ∃ a b c, D = .func a b c) (f : Fn) (l m : Array Value) (w : World) :
    (Op.equalIn (d + 1) t (.func f l m) .nilFunc).run P w = .ok false w := by
  obtain ⟨a, b, c, rfl⟩ := hD
  simp only [Op.equalIn, Sem.run_bind, run_underlying ht, Result.andThen_ok, Sem.run_pure]
theorem run_eql_func {P : Program} {t : TypeId} {D : TypeDesc} (ht : P.underlying t = some D) (hD : ∃ a b c, D = .func a b c) (f : Fn) (l m : Array Value) (w : World) :
    (binOp .eql t (.func f l m) .nilFunc).run P w = .ok (.bool false) w := by
  have h : (Op.equal t (.func f l m) .nilFunc).run P w = .ok false w := run_equalIn_func 9999 ht hD f l m w
  simp only [binOp, Sem.run_bind, h, Result.andThen_ok, Sem.run_pure]
def tKeep (W0 : World) (mb lb : Nat) (most : Int) (xs : List (List UInt8)) (O : Nat → Prop) (a : World) : Prop :=
  ∃ v, O = (fun j => j = lb ∨ v.ownBlock = some j) ∧ Blk a lb 37 #[v] ∧ Blk a mb 3 #[.int .i64 most] ∧ a.ownsRow W0.heap.size 27 32 v xs.length (flatI xs) ∧ Below W0.heap.size W0 a
theorem tKeep_stab {W0 W2 a b : World} {mb lb : Nat} {most : Int} {xs : List (List UInt8)} {O : Nat → Prop} (h : tKeep W0 mb lb most xs O a) (hk : Keeps (fun j => O j ∨ j < W2.heap.size) a b) (hm : mb < W2.heap.size) (hw : W0.heap.size ≤ W2.heap.size) : tKeep W0 mb lb most xs O b := by
  obtain ⟨v, rfl, h1, h2, h3, h4⟩ := h
  exact ⟨v, rfl, hk.blk h1 (.inl (.inl rfl)), hk.blk h2 (.inr hm), row_keeps h3 hk fun j hj => .inl (.inr hj), h4.trans (hk.below h4.size fun k hk' => .inr (by omega))⟩
def toldJ (W0 : World) (most : Nat) (pre : List (List UInt8)) (O : Nat → Prop) (a : World) : Prop := pre.length ≤ most ∧ tKeep W0 W0.heap.size (W0.heap.size + 1) most pre O a
def toldX (W0 : World) (most : Nat) (e : Exit) (pre : List (List UInt8)) (O : Nat → Prop) (a : World) : Prop :=
  e = .exit 0 ∧ ∃ pre0 x, pre = pre0 ++ [x] ∧ pre0.length = most ∧ tKeep W0 W0.heap.size (W0.heap.size + 1) most pre0 O a
set_option maxHeartbeats 3200000 in
theorem told_any (xs : List (List UInt8)) (hok : ∀ x ∈ xs, x.length = 32) (A : Option Addr) (cap g : Nat) (w : World) (hlen : xs.length ≤ 1000) (hg : Blk w g 37 #[.slice A xs.length cap]) (hrd : Rd w 32 A xs.length (flatI xs)) (most : Nat) (hmost : most ≤ 9223372036854775807) (M : Int) (hM : M = most) :
    callE Tryz.prog 14 #[.func (.func 51) #[] #[.pointer (some ⟨g, 0, none⟩)], .int .i64 M] w fun v w' => w'.ownsRow w.heap.size 27 32 v (xs.take most).length (flatI (xs.take most)) ∧ Below w.heap.size w w' := by
  subst hM
  refine calls_M Tryz.func14 rfl rfl rfl (Nat.le_of_ble_eq_true rfl) ?_
  have hfun := fun lb w => run_eql_func (P := Tryz.prog) Tryz.underlying40 ⟨_, _, _, rfl⟩ (.func 51) #[] lb w
  simp [go_sem, IntWalk.iteOmega, IntWalk.toNatUp, hfun]
  have hmb : Blk ((w.alloc (.cells #[.int .i64 most] 3)).alloc (.cells #[.slice none 0 0] 37)) w.heap.size 3 #[.int .i64 most] := (Blk.self_ rfl).more _
  have hlb : Blk ((w.alloc (.cells #[.int .i64 most] 3)).alloc (.cells #[.slice none 0 0] 37)) (w.heap.size + 1) 37 #[.slice none 0 0] := Blk.self_ (by simp)
  have k2 : Below w.heap.size w ((w.alloc (.cells #[.int .i64 most] 3)).alloc (.cells #[.slice none 0 0] 37)) := ext_trans (ext_alloc _ _) (ext_alloc _ _)
  have hs2 : ((w.alloc (.cells #[.int .i64 most] 3)).alloc (.cells #[.slice none 0 0] 37)).heap.size = w.heap.size + 2 := by simp
  generalize (w.alloc (.cells #[.int .i64 most] 3)).alloc (.cells #[.slice none 0 0] 37) = W1 at *
  have hseq := wants_seq xs hok A cap g w (by omega) hg hrd
  have hNw : ∀ j, (j = g ∨ atB xs.length A j) → j < w.heap.size := by
    rintro j (rfl | h)
    · exact hg.lt
    · exact atB_lt hrd h
  refine WM_range (w0 := w) (enc := encI) (S := fun l => l = xs) (by simp [go_sem]) entersWants hseq (Keeps.of_ext k2) (fun _ => rfl) (fun j => j = w.heap.size + 1 ∨ (Value.slice none 0 0).ownBlock = some j) ?_ ?_
    (toldJ w most) (toldX w most) ?_ ?_ ?_ ?_ ?_ ?_
  · intro j hj
    have h1 := hNw j hj
    refine ⟨h1, ?_⟩
    rintro (h | h)
    · omega
    · simp [Value.ownBlock] at h
  · rintro j (h | h)
    · omega
    · simp [Value.ownBlock] at h
  · rintro pre O a b ⟨h1, h2⟩ hk
    exact ⟨h1, tKeep_stab h2 hk (by omega) (by omega)⟩
  · rintro e pre O a b ⟨h1, p0, x, h2, h3, h4⟩ hk
    exact ⟨h1, p0, x, h2, h3, tKeep_stab h4 hk (by omega) (by omega)⟩
  · exact ⟨by simp, _, rfl, hlb, hmb, World.ownsRow_nil _ _ _ _, k2⟩
  · rintro pre x O a b l1 o ⟨ys, hys, hpre⟩ hab hla hOl hsl ⟨r, hr⟩ hbs hsa hOa hOO _ ⟨hle, v, rfl, hlb, hmb, hown, hB⟩
    rw [hys] at hpre
    have hpl : pre.length + 1 ≤ xs.length := by have := hpre.length_le; simpa using this
    have hxm : x ∈ xs := hpre.subset (by simp)
    have hl32 : (bl x).length = 32 := by rw [bl_length]; exact hok x hxm
    obtain ⟨_, A', c', rfl⟩ := own_sl hown
    have y2 : ∀ (k : Array Value) (t : TypeId), k.size = 32 → canWrite (a.alloc (.cells k t)) ⟨a.heap.size, 0, none⟩ 0 32 = true := fun k t hk => canWrite_all (Blk.self_ rfl) 32 hk
    have y3 : ∀ (k : Array Value) (t : TypeId) (l : List Value), k.size = 32 → l.length = 32 → storeSeg (a.alloc (.cells k t)) ⟨a.heap.size, 0, none⟩ 0 l = (a.alloc (.cells k t)).setRow a.heap.size l.toArray := fun k t l hk hl => storeSeg_all (Blk.self_ rfl) l (by omega)
    have hhl : ∀ (k : Array Value) (t : TypeId) (cs : Array Value), ((a.alloc (.cells k t)).setRow a.heap.size cs).heap[l1]? = a.heap[l1]? := fun k t cs => by
      rw [setRow_other _ _ _ _ (by omega)]
      exact (ext_alloc a _).block l1 hla
    have hpo : ∀ (k : Array Value) (t : TypeId) (cs : Array Value), ((a.alloc (.cells k t)).setRow a.heap.size cs).putObj l1 (.loop o) = (b.alloc (.cells k t)).setRow b.heap.size cs := fun k t cs => by
      rw [putObj_setRow (by omega), putObj_alloc hla, hab, hbs]
    have kz : Below b.heap.size b ((b.alloc (.cells zeroI.toArray 27)).setRow b.heap.size (bl x).toArray) := below_setRow (ext_alloc b _) (Nat.le_refl _) _
    have hxb : Blk ((b.alloc (.cells zeroI.toArray 27)).setRow b.heap.size (bl x).toArray) b.heap.size 27 (bl x).toArray := Blk_setRow (Blk.self_ rfl)
    have hlc : ∀ i, ((b.alloc (.cells zeroI.toArray 27)).setRow b.heap.size (bl x).toArray).cell? ⟨w.heap.size + 1, i, none⟩ = #[Value.slice A' pre.length c'][i]? := (hlb.keep kz).cell
    have hmc : ∀ i, ((b.alloc (.cells zeroI.toArray 27)).setRow b.heap.size (bl x).toArray).cell? ⟨w.heap.size, i, none⟩ = #[Value.int .i64 (most : Int)][i]? := (hmb.keep kz).cell
    have x1 : readCells ((b.alloc (.cells zeroI.toArray 27)).setRow b.heap.size (bl x).toArray) ⟨a.heap.size, 0, none⟩ 0 32 = some (bl x) := by rw [← hbs]; exact readCells_all hxb 32 (by simpa using hl32)
    rw [zeroI_lit] at hlc hmc x1
    have hszb : b.heap.size < ((b.alloc (.cells zeroI.toArray 27)).setRow b.heap.size (bl x).toArray).heap.size := hxb.lt
    by_cases hq : most ≤ pre.length
    · have hq' : (most : Int) ≤ pre.length := by omega
      simp [go_sem, IntWalk.iteOmega, IntWalk.toNatUp, encI, y2, y3, hl32, bl_one, hhl, hpo, hlc, hmc, hq']
      rw [← zeroI_lit]
      refine ⟨_, ⟨fun j h => .inl h, fun j h => ?_, Keeps.of_ext kz⟩, rfl, pre, x, rfl, by omega, _, rfl, hlb.keep kz, hmb.keep kz, row_below hown kz, hB.trans (kz.mono hB.size)⟩
      have := hOa j h
      omega
    · have hq' : ¬ (most : Int) ≤ pre.length := by omega
      simp [go_sem, IntWalk.iteOmega, IntWalk.toNatUp, encI, y2, y3, hl32, bl_one, hhl, hpo, hlc, hmc, hq', x1]
      rw [fold_i (bl x) hl32, ← zeroI_lit]
      have hownZ := row_below hown kz
      have hlbZ := hlb.keep kz
      have hmbZ := hmb.keep kz
      have hBZ := hB.trans (kz.mono hB.size)
      have hszZ : ((b.alloc (.cells zeroI.toArray 27)).setRow b.heap.size (bl x).toArray).heap.size = b.heap.size + 1 := by simp [World.setRow]
      generalize (b.alloc (.cells zeroI.toArray 27)).setRow b.heap.size (bl x).toArray = c0 at *
      have kW := ext_alloc c0 (.cells (bl x).toArray 27)
      have hrdW : Rd (c0.alloc (.cells (bl x).toArray 27)) 32 (some ⟨b.heap.size + 1, 0, none⟩) 1 (bl x) := by rw [← hszZ]; exact rd_one (Blk.self_ rfl) hl32
      have hownW := row_below hownZ kW
      have hlbW := hlbZ.keep kW
      have hmbW := hmbZ.keep kW
      have hBW := hBZ.trans (kW.mono hBZ.size)
      have kbW : Below b.heap.size b (c0.alloc (.cells (bl x).toArray 27)) := kz.trans (kW.mono kz.size)
      generalize c0.alloc (.cells (bl x).toArray 27) = wA at *
      refine appendE w.heap.size 27 32 32 Tryz.underlying37 el27 hownW hrdW (bl_one x) (by unfold maxLen; omega) (by omega) hBW.size ?_
      intro v' w7 hr7 hg7 hbk7
      obtain ⟨-, A7, c7, hv7⟩ := own_sl hr7
      have hone : v'.oneCell' = true := by rw [hv7]; rfl
      have ne1 := row_ne hownW hlbW (by decide)
      have ne2 := row_ne hownW hmbW (by decide)
      have hlb7 : Blk w7 (w.heap.size + 1) 37 #[.slice A' pre.length c'] := (hg7.block _ hlbW.lt (fun e => ne1 e.symm)).trans hlbW
      have hmb7 : Blk w7 w.heap.size 3 #[.int .i64 most] := (hg7.block _ hmbW.lt (fun e => ne2 e.symm)).trans hmbW
      have hlc7 := hlb7.cell
      have hlf7 := hlb7.frozen
      have hB7 : Below w.heap.size w w7 := hBW.grown hg7 hBW.size (fun k hk => (hownW.lt k hk).1)
      simp [go_sem, IntWalk.iteOmega, IntWalk.toNatUp, hlc7, hlf7, hone]
      have hfl : flatI pre ++ bl x = flatI (pre ++ [x]) := by simp [flatI]
      rw [hfl] at hr7
      refine ⟨fun j => j = w.heap.size + 1 ∨ v'.ownBlock = some j, ⟨?_, ?_, ?_⟩, ?_, v', rfl, Blk_set hlb7, ?_, ?_, ?_⟩
      · rintro j (h | h)
        · exact .inl (.inl h)
        · rcases hbk7 with e | e
          · exact .inl (.inr (e ▸ h))
          · rw [e] at h; injection h with h; exact .inr (h ▸ kbW.size)
      · rintro j (h | h)
        · rw [sz_set, h]; exact hlb7.lt
        · rw [sz_set]; exact (hr7.lt j h).2
      · exact ((Keeps.of_ext (O := fun j => ¬ (j = w.heap.size + 1 ∨ (Value.slice A' pre.length c').ownBlock = some j)) kbW).trans (Keeps.grown hg7 fun k hk h => h (.inr hk))).trans (Keeps.setCell _ _ _ fun h => h (.inl rfl))
      · rw [List.length_append]; simp; omega
      · exact hmb7.farCell (by omega) _
      · have hne7 := row_ne hr7 hlb7 (by decide)
        rw [List.length_append]
        exact row_keeps hr7 (Keeps.setCell (O := fun j => j ≠ w.heap.size + 1) _ _ _ (fun h => h rfl)) (fun j hj e => hne7 (e ▸ hj))
      · exact hB7.setCell (by simp) _
  · rintro xs0 O b D rfl ⟨hle, v, rfl, hlb, hmb, hown, hB⟩ hOD hD hDb hsb
    have hlc := hlb.cell
    obtain ⟨hsl, A', c', rfl⟩ := own_sl hown
    have htk : xs0.take most = xs0 := List.take_of_length_le hle
    rw [htk]
    simp [go_sem, IntWalk.iteOmega, IntWalk.toNatUp, hlc, hDb]
    refine ⟨row_keeps hown (Keeps.putObj (O := fun j => j ≠ D) _ _ _ (fun h => h rfl)) (fun j hj e => hOD (.inr (e ▸ hj))), hB.trans ((Keeps.putObj (O := fun j => j < w.heap.size) _ _ _ (by omega)).below hB.size fun k hk => hk)⟩
  · rintro e pre xs0 O b D rfl hpre ⟨rfl, p0, x, rfl, hp0, v, rfl, hlb, hmb, hown, hB⟩ hOD hD hDb hsb
    have hlc := hlb.cell
    obtain ⟨hsl, A', c', rfl⟩ := own_sl hown
    have htk : xs0.take most = p0 := by
      obtain ⟨r, hr⟩ := hpre
      rw [← hr, ← hp0]
      simp
    rw [htk]
    simp [go_sem, IntWalk.iteOmega, IntWalk.toNatUp, hlc, hDb]
    refine ⟨row_keeps hown (Keeps.putObj (O := fun j => j ≠ D) _ _ _ (fun h => h rfl)) (fun j hj e => hOD (.inr (e ▸ hj))), hB.trans ((Keeps.putObj (O := fun j => j < w.heap.size) _ _ _ (by omega)).below hB.size fun k hk => hk)⟩
end Go.Proofs.YtdjcjjodbniebaaGreatDoor
