/-
  Texts joined: FConts, Stru, FOps.
-/
import Derived.Test.YtdjcjjodbniebaaGreatDoorJoin32
import Derived.ChangeArms
namespace Go.Proofs.YtdjcjjodbniebaaGreatDoor
open Go.RowKit
set_option linter.unusedVariables false
set_option linter.unusedSimpArgs false
set_option maxRecDepth 10000
/-- an act's cells -/
def opV (d a b : Int) (want : Bool) (fv : Value) (many bad : UInt8) (rv : Value) : Array Value := #[.int .i64 d, .int .u8 a, .int .u8 b, .bool want, fv, .int .u8 many.toNat, .int .u8 bad.toNat, rv]
def contX (bs : List Bk) (k : Nat) (bad : UInt8) (raw : List UInt8) (i : Nat) : List UInt8 := if bad.toNat = i then raw else bytesB (if i ≤ k then bs.getD (k - i) firstB else firstB)
def contN (k : Nat) (many : UInt8) : Nat := min (many.toNat % 20) (k + 2)
def contL (bs : List Bk) (k : Nat) (many bad : UInt8) (raw : List UInt8) : List (List UInt8) := (List.range (contN k many)).map (contX bs k bad raw)
/-- what containers hands back -/
def ContPost (base : Nat) (bs : List Bk) (k : Nat) (many bad : UInt8) (raw : List UInt8) (rv : Value) (r : Value) (w' : World) : Prop :=
  ∃ vals, w'.ownsRow base 22 1 r (contN k many) vals ∧ (∀ (i : Nat) (u : Value) (l : List UInt8), vals[i]? = some u → (contL bs k many bad raw)[i]? = some l → RdB w' u l) ∧ ∀ u ∈ vals, u = rv ∨ ∀ A n c, u = .slice A n c → ∀ j, atB n A j → base ≤ j
theorem RdB.of_own {w : World} {base e : Nat} {v : Value} {l : List UInt8} (h : w.ownsRow base e 1 v l.length (bl l)) : RdB w v l := by
  obtain ⟨-, A, c, rfl⟩ := own_sl h
  refine ⟨A, c, rfl, Rd.of_own h, fun hA => ?_, ?_, ?_⟩
  · rcases h.2 with ⟨e, h0⟩ | ⟨g, cap, cur, e, _, _, hn, hm, _⟩
    · exact h0
    · injection e with e1 e2 e3
      rw [hA] at e1; cases e1
  · rcases h.2 with ⟨e, h0⟩ | ⟨g, cap, cur, e, _, _, hn, hm, _⟩
    · omega
    · injection e with e1 e2 e3
      omega
  · rcases h.2 with ⟨e, h0⟩ | ⟨g, cap, cur, e, _, _, hn, hm, _⟩
    · injection e with e1 e2 e3
      omega
    · injection e with e1 e2 e3
      unfold maxLen at hm
      omega
set_option maxHeartbeats 6400000 in
theorem conts_any {w : World} {lv : Value} {bs : List Bk} (hl : BksR w lv bs) (hck : ∀ b ∈ bs, checkB b = 0) {k : Nat} (hk : k < bs.length) (hlen : bs.length ≤ 100000) {d a b : Int} {want : Bool} {fv rv : Value} {many bad : UInt8} {raw : List UInt8} (hraw : RdB w rv raw) :
    callE Tryz.prog 22 #[lv, .int .i64 k, .agg (opV d a b want fv many bad rv)] w fun r w' => ContPost w.heap.size bs k many bad raw rv r w' ∧ Below w.heap.size w w' := by
  obtain ⟨rA, rc, rfl, -⟩ := id hraw
  obtain ⟨lA, lc, -, rfl, -⟩ := id hl
  obtain ⟨lb, lo, rfl, -, hlb, hla⟩ := hl.at2 (by omega)
  have kA := ext_alloc w (.cells (opV d a b want fv many bad (.slice rA raw.length rc)) 52)
  have hO : Blk (w.alloc (.cells (opV d a b want fv many bad (.slice rA raw.length rc)) 52)) w.heap.size 52 (opV d a b want fv many bad (.slice rA raw.length rc)) := Blk.self_ rfl
  obtain ⟨n, hn⟩ : ∃ n, n = many.toNat % 20 := ⟨_, rfl⟩
  have hn20 : n < 20 := by omega
  have hm1 : (many.toNat : Int).tmod 20 = (n : Int) := by
    rw [Int.tmod_eq_emod_of_nonneg (by omega)]
    omega
  have hm2 : IntKind.i64.wrap (n : Int) = n := by rw [wrap_i64_if, if_pos (by omega)]
  have hm3 : IntKind.i64.wrap (bad.toNat : Int) = (bad.toNat : Int) := by rw [wrap_i64_if, if_pos (by have := bad.toNat_lt; omega)]
  have hcn : contN k many = min n (k + 2) := by unfold contN; rw [hn]
  have hcx : ∀ i, i < contN k many → (contL bs k many bad raw)[i]? = some (contX bs k bad raw i) := fun i hi => by
    unfold contL
    rw [List.getElem?_map, List.getElem?_range hi]
    rfl
  refine calls_E Tryz.func22 rfl rfl rfl (Nat.le_of_ble_eq_true rfl) ?_
  simp [go_sem, IntWalk.iteOmega, IntWalk.toNatUp, opV, hm1, hm2]
  change W _ _ _ _ (w.alloc (.cells (opV d a b want fv many bad (.slice rA raw.length rc)) 52)) _
  generalize w.alloc (.cells (opV d a b want fv many bad (.slice rA raw.length rc)) 52) = w2 at *
  refine W_loop (fun st wr => ∃ i ov vals, i ≤ n ∧ i ≤ k + 1 ∧ st 0 = .slice (some ⟨lb, lo, none⟩) bs.length lc ∧ st 1 = .int .i64 k ∧ st 5 = .pointer (some ⟨w.heap.size, 0, none⟩) ∧ st 7 = ov ∧ st 14 = .int .i64 n ∧ st 15 = .int .i64 i ∧ wr.ownsRow w2.heap.size 22 1 ov i vals ∧ (∀ (j : Nat) (u : Value), vals[j]? = some u → (u = .slice rA raw.length rc ∧ contX bs k bad raw j = raw) ∨ wr.ownsRow w.heap.size 5 1 u (contX bs k bad raw j).length (bl (contX bs k bad raw j))) ∧ Below w2.heap.size w2 wr) (fun st _ => n - (intOf (st 15)).toNat) ?_ ?_
  · exact ⟨0, .slice none 0 0, [], by omega, by omega, by simp [go_sem], by simp [go_sem], by simp [go_sem], by simp [go_sem], by simp [go_sem], by simp [go_sem], World.ownsRow_nil _ _ _ _, by simp, Below.refl _ _⟩
  · rintro st wr ⟨i, ov, vals, hi, hik, e0, e1, e5, e7, e14, e15, hov, hvals, hB⟩
    have kB : Below w.heap.size w wr := kA.trans (hB.mono kA.size)
    have fin : ∀ (W : World) (u : Value) (vs : List Value) (m : Nat), m = contN k many → W.ownsRow w2.heap.size 22 1 u m vs → Below w.heap.size w W → (∀ (j : Nat) (u : Value), vs[j]? = some u → (u = .slice rA raw.length rc ∧ contX bs k bad raw j = raw) ∨ W.ownsRow w.heap.size 5 1 u (contX bs k bad raw j).length (bl (contX bs k bad raw j))) → ContPost w.heap.size bs k many bad raw (.slice rA raw.length rc) u W := fun W u vs m hm ho hw hv => by
      subst hm
      refine ⟨vs, own_mono (base' := w.heap.size) ho kA.size, fun j u l hu hl => ?_, fun u hu => ?_⟩
      · have hj := (List.getElem?_eq_some_iff.1 hu).1
        rw [ho.1, Nat.mul_one] at hj
        rw [hcx j hj] at hl
        injection hl with hl
        rw [← hl]
        rcases hv j u hu with ⟨rfl, h2⟩ | h2
        · rw [h2]; exact hraw.keep hw
        · exact RdB.of_own h2
      · obtain ⟨j, hj, rfl⟩ := List.getElem_of_mem hu
        rcases hv j _ (List.getElem?_eq_getElem hj) with ⟨h1, _⟩ | h2
        · exact .inl h1
        · refine .inr fun A n c e j' hj' => ?_
          rw [e] at h2
          obtain ⟨e2, _⟩ := own_sl h2
          exact (h2.lt j' (by obtain ⟨_, b, o, rfl, rfl⟩ := hj'; rfl)).1
    by_cases hlt : i < n
    · have hlt' : (i : Int) < n := by omega
      simp [go_sem, IntWalk.iteOmega, IntWalk.toNatUp, e0, e1, e5, e7, e14, e15, hlt, hlt']
      refine callE_of (lfirst_any wr) ?_
      rintro _ w3 ⟨rfl, hd3, k3⟩
      have l34 : (bkv firstB (.slice (some ⟨wr.heap.size + 1, 0, none⟩) 1 1)).length = 34 := bkv_len firstB_ok.len
      have hb1 := bkv_one firstB (some ⟨wr.heap.size + 1, 0, none⟩) 1 1
      have y2 : ∀ (k : Array Value) (t : TypeId), k.size = 34 → canWrite (w3.alloc (.cells k t)) ⟨w3.heap.size, 0, none⟩ 0 34 = true := fun k t hk => canWrite_all (Blk.self_ rfl) 34 hk
      have y3 : ∀ (k : Array Value) (t : TypeId) (l : List Value), k.size = 34 → l.length = 34 → storeSeg (w3.alloc (.cells k t)) ⟨w3.heap.size, 0, none⟩ 0 l = (w3.alloc (.cells k t)).setRow w3.heap.size l.toArray := fun k t l hk hl => storeSeg_all (Blk.self_ rfl) l (by omega)
      have hov3 := row_below hov k3
      have hB3 := hB.trans (k3.mono hB.size)
      obtain ⟨Z, hZ⟩ : ∃ Z, Z = bytesB (if i ≤ k then bs.getD (k - i) firstB else firstB) := ⟨_, rfl⟩
      by_cases hki : i ≤ k
      case' pos =>
        have hkE : IntKind.i64.wrap ((k : Int) - i) = ((k - i : Nat) : Int) := by rw [wrap_i64_if, if_pos (by omega)]; omega
        have hkl : k - i < bs.length := by omega
        simp [go_sem, IntWalk.iteOmega, IntWalk.toNatUp, e0, e1, e5, e7, e14, e15, y2, y3, l34, hb1, hkE, hkl]
        rw [← zeroB_lit]
        have kz : Below w3.heap.size w3 ((w3.alloc (.cells zeroB.toArray 29)).setRow w3.heap.size (bkv firstB (.slice (some ⟨wr.heap.size + 1, 0, none⟩) 1 1)).toArray) := below_setRow (ext_alloc w3 _) (Nat.le_refl _) _
        have hxb : Blk ((w3.alloc (.cells zeroB.toArray 29)).setRow w3.heap.size (bkv firstB (.slice (some ⟨wr.heap.size + 1, 0, none⟩) 1 1)).toArray) w3.heap.size 29 (bkv firstB (.slice (some ⟨wr.heap.size + 1, 0, none⟩) 1 1)).toArray := Blk_setRow (Blk.self_ rfl)
        generalize (w3.alloc (.cells zeroB.toArray 29)).setRow w3.heap.size (bkv firstB (.slice (some ⟨wr.heap.size + 1, 0, none⟩) 1 1)).toArray = w5 at *
        obtain ⟨dv, hcb, hbd, hrd⟩ := hla (k - i) hkl
        have hcc := hck _ (List.getElem_mem hkl)
        have hxe : bytesB bs[k - i] = Z := by rw [hZ, if_pos hki, List.getD_eq_getElem?_getD, List.getElem?_eq_getElem hkl]; rfl
        have kB5 : Below w.heap.size w w5 := (kB.trans (k3.mono kB.size)).trans (kz.mono (by have := kB.size; have := k3.size; omega))
        have hr5 := hrd w5 kB5
        have hcd5 := hbd.keep kB5
        have hlt5 := hxb.lt
        generalize bs[k - i] = cb at *
        have l34c : (bkv cb dv).length = 34 := bkv_len hcb.len
        obtain ⟨dA, dc, rfl, -⟩ := id hbd
        have hb1c := bkv_one cb dA cb.data.length dc
        have v2 := canWrite_all hxb 34 (by rw [List.size_toArray, l34])
        have v3 := storeSeg_all hxb (bkv cb (.slice dA cb.data.length dc)) (by rw [List.size_toArray, l34, l34c])
        have v4 := readCells_all (Blk_setRow hxb (cs' := (bkv cb (.slice dA cb.data.length dc)).toArray)) 34 (by simpa using l34c)
        simp [go_sem, IntWalk.iteOmega, IntWalk.toNatUp, e0, e1, e5, e7, e14, e15, hr5, v2, v3, v4, l34c, hb1c]
        have k36 : Below w3.heap.size w3 (w5.setRow w3.heap.size (bkv cb (.slice dA cb.data.length dc)).toArray) := below_setRow kz (Nat.le_refl _) _
        have hcd : RdB (w5.setRow w3.heap.size (bkv cb (.slice dA cb.data.length dc)).toArray) (.slice dA cb.data.length dc) cb.data := (hbd.keep kB).keep ((k3.trans (k36.mono k3.size)))
        have hszc : w3.heap.size < (w5.setRow w3.heap.size (bkv cb (.slice dA cb.data.length dc)).toArray).heap.size := by simpa [World.setRow] using hlt5
        generalize w5.setRow w3.heap.size (bkv cb (.slice dA cb.data.length dc)).toArray = w6 at *
        generalize (Value.slice dA cb.data.length dc) = dv6 at *
      case' neg =>
        have hkE : IntKind.i64.wrap ((k : Int) - i) = -1 := by rw [wrap_i64_if, if_pos (by omega)]; omega
        have hik1 : i = k + 1 := by omega
        simp [go_sem, IntWalk.iteOmega, IntWalk.toNatUp, e0, e1, e5, e7, e14, e15, y2, y3, l34, hb1, hkE]
        rw [← zeroB_lit]
        have k36 : Below w3.heap.size w3 ((w3.alloc (.cells zeroB.toArray 29)).setRow w3.heap.size (bkv firstB (.slice (some ⟨wr.heap.size + 1, 0, none⟩) 1 1)).toArray) := below_setRow (ext_alloc w3 _) (Nat.le_refl _) _
        have hxb : Blk ((w3.alloc (.cells zeroB.toArray 29)).setRow w3.heap.size (bkv firstB (.slice (some ⟨wr.heap.size + 1, 0, none⟩) 1 1)).toArray) w3.heap.size 29 (bkv firstB (.slice (some ⟨wr.heap.size + 1, 0, none⟩) 1 1)).toArray := Blk_setRow (Blk.self_ rfl)
        have hcd := hd3.keep k36
        have hcb := firstB_ok
        have hcc := firstB_check
        have hxe : bytesB firstB = Z := by rw [hZ, if_neg hki]
        have v4 := readCells_all hxb 34 (by simpa using l34)
        simp [go_sem, IntWalk.iteOmega, IntWalk.toNatUp, e0, e1, e5, e7, e14, e15, v4]
        generalize (w3.alloc (.cells zeroB.toArray 29)).setRow w3.heap.size (bkv firstB (.slice (some ⟨wr.heap.size + 1, 0, none⟩) 1 1)).toArray = w6 at *
        generalize (Value.slice (some ⟨wr.heap.size + 1, 0, none⟩) 1 1) = dv6 at *
        generalize firstB = cb at hcb hcc hcd hxe ⊢
      all_goals
        refine callE_of (wrote_any hcb hcc hcd) ?_
        rintro xv w7 ⟨hxo, k7⟩
        obtain ⟨-, xA, xc, rfl⟩ := own_sl hxo
        have k37 := k36.trans (k7.mono k36.size)
        have kB7 : Below wr.heap.size wr w7 := k3.trans (k37.mono k3.size)
        have kw7 := kB.trans (kB7.mono kB.size)
        have hO7 := (hO.keep hB).keep kB7
        have hoc := hO7.cell
        have hov7 := row_below hov3 k37
        have hxo7 := own_mono (base' := w.heap.size) hxo (by have := kB.size; have := k3.size; have := k36.size; omega)
        have hi1 : IntKind.i64.wrap ((i : Int) + 1) = (i : Int) + 1 := by rw [wrap_i64_if, if_pos (by omega)]
        by_cases hbi : bad.toNat = i
        case' pos =>
          have hbi' : ((bad.toNat : Int) == (i : Int)) = true := by rw [hbi]; simp
          simp [go_sem, IntWalk.iteOmega, IntWalk.toNatUp, e0, e1, e5, e7, e14, e15, hoc, opV, hm3, hbi']
          obtain ⟨X, hX⟩ : ∃ X, Value.slice rA raw.length rc = X := ⟨_, rfl⟩
          have hX1 : allOne [X] = true := by rw [← hX]; rfl
          have hXv : (X = .slice rA raw.length rc ∧ contX bs k bad raw i = raw) ∨ w7.ownsRow w.heap.size 5 1 X (contX bs k bad raw i).length (bl (contX bs k bad raw i)) := .inl ⟨hX.symm, by unfold contX; rw [if_pos hbi]⟩
          rw [hX]
        case' neg =>
          have hbi' : ((bad.toNat : Int) == (i : Int)) = false := by rw [beq_eq_false_iff_ne]; omega
          simp [go_sem, IntWalk.iteOmega, IntWalk.toNatUp, e0, e1, e5, e7, e14, e15, hoc, opV, hm3, hbi']
          have hcxe : contX bs k bad raw i = bytesB cb := by unfold contX; rw [if_neg hbi, hxe, hZ]
          obtain ⟨X, hX⟩ : ∃ X, Value.slice xA (bytesB cb).length xc = X := ⟨_, rfl⟩
          have hX1 : allOne [X] = true := by rw [← hX]; rfl
          have hXv : (X = .slice rA raw.length rc ∧ contX bs k bad raw i = raw) ∨ w7.ownsRow w.heap.size 5 1 X (contX bs k bad raw i).length (bl (contX bs k bad raw i)) := .inr (by rw [hcxe, ← hX]; exact hxo7)
          rw [hX]
        all_goals
          have kW := ext_alloc w7 (.cells #[X] 22)
          have hrdX : Rd (w7.alloc (.cells #[X] 22)) 1 (some ⟨w7.heap.size, 0, none⟩) 1 [X] := rd_one (Blk.self_ rfl) rfl
          have hovW := row_below hov7 kW
          have kwW := kw7.trans (kW.mono kw7.size)
          have kBW := kB7.trans (kW.mono kB7.size)
          have hBW := hB.trans (kBW.mono hB.size)
          have hsW : w2.heap.size ≤ (w7.alloc (.cells #[X] 22)).heap.size := hBW.size
          generalize w7.alloc (.cells #[X] 22) = wA at *
          refine appendE w2.heap.size 22 1 24 Tryz.underlying48 el22 hovW hrdX hX1 (by unfold maxLen; omega) (by omega) hsW ?_
          intro v' w9 hr9 hg9 hbk9
          have kB9 := hBW.grown hg9 hsW (fun k hk => (hovW.lt k hk).1)
          have kw9 := kA.trans (kB9.mono kA.size)
          have hlen9 : vals.length = i := by have := hov.1; omega
          have hv9 : ∀ (j : Nat) (u : Value), (vals ++ [X])[j]? = some u → (u = .slice rA raw.length rc ∧ contX bs k bad raw j = raw) ∨ w9.ownsRow w.heap.size 5 1 u (contX bs k bad raw j).length (bl (contX bs k bad raw j)) := fun j u hu => by
            have far : ∀ {a : World} {v : Value} {l : List UInt8}, a = wA → a.ownsRow w.heap.size 5 1 v l.length (bl l) → w9.ownsRow w.heap.size 5 1 v l.length (bl l) := fun {a v l} ha ho => by
              subst ha
              exact row_keeps (O := fun j => ov.ownBlock ≠ some j) ho (Keeps.grown hg9 fun k hk h => h hk) (fun j hj e => rows_ne hovW ho (by decide) j e hj)
            by_cases hj : j < i
            · rw [List.getElem?_append_left (by omega)] at hu
              exact (hvals j u hu).imp id fun h => far rfl (row_below h kBW)
            · rw [List.getElem?_append_right (by omega)] at hu
              have hj0 : j - vals.length = 0 := by have := (List.getElem?_eq_some_iff.1 hu).1; simp at this; omega
              obtain rfl : j = i := by omega
              rw [hj0] at hu
              injection hu with hu
              subst hu
              exact hXv.imp id fun h => far rfl (row_below h kW)
          simp [go_sem, IntWalk.iteOmega, IntWalk.toNatUp, e0, e1, e5, e7, e14, e15, hkE, hi1]
          subst hX
          first
          | exact ⟨fin _ _ _ _ (by rw [hcn]; omega) hr9 kw9 hv9, kw9⟩
          | (refine roundEnd.mk ⟨i + 1, v', vals ++ [_], by omega, by omega, by simp [go_sem, e0], by simp [go_sem, e1], by simp [go_sem, e5], by simp [go_sem], by simp [go_sem, e14], by simp [go_sem], hr9, hv9, kB9⟩ ?_
             simp [go_sem, intOf, e15]
             omega)
    · obtain rfl : i = n := by omega
      have hlt' : ¬ (i : Int) < i := by omega
      simp [go_sem, IntWalk.iteOmega, IntWalk.toNatUp, e0, e1, e5, e7, e14, e15, hlt']
      exact ⟨fin _ _ _ _ (by rw [hcn]; omega) hov kB hvals, kB⟩
end Go.Proofs.YtdjcjjodbniebaaGreatDoor
namespace Go.Proofs.YtdjcjjodbniebaaGreatDoor
open Go.RowKit Go.ChangeShapes Go.WideShapes
set_option linter.unusedVariables false
section
variable {H : Type} {enc : TypeId × Value → H} {P : Program} {t : TypeId} {fs : Array Field}
def intField (P : Program) (f : Field) : Bool := P.cellsOf f.type == 1 && (match P.underlying f.type with | some (.int _) => true | _ => false)
theorem intField_of {f : Field} (h : intField P f = true) : P.cellsOf f.type = 1 ∧ ∃ k, P.underlying f.type = some (.int k) := by
  unfold intField at h
  simp only [Bool.and_eq_true, beq_iff_eq] at h
  refine ⟨h.1, ?_⟩
  have h2 := h.2
  split at h2
  · rename_i k e; exact ⟨k, e⟩
  · cases h2
theorem mapM_fields {W : World} {base : Nat} {sp : Nat → Bool} {held : Bool} {m : Nat} {cs : List Value} : ∀ (L : List Field) (ys : List (DataW H × List MemPlace)), (∀ f ∈ L, intField P f = true) →
    L.mapM (fun f => DataW.trod enc P W base sp held m f.type ((cs.drop f.offset).take (P.cellsOf f.type))) = some ys →
    ∀ f ∈ L, ∃ k a, P.underlying f.type = some (.int k) ∧ cs[f.offset]? = some (.int k a) ∧ (Lit.int k a).wf = true
  | [], ys, _, h => fun f hf => by cases hf
  | f :: L, ys, hall, h => by
    rw [List.mapM_cons] at h
    simp only [bind, Option.bind_eq_some_iff, pure, Option.some.injEq] at h
    obtain ⟨y, hy, ys', hys, rfl⟩ := h
    have ih := mapM_fields L ys' (fun g hg => hall g (List.mem_cons_of_mem _ hg)) hys
    obtain ⟨h1, k, hk⟩ := intField_of (hall f (List.mem_cons_self ..))
    rw [h1] at hy
    obtain ⟨a, ea, rfl, wa⟩ := DataW.trod_int hk hy
    intro g hg
    rcases List.mem_cons.1 hg with rfl | hg
    · refine ⟨k, a, hk, ?_, wa⟩
      have := congrArg (·[0]?) ea
      simpa [List.getElem?_take, List.getElem?_drop] using this
    · exact ih g hg
theorem open_struct (ht : P.underlying t = some (.struct fs)) (hall : fs.toList.all (intField P) = true) {W : World} {base b0 : Nat} {r : Reach} {sp : Nat → Bool} {held : Bool} {v : Value} {d : DataW H} {ps : List MemPlace}
    (hval : Value.okWide P W r b0 t v) (hd : DataW.Trod enc P W base sp held t v d ps) :
    ∃ cs : Array Value, v = .agg cs ∧ cs.size = P.cellsOf t ∧ ∀ f ∈ fs.toList, ∃ k a, P.underlying f.type = some (.int k) ∧ cs[f.offset]? = some (.int k a) ∧ (Lit.int k a).wf = true := by
  obtain ⟨cs, rfl, hcs⟩ := okWide_struct ht hval
  refine ⟨cs, rfl, hcs, ?_⟩
  obtain ⟨fuel, hf⟩ := hd
  cases fuel with
  | zero => simp [DataW.trod] at hf
  | succ m =>
    unfold DataW.trod at hf
    simp only [ht, Value.cells] at hf
    split at hf
    · simp only [Option.map_eq_some_iff] at hf
      obtain ⟨ys, hy, e1⟩ := hf
      intro f hfm
      obtain ⟨k, a, h1, h2, h3⟩ := mapM_fields _ _ (fun f hf => List.all_eq_true.1 hall f hf) hy f hfm
      exact ⟨k, a, h1, by simpa using h2, h3⟩
    · cases hf
def structOf (P : Program) (t : TypeId) : Option (List (Nat × Option TypeDesc × Nat)) :=
  match P.underlying t with
  | some (.struct fs) => some (fs.toList.map fun f => (f.offset, P.underlying f.type, P.cellsOf f.type))
  | _ => none
def intAt (x : Nat × Option TypeDesc × Nat) : Bool := x.2.2 == 1 && (match x.2.1 with | some (.int _) => true | _ => false)
theorem open_structL {L : List (Nat × Option TypeDesc × Nat)} (hL : structOf P t = some L) (hall : L.all intAt = true) {W : World} {base b0 : Nat} {r : Reach} {sp : Nat → Bool} {held : Bool} {v : Value} {d : DataW H} {ps : List MemPlace}
    (hval : Value.okWide P W r b0 t v) (hd : DataW.Trod enc P W base sp held t v d ps) :
    ∃ cs : Array Value, v = .agg cs ∧ cs.size = P.cellsOf t ∧ ∀ (o : Nat) (k : IntKind), (o, some (TypeDesc.int k), 1) ∈ L → ∃ a, cs[o]? = some (.int k a) ∧ (Lit.int k a).wf = true := by
  unfold structOf at hL
  split at hL
  · rename_i fs ht
    injection hL with hL
    subst hL
    have hall' : fs.toList.all (intField P) = true := by
      rw [List.all_eq_true] at hall ⊢
      intro f hf
      exact hall _ (List.mem_map.2 ⟨f, hf, rfl⟩)
    obtain ⟨cs, hv, hc, hcs⟩ := open_struct ht hall' hval hd
    refine ⟨cs, hv, hc, fun o k hm => ?_⟩
    obtain ⟨f, hf, e⟩ := List.mem_map.1 hm
    simp only [Prod.mk.injEq] at e
    obtain ⟨e1, e2, _⟩ := e
    obtain ⟨k', a, h1, h2, h3⟩ := hcs f hf
    rw [h1] at e2
    injection e2 with e2
    injection e2 with e2
    subst e1; subst e2
    exact ⟨a, h2, h3⟩
  · cases hL
/-- The same, of cells that read as such a struct. -/
theorem trod_structL {L : List (Nat × Option TypeDesc × Nat)} (hL : structOf P t = some L) (hall : L.all intAt = true) {W : World} {base fuel : Nat} {sp : Nat → Bool} {held : Bool} {cs : List Value} {y : DataW H × List MemPlace}
    (hf : DataW.trod enc P W base sp held fuel t cs = some y) : cs.length = P.cellsOf t ∧ ∀ (o : Nat) (k : IntKind), (o, some (TypeDesc.int k), 1) ∈ L → ∃ a, cs[o]? = some (.int k a) ∧ (Lit.int k a).wf = true := by
  unfold structOf at hL
  split at hL
  · rename_i fs ht
    injection hL with hL
    subst hL
    have hall' : fs.toList.all (intField P) = true := by
      rw [List.all_eq_true] at hall ⊢
      intro f hf
      exact hall _ (List.mem_map.2 ⟨f, hf, rfl⟩)
    cases fuel with
    | zero => simp [DataW.trod] at hf
    | succ m =>
      unfold DataW.trod at hf
      simp only [ht] at hf
      split at hf
      · rename_i hlen
        simp only [Option.map_eq_some_iff] at hf
        obtain ⟨ys, hy, e1⟩ := hf
        refine ⟨hlen, fun o k hm => ?_⟩
        obtain ⟨f, hfm, e⟩ := List.mem_map.1 hm
        simp only [Prod.mk.injEq] at e
        obtain ⟨e1, e2, _⟩ := e
        obtain ⟨k', a, h1, h2, h3⟩ := mapM_fields _ _ (fun f hf => List.all_eq_true.1 hall' f hf) hy f hfm
        rw [h1] at e2
        injection e2 with e2
        injection e2 with e2
        subst e1; subst e2
        exact ⟨a, h2, h3⟩
      · cases hf
  · cases hL
/-! Structs of ints, strings and bools. -/
def leafOf (d : TypeDesc) (v : Value) : Prop := match d with
  | .int k => ∃ a, v = .int k a ∧ (Lit.int k a).wf = true
  | .string => ∃ s : ByteArray, v = .string s ∧ s.size ≤ maxLen
  | .bool => ∃ b, v = .bool b
  | _ => True
def isLeaf (x : Nat × Option TypeDesc × Nat) : Bool := x.2.2 == 1 && (match x.2.1 with | some (.int _) | some .string | some .bool => true | _ => false)
theorem trod_leaf {t : TypeId} {d : TypeDesc} {W : World} {base fuel : Nat} {sp : Nat → Bool} {held : Bool} {cs : List Value} {y : DataW H × List MemPlace} (ht : P.underlying t = some d) (hl : isLeaf (0, some d, 1) = true)
    (hf : DataW.trod enc P W base sp held fuel t cs = some y) : ∃ v, cs = [v] ∧ leafOf d v := by
  cases d <;> simp [isLeaf] at hl
  case int k => obtain ⟨a, e, _, wa⟩ := DataW.trod_int ht hf; exact ⟨_, e, a, rfl, wa⟩
  case string => obtain ⟨s, e, _, ws⟩ := DataW.trod_string ht hf; exact ⟨_, e, s, rfl, ws⟩
  case bool => obtain ⟨b, e, _⟩ := DataW.trod_bool ht hf; exact ⟨_, e, b, rfl⟩
theorem mapM_leafs {W : World} {base : Nat} {sp : Nat → Bool} {held : Bool} {m : Nat} {cs : List Value} : ∀ (L : List Field) (ys : List (DataW H × List MemPlace)), (∀ f ∈ L, isLeaf (f.offset, P.underlying f.type, P.cellsOf f.type) = true) →
    L.mapM (fun f => DataW.trod enc P W base sp held m f.type ((cs.drop f.offset).take (P.cellsOf f.type))) = some ys →
    ∀ f ∈ L, ∃ d v, P.underlying f.type = some d ∧ cs[f.offset]? = some v ∧ leafOf d v
  | [], ys, _, h => fun f hf => by cases hf
  | f :: L, ys, hall, h => by
    rw [List.mapM_cons] at h
    simp only [bind, Option.bind_eq_some_iff, pure, Option.some.injEq] at h
    obtain ⟨y, hy, ys', hys, rfl⟩ := h
    have ih := mapM_leafs L ys' (fun g hg => hall g (List.mem_cons_of_mem _ hg)) hys
    have h0 := hall f (List.mem_cons_self ..)
    have h1 : P.cellsOf f.type = 1 := by simp only [isLeaf, Bool.and_eq_true, beq_iff_eq] at h0; exact h0.1
    obtain ⟨d, hd⟩ : ∃ d, P.underlying f.type = some d := by
      cases hu : P.underlying f.type with
      | none => rw [hu] at h0; simp [isLeaf] at h0
      | some d => exact ⟨d, rfl⟩
    rw [h1] at hy
    have h0' : isLeaf (0, some d, 1) = true := by rw [hd, h1] at h0; simpa [isLeaf] using h0
    obtain ⟨v, ev, hv⟩ := trod_leaf hd h0' hy
    intro g hg
    rcases List.mem_cons.1 hg with rfl | hg
    · refine ⟨d, v, hd, ?_, hv⟩
      have := congrArg (·[0]?) ev
      simpa [List.getElem?_take, List.getElem?_drop] using this
    · exact ih g hg
/-- Cells that read as such a struct. -/
theorem trod_leafs {t : TypeId} {L : List (Nat × Option TypeDesc × Nat)} (hL : structOf P t = some L) (hall : L.all isLeaf = true) {W : World} {base fuel : Nat} {sp : Nat → Bool} {held : Bool} {cs : List Value} {y : DataW H × List MemPlace}
    (hf : DataW.trod enc P W base sp held fuel t cs = some y) : cs.length = P.cellsOf t ∧ ∀ (o : Nat) (d : TypeDesc), (o, some d, 1) ∈ L → ∃ v, cs[o]? = some v ∧ leafOf d v := by
  unfold structOf at hL
  split at hL
  · rename_i fs ht
    injection hL with hL
    subst hL
    have hall' : ∀ f ∈ fs.toList, isLeaf (f.offset, P.underlying f.type, P.cellsOf f.type) = true := by
      rw [List.all_eq_true] at hall
      intro f hf
      exact hall _ (List.mem_map.2 ⟨f, hf, rfl⟩)
    cases fuel with
    | zero => simp [DataW.trod] at hf
    | succ m =>
      unfold DataW.trod at hf
      simp only [ht] at hf
      split at hf
      · rename_i hlen
        simp only [Option.map_eq_some_iff] at hf
        obtain ⟨ys, hy, e1⟩ := hf
        refine ⟨hlen, fun o d hm => ?_⟩
        obtain ⟨f, hfm, e⟩ := List.mem_map.1 hm
        simp only [Prod.mk.injEq] at e
        obtain ⟨e1, e2, _⟩ := e
        obtain ⟨d', v, h1, h2, h3⟩ := mapM_leafs _ _ hall' hy f hfm
        rw [h1] at e2
        injection e2 with e2
        subst e1; subst e2
        exact ⟨v, h2, h3⟩
      · cases hf
  · cases hL
/-- Such a struct by value. -/
theorem open_leafs {t : TypeId} {L : List (Nat × Option TypeDesc × Nat)} (hL : structOf P t = some L) (hall : L.all isLeaf = true) {W : World} {base b0 : Nat} {r : Reach} {sp : Nat → Bool} {held : Bool} {v : Value} {d : DataW H} {ps : List MemPlace}
    (hval : Value.okWide P W r b0 t v) (hd : DataW.Trod enc P W base sp held t v d ps) :
    ∃ cs : Array Value, v = .agg cs ∧ cs.size = P.cellsOf t ∧ ∀ (o : Nat) (d : TypeDesc), (o, some d, 1) ∈ L → ∃ v, cs[o]? = some v ∧ leafOf d v := by
  have hs : ∃ fs, P.underlying t = some (.struct fs) := by
    unfold structOf at hL
    split at hL
    · rename_i fs ht; exact ⟨fs, ht⟩
    · cases hL
  obtain ⟨fs, ht⟩ := hs
  obtain ⟨cs, rfl, hcs⟩ := okWide_struct ht hval
  obtain ⟨fuel, hf⟩ := hd
  obtain ⟨h1, h2⟩ := trod_leafs hL hall hf
  refine ⟨cs, rfl, hcs, fun o d hm => ?_⟩
  obtain ⟨v, hv, hl⟩ := h2 o d hm
  exact ⟨v, by simpa [Value.cells] using hv, hl⟩
/-- Cells in elements of so many, each of a plain thing. -/
theorem list_of_elems {α : Type} {m : Nat} (enc' : α → List Value) (Q : α → Prop) : ∀ (n : Nat) (xs : List Value), xs.length = n * m → (∀ i, i < n → ∃ x, (xs.drop (i * m)).take m = enc' x ∧ Q x) →
    ∃ l : List α, l.length = n ∧ xs = l.flatMap enc' ∧ ∀ x ∈ l, Q x
  | 0, xs, hlen, _ => ⟨[], rfl, by simpa using hlen, fun x hx => by cases hx⟩
  | n + 1, xs, hlen, h => by
    obtain ⟨x, hx, hq⟩ := h 0 (by omega)
    obtain ⟨l, h1, h2, h3⟩ := list_of_elems (m := m) enc' Q n (xs.drop m) (by rw [List.length_drop, hlen, Nat.succ_mul]; omega) (fun i hi => by
      obtain ⟨y, hy, hqy⟩ := h (i + 1) (by omega)
      refine ⟨y, ?_, hqy⟩
      rw [List.drop_drop, ← hy]
      congr 2
      rw [Nat.succ_mul]; omega)
    refine ⟨x :: l, by simp [h1], ?_, fun y hy => ?_⟩
    · rw [List.flatMap_cons, ← h2, ← hx]
      simp
    · rcases List.mem_cons.1 hy with rfl | hy
      · exact hq
      · exact h3 y hy
end
end Go.Proofs.YtdjcjjodbniebaaGreatDoor
namespace Go.Proofs.YtdjcjjodbniebaaGreatDoor
open Go.RowKit Go.ChangeShapes Go.WideShapes
set_option linter.unusedVariables false
set_option linter.unusedSimpArgs false
set_option maxRecDepth 10000
structure Op1 where
  d : Int
  a : UInt8
  b : UInt8
  want : Bool
  fr : List Int
  many : UInt8
  bad : UInt8
  raw : List UInt8
  fv : Value
  rv : Value
def opA (o : Op1) : Array Value := opV o.d o.a.toNat o.b.toNat o.want o.fv o.many o.bad o.rv
def opc (o : Op1) : List Value := (opA o).toList
theorem opc_len (o : Op1) : (opc o).length = 8 := rfl
/-- an act's two slices read -/
def OpIn (w : World) (o : Op1) : Prop := RdB w o.rv o.raw ∧ Sl w 1 o.fv o.fr.length (intsK .i64 o.fr)
theorem OpIn.keep {w w' : World} {o : Op1} (h : OpIn w o) (hk : Below w.heap.size w w') : OpIn w' o := by
  refine ⟨h.1.keep hk, ?_⟩
  obtain ⟨A, c, e, hr, h2⟩ := h.2
  exact ⟨A, c, e, hr.keep hk, h2⟩
section
variable {H : Type} {enc : TypeId × Value → H} {P : Program}
theorem mapM_each {α β : Type} {f : α → Option β} : ∀ (L : List α) (ys : List β), L.mapM f = some ys → ∀ x ∈ L, ∃ y, f x = some y
  | [], ys, _, x, hx => by cases hx
  | z :: L, ys, h, x, hx => by
    rw [List.mapM_cons] at h
    simp only [bind, Option.bind_eq_some_iff, pure, Option.some.injEq] at h
    obtain ⟨y, hy, ys', hys, rfl⟩ := h
    rcases List.mem_cons.1 hx with rfl | hx
    · exact ⟨y, hy⟩
    · exact mapM_each L ys' hys x hx
/-- the parts of cells that read as a struct -/
theorem trod_part {t : TypeId} {L : List (Nat × Option TypeDesc × Nat)} (hL : structOf P t = some L) {W : World} {base fuel : Nat} {sp : Nat → Bool} {held : Bool} {cs : List Value} {y : DataW H × List MemPlace}
    (hf : DataW.trod enc P W base sp held fuel t cs = some y) : cs.length = P.cellsOf t ∧ ∀ (o : Nat) (d : TypeDesc) (m : Nat), (o, some d, m) ∈ L → ∃ ft fuel y, P.underlying ft = some d ∧ P.cellsOf ft = m ∧ DataW.trod enc P W base sp held fuel ft ((cs.drop o).take m) = some y := by
  unfold structOf at hL
  split at hL
  · rename_i fs ht
    injection hL with hL
    subst hL
    cases fuel with
    | zero => simp [DataW.trod] at hf
    | succ k =>
      unfold DataW.trod at hf
      simp only [ht] at hf
      split at hf
      · rename_i hlen
        simp only [Option.map_eq_some_iff] at hf
        obtain ⟨ys, hy, e1⟩ := hf
        refine ⟨hlen, fun o d m hm => ?_⟩
        obtain ⟨f, hfm, e⟩ := List.mem_map.1 hm
        simp only [Prod.mk.injEq] at e
        obtain ⟨e1, e2, e3⟩ := e
        obtain ⟨z, hz⟩ := mapM_each _ _ hy f hfm
        subst e1; subst e3
        exact ⟨f.type, k, z, e2, rfl, hz⟩
      · cases hf
  · cases hL
theorem one_at {cs : List Value} {o : Nat} {v : Value} (h : (cs.drop o).take 1 = [v]) : cs[o]? = some v := by
  have := congrArg (·[0]?) h
  simpa [List.getElem?_take, List.getElem?_drop] using this
end
theorem u8_ex {n : Int} (h : (Lit.int IntKind.u8 n).wf = true) : ∃ k : UInt8, n = (k.toNat : Int) := by
  have h1 : 0 ≤ n ∧ n ≤ 255 := by
    simp [Lit.wf] at h
    exact h
  exact ⟨UInt8.ofNat n.toNat, by simp; omega⟩
theorem rdB_of_sl {w : World} {v : Value} {l : List UInt8} (h : Sl w 1 v l.length (l.map fun c => Value.int .u8 c.toNat)) : RdB w v l := by
  obtain ⟨A, c, e, hr, h0, h1, h2⟩ := h
  exact ⟨A, c, e, hr, fun h => (h0 h).1, h1, h2⟩
theorem open_ops {H : Type} {enc : TypeId × Value → H} {W : World} {base b0 : Nat} {sp : Nat → Bool} {held : Bool} {v : Value} {d : DataW H} {ps : List MemPlace} (hval : Value.okWide Tryz.prog W .any base 57 v)
    (hd : DataW.Trod enc Tryz.prog W b0 sp held 57 v d ps) : ∃ l : List Op1, Sl W 8 v l.length (l.flatMap opc) ∧ ∀ o ∈ l, OpIn W o := by
  have hc : Tryz.prog.cellsOf 52 = 8 := by kernel_rfl
  have c3 : Tryz.prog.cellsOf 3 = 1 := by kernel_rfl
  have c5 : Tryz.prog.cellsOf 5 = 1 := by kernel_rfl
  obtain ⟨n, xs, hs, hi⟩ := open_sl (P := Tryz.prog) Tryz.underlying57 (by rw [hc]; omega) hval hd
  rw [hc] at hs hi
  have hlen : xs.length = n * 8 := by obtain ⟨A, c, _, h, _⟩ := hs; exact h.len
  obtain ⟨l, h1, h2, h3⟩ := list_of_elems (m := 8) opc (OpIn W) n xs hlen (fun i hin => by
    obtain ⟨fuel, y, hy⟩ := hi i hin
    obtain ⟨hl, hp⟩ := trod_part (L := [(0, some (.int .i64), 1), (1, some (.int .u8), 1), (2, some (.int .u8), 1), (3, some .bool, 1), (4, some (.slice 3), 1), (5, some (.int .u8), 1), (6, some (.int .u8), 1), (7, some (.slice 5), 1)]) (by kernel_rfl) hy
    rw [hc] at hl
    generalize (xs.drop (i * 8)).take 8 = cs at *
    obtain ⟨_, _, _, g0, -, t0⟩ := hp 0 (.int .i64) 1 (by simp)
    obtain ⟨_, _, _, g1, -, t1⟩ := hp 1 (.int .u8) 1 (by simp)
    obtain ⟨_, _, _, g2, -, t2⟩ := hp 2 (.int .u8) 1 (by simp)
    obtain ⟨_, _, _, g3, -, t3⟩ := hp 3 .bool 1 (by simp)
    obtain ⟨_, _, _, g4, -, t4⟩ := hp 4 (.slice 3) 1 (by simp)
    obtain ⟨_, _, _, g5, -, t5⟩ := hp 5 (.int .u8) 1 (by simp)
    obtain ⟨_, _, _, g6, -, t6⟩ := hp 6 (.int .u8) 1 (by simp)
    obtain ⟨_, _, _, g7, -, t7⟩ := hp 7 (.slice 5) 1 (by simp)
    obtain ⟨d0, e0, -, w0⟩ := DataW.trod_int g0 t0
    obtain ⟨d1, e1, -, w1⟩ := DataW.trod_int g1 t1
    obtain ⟨d2, e2, -, w2⟩ := DataW.trod_int g2 t2
    obtain ⟨d3, e3, -⟩ := DataW.trod_bool g3 t3
    obtain ⟨u4, n4, xs4, e4, s4, i4⟩ := open_sl0 g4 (by rw [c3]; omega) t4
    obtain ⟨d5, e5, -, w5⟩ := DataW.trod_int g5 t5
    obtain ⟨d6, e6, -, w6⟩ := DataW.trod_int g6 t6
    obtain ⟨u7, n7, xs7, e7, s7, i7⟩ := open_sl0 g7 (by rw [c5]; omega) t7
    rw [c3] at s4 i4
    rw [c5] at s7 i7
    obtain ⟨l4, s4, -⟩ := ints_of Tryz.underlying3 s4 i4
    obtain ⟨l7, s7, w7⟩ := ints_of Tryz.underlying5 s7 i7
    obtain ⟨r7, s7⟩ := bytes_of s7 w7
    obtain ⟨k1, rfl⟩ := u8_ex w1
    obtain ⟨k2, rfl⟩ := u8_ex w2
    obtain ⟨k5, rfl⟩ := u8_ex w5
    obtain ⟨k6, rfl⟩ := u8_ex w6
    have a0 := one_at e0
    have a1 := one_at e1
    have a2 := one_at e2
    have a3 := one_at e3
    have a4 := one_at e4
    have a5 := one_at e5
    have a6 := one_at e6
    have a7 := one_at e7
    refine ⟨⟨d0, k1, k2, d3, l4, k5, k6, r7, u4, u7⟩, ?_, rdB_of_sl s7, s4⟩
    match cs, hl with
    | [x0, x1, x2, x3, x4, x5, x6, x7], _ =>
      simp at a0 a1 a2 a3 a4 a5 a6 a7
      rw [a0, a1, a2, a3, a4, a5, a6, a7]
      rfl)
  subst h1
  exact ⟨l, by rw [h2] at hs; exact hs, h3⟩
end Go.Proofs.YtdjcjjodbniebaaGreatDoor
