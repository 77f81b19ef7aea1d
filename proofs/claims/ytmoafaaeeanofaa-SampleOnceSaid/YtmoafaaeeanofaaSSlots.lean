/-
  The document's Units; Slots, both.
-/
import Derived.Test.YtmoafaaeeanofaaSUnits2
import Derived.Test.YtmoafaaeeanofaaSWeights
namespace Go.Proofs.Ytmoafaaeeanofaa
open Go.RowKit
set_option linter.unusedVariables false
set_option linter.unusedSimpArgs false
set_option maxRecDepth 10000
set_option maxHeartbeats 6400000 in
theorem rUnits_any (total k : Int) (ht : -9223372036854775808 ≤ total ∧ total ≤ 9223372036854775807) (hk : -9223372036854775808 ≤ k ∧ k ≤ 9223372036854775807) (ds : List Int) (hds : U64 ds) (vd : Value) (w : World) (hs : Sl w 1 vd ds.length (intsK .u64 ds)) :
    callE Try.prog 18 #[.int .i64 total, .int .i64 k, vd] w fun v w' => UnitsRes total k ds v w' ∧ Below w.heap.size w w' := by
  obtain ⟨A, cap, rfl, hrd, hA, hc1, hc2⟩ := id hs
  refine calls_E Try.func18 rfl rfl rfl (Nat.le_of_ble_eq_true rfl) ?_
  by_cases h1 : total < 0
  · simp [go_sem, IntWalk.iteOmega, IntWalk.toNatUp, h1, UnitsRes, unitsV_bad ds (show total < 0 ∨ 4611686018427387903 < total ∨ k < 0 ∨ 64 < k by omega)]
    exact ⟨sl_nil _ _, Below.refl _ _⟩
  by_cases h2 : 4611686018427387903 < total
  · simp [go_sem, IntWalk.iteOmega, IntWalk.toNatUp, h1, h2, UnitsRes, unitsV_bad ds (show total < 0 ∨ 4611686018427387903 < total ∨ k < 0 ∨ 64 < k by omega)]
    exact ⟨sl_nil _ _, Below.refl _ _⟩
  by_cases h3 : k < 0
  · simp [go_sem, IntWalk.iteOmega, IntWalk.toNatUp, h1, h2, h3, UnitsRes, unitsV_bad ds (show total < 0 ∨ 4611686018427387903 < total ∨ k < 0 ∨ 64 < k by omega)]
    exact ⟨sl_nil _ _, Below.refl _ _⟩
  by_cases h4 : 64 < k
  · simp [go_sem, IntWalk.iteOmega, IntWalk.toNatUp, h1, h2, h3, h4, UnitsRes, unitsV_bad ds (show total < 0 ∨ 4611686018427387903 < total ∨ k < 0 ∨ 64 < k by omega)]
    exact ⟨sl_nil _ _, Below.refl _ _⟩
  have hok : ¬ (total < 0 ∨ 4611686018427387903 < total ∨ k < 0 ∨ 64 < k) := by omega
  by_cases h5 : total < k
  · simp [go_sem, IntWalk.iteOmega, IntWalk.toNatUp, h1, h2, h3, h4, h5, UnitsRes, unitsV_few ds hok h5]
    exact ⟨sl_nil _ _, Below.refl _ _⟩
  have hV := unitsV_ok ds hok h5
  obtain ⟨K, rfl⟩ : ∃ K : Nat, k = K := ⟨k.toNat, by omega⟩
  rw [Int.toNat_natCast] at hV
  simp [go_sem, IntWalk.iteOmega, IntWalk.toNatUp, h1, h2, h3, h4, h5]
  refine W_loop (fun st wr => ∃ (j : Nat) (out : Value), j ≤ K ∧ st 0 = .int .i64 total ∧ st 1 = .int .i64 K ∧ st 2 = .slice A ds.length cap ∧ st 8 = out ∧ st 9 = .int .i64 j ∧
    wr.ownsRow w.heap.size 2 1 out j (intsK .i64 (unitsL total ds j)) ∧ Below w.heap.size w wr) (fun st _ => K - (intOf (st 9)).toNat) ?_ ?_
  · exact ⟨0, .slice none 0 0, by omega, by simp [go_sem], by simp [go_sem], by simp [go_sem], by simp [go_sem], by simp [go_sem], World.ownsRow_nil _ _ _ _, Below.refl _ _⟩
  · rintro st wr ⟨j, out, hj, e0, e1, e2, e8, e9, hout, hbw⟩
    by_cases hlt : j < K
    · have hlt' : (j : Int) < K := by omega
      have hd := drawV_in hds j
      have hm := emod_in (d := drawV ds j) (m := total - j) (by omega)
      have f1 : IntKind.u64.wrap (total - j) = total - j := by rw [IntKind.wrap_u64]; omega
      have f2 : (drawV ds j).tmod (total - j) = drawV ds j % (total - j) := Int.tmod_eq_emod_of_nonneg hd.1
      have f3 : IntKind.i64.wrap (drawV ds j % (total - j)) = drawV ds j % (total - j) := by rw [IntKind.wrap_i64]; omega
      have f4 : (total - (j : Int) == 0) = false := beq_eq_false_iff_ne.2 (by omega)
      obtain ⟨hnd, hin⟩ := unitsL_ok (total := total) (draws := ds) (j := j) (by omega)
      have hlj := unitsL_length total ds j
      have hst : unitsL total ds (j + 1) = unitsL total ds j ++ [freeV (unitsL total ds j) (drawV ds j % (total - j))] := rfl
      obtain ⟨hsl1, A2, c2, rfl⟩ := own_sl hout
      have hleft := left_any (unitsL total ds j) (drawV ds j % (total - j)) (by omega) hnd (fun x hx => by have := hin x hx; omega) (by omega) (.slice A2 j c2)
      rw [hlj] at hleft
      by_cases hjd : j < ds.length
      · obtain ⟨b, o, rfl, hb, hc⟩ := hrd.cells (by omega)
        have y0 := hc _ _ (intsK_at hjd)
        rw [← hbw.cell hb] at y0
        have hjd' : (j : Int) < ds.length := by omega
        have hdd : ds.getD j 0 = drawV ds j := rfl
        rw [hdd] at y0
        simp [go_sem, IntWalk.iteOmega, IntWalk.toNatUp, e0, e1, e2, e8, e9, hlt', hjd', hjd, y0, f1, f2, f3, f4]
        refine callE_of (hleft wr hsl1) ?_
        rintro _ w1 ⟨rfl, k1⟩
        have hout1 := own_below hout k1
        have hbw1 := hbw.trans (k1.mono hbw.size)
        generalize freeV (unitsL total ds j) (drawV ds j % (total - j)) = u at *
        simp [go_sem, IntWalk.iteOmega, IntWalk.toNatUp, e0, e1, e2, e8, e9]
        have kB := ext_alloc w1 (.cells #[.int .i64 u] 2)
        have hxb3 : Blk (w1.alloc (.cells #[.int .i64 u] 2)) w1.heap.size 2 #[.int .i64 u] := Blk.self_ rfl
        have hrx : Rd (w1.alloc (.cells #[.int .i64 u] 2)) 1 (some ⟨w1.heap.size, 0, none⟩) 1 (intsK .i64 [u]) := ⟨rfl, fun _ => ⟨_, 0, rfl, hxb3.lt, fun q u hu => by rw [hxb3.cell, Nat.zero_add, List.getElem?_toArray]; exact hu⟩⟩
        have houtB := own_below hout1 kB
        have hbB := hbw1.trans (kB.mono hbw1.size)
        generalize w1.alloc (.cells #[.int .i64 u] 2) = w4 at *
        refine appendE w.heap.size 2 1 8 Try.underlying22 el2 houtB hrx rfl (by unfold maxLen; omega) (by omega) hbB.size ?_
        intro out' w5 hout5 hgr5 hblk5
        have hcat : intsK .i64 (unitsL total ds j) ++ intsK .i64 [u] = intsK .i64 (unitsL total ds (j + 1)) := by rw [hst]; simp [intsK]
        rw [hcat] at hout5
        have hb5 := hbB.grown hgr5 hbB.size (fun k hk => (houtB.lt k hk).1)
        simp [go_sem, IntWalk.iteOmega, IntWalk.toNatUp, e0, e1, e2, e8, e9]
        refine roundEnd.mk ⟨j + 1, out', by omega, by simp [go_sem, e0], by simp [go_sem, e1], by simp [go_sem, e2], by simp [go_sem], by simp [go_sem], hout5, hb5⟩ ?_
        simp [go_sem, intOf, e9]; omega
      · have hjd' : ¬ (j : Int) < ds.length := by omega
        have hd0 : drawV ds j = 0 := by unfold drawV; simp [List.getD, List.getElem?_eq_none (show ds.length ≤ j by omega)]
        rw [hd0] at hleft hst
        have f5 : (0 : Int) % (total - j) = 0 := Int.zero_emod _
        have f6 : (0 : Int).tmod (total - j) = 0 := Int.zero_tmod _
        rw [f5] at hleft hst
        simp [go_sem, IntWalk.iteOmega, IntWalk.toNatUp, e0, e1, e2, e8, e9, hlt', hjd', f1, f6, f4]
        refine callE_of (hleft wr hsl1) ?_
        rintro _ w1 ⟨rfl, k1⟩
        have hout1 := own_below hout k1
        have hbw1 := hbw.trans (k1.mono hbw.size)
        generalize freeV (unitsL total ds j) 0 = u at *
        simp [go_sem, IntWalk.iteOmega, IntWalk.toNatUp, e0, e1, e2, e8, e9]
        have kB := ext_alloc w1 (.cells #[.int .i64 u] 2)
        have hxb3 : Blk (w1.alloc (.cells #[.int .i64 u] 2)) w1.heap.size 2 #[.int .i64 u] := Blk.self_ rfl
        have hrx : Rd (w1.alloc (.cells #[.int .i64 u] 2)) 1 (some ⟨w1.heap.size, 0, none⟩) 1 (intsK .i64 [u]) := ⟨rfl, fun _ => ⟨_, 0, rfl, hxb3.lt, fun q u hu => by rw [hxb3.cell, Nat.zero_add, List.getElem?_toArray]; exact hu⟩⟩
        have houtB := own_below hout1 kB
        have hbB := hbw1.trans (kB.mono hbw1.size)
        generalize w1.alloc (.cells #[.int .i64 u] 2) = w4 at *
        refine appendE w.heap.size 2 1 8 Try.underlying22 el2 houtB hrx rfl (by unfold maxLen; omega) (by omega) hbB.size ?_
        intro out' w5 hout5 hgr5 hblk5
        have hcat : intsK .i64 (unitsL total ds j) ++ intsK .i64 [u] = intsK .i64 (unitsL total ds (j + 1)) := by rw [hst]; simp [intsK]
        rw [hcat] at hout5
        have hb5 := hbB.grown hgr5 hbB.size (fun k hk => (houtB.lt k hk).1)
        simp [go_sem, IntWalk.iteOmega, IntWalk.toNatUp, e0, e1, e2, e8, e9]
        refine roundEnd.mk ⟨j + 1, out', by omega, by simp [go_sem, e0], by simp [go_sem, e1], by simp [go_sem, e2], by simp [go_sem], by simp [go_sem], hout5, hb5⟩ ?_
        simp [go_sem, intOf, e9]; omega
    · obtain rfl : j = K := by omega
      obtain ⟨hsl1, A2, c2, rfl⟩ := own_sl hout
      simp [go_sem, IntWalk.iteOmega, IntWalk.toNatUp, e0, e1, e2, e8, e9, UnitsRes, hV]
      refine ⟨?_, hbw⟩
      rw [unitsL_length]
      exact hsl1
open Classical in
noncomputable def slotsV (l : List Int) (k : Int) (ds : List Int) : Int × List Int :=
  if ¬ okAll l then (1, []) else if (unitsV (wsum l) k ds).1 ≠ 0 then ((unitsV (wsum l) k ds).1, []) else (0, (unitsV (wsum l) k ds).2.map fun u => ownF u l 0)
theorem slotsV_bad {l : List Int} (k : Int) (ds : List Int) (h : ¬ okAll l) : slotsV l k ds = (1, []) := if_pos h
theorem slotsV_err {l : List Int} {k : Int} {ds : List Int} (h : okAll l) (h2 : (unitsV (wsum l) k ds).1 ≠ 0) : slotsV l k ds = ((unitsV (wsum l) k ds).1, []) := by unfold slotsV; rw [if_neg (fun h' => h' h), if_pos h2]
theorem slotsV_ok {l : List Int} {k : Int} {ds : List Int} (h : okAll l) (h2 : (unitsV (wsum l) k ds).1 = 0) : slotsV l k ds = (0, (unitsV (wsum l) k ds).2.map fun u => ownF u l 0) := by unfold slotsV; rw [if_neg (fun h' => h' h), if_neg (fun h' => h' h2)]
def SlotsRes (l : List Int) (k : Int) (ds : List Int) (v : Value) (w' : World) : Prop := ∃ u, v = .tuple #[u, .int .i64 (slotsV l k ds).1] ∧ Sl w' 1 u (slotsV l k ds).2.length (intsK .i64 (slotsV l k ds).2)
theorem unitsV_in {total k : Int} {ds : List Int} (h : (unitsV total k ds).1 = 0) : (unitsV total k ds).2.length ≤ 64 ∧ (∀ x ∈ (unitsV total k ds).2, 0 ≤ x ∧ x < total) ∧ total ≤ 4611686018427387903 := by
  by_cases h1 : total < 0 ∨ 4611686018427387903 < total ∨ k < 0 ∨ 64 < k
  · rw [unitsV_bad ds h1] at h; simp at h
  · by_cases h2 : total < k
    · rw [unitsV_few ds h1 h2] at h; simp at h
    · rw [unitsV_ok ds h1 h2]
      refine ⟨?_, (unitsL_ok (by omega)).2, by omega⟩
      show (unitsL total ds k.toNat).length ≤ 64
      rw [unitsL_length]; omega
set_option maxHeartbeats 6400000 in
theorem vSlots_any (l : List Int) (k : Int) (hk : -9223372036854775808 ≤ k ∧ k ≤ 9223372036854775807) (ds : List Int) (hds : U64 ds) (vl vd : Value) (w : World) (hl : Sl w 1 vl l.length (intsK .i64 l)) (hI : AllI l) (hs : Sl w 1 vd ds.length (intsK .u64 ds)) :
    callE Try.prog 12 #[vl, .int .i64 k, vd] w fun v w' => SlotsRes l k ds v w' ∧ Below w.heap.size w w' := by
  refine calls_E Try.func12 rfl rfl rfl (Nat.le_of_ble_eq_true rfl) ?_
  simp [go_sem, IntWalk.iteOmega, IntWalk.toNatUp]
  refine callE_of (sum_any l vl w hl hI) ?_
  rintro _ w1 ⟨rfl, k1⟩
  rcases wsum_cases l with ⟨hok, h1⟩ | ⟨hok, h1⟩
  · have h0 : ¬ wsum l < 0 := by omega
    have hwb := (wsum_ok hok).2
    simp [go_sem, IntWalk.iteOmega, IntWalk.toNatUp, h0]
    refine callE_of (vUnits_any (wsum l) k (by omega) hk ds hds vd w1 (Sl_kept hs k1)) ?_
    rintro _ w2 ⟨⟨u, rfl, hu⟩, k2⟩
    have kk := ext_trans k1 k2
    by_cases he : (unitsV (wsum l) k ds).1 = 0
    · obtain ⟨hlen, hin, htot⟩ := unitsV_in he
      have hV := slotsV_ok hok he
      rw [he]
      generalize (unitsV (wsum l) k ds).2 = us at *
      obtain ⟨A, cap, rfl, hrd, hA, hc1, hc2⟩ := id hu
      simp [go_sem, IntWalk.iteOmega, IntWalk.toNatUp]
      refine W_loop (fun st wr => ∃ (i : Nat) (out : Value), i ≤ us.length ∧ st 0 = vl ∧ st 11 = out ∧ st 28 = .slice A us.length cap ∧ st 29 = .int .i64 us.length ∧ st 30 = .int .i64 i ∧
        wr.ownsRow w2.heap.size 3 1 out i (intsK .i64 ((us.take i).map fun u => ownF u l 0)) ∧ Below w2.heap.size w2 wr) (fun st _ => us.length - (intOf (st 30)).toNat) ?_ ?_
      · exact ⟨0, .slice none 0 0, by omega, by simp [go_sem], by simp [go_sem], by simp [go_sem], by simp [go_sem], by simp [go_sem], World.ownsRow_nil _ _ _ _, Below.refl _ _⟩
      · rintro st wr ⟨i, out, hi, e0, e11, e28, e29, e30, hout, hb2⟩
        have hbw := kk.trans (hb2.mono kk.size)
        by_cases hlt : i < us.length
        · obtain ⟨b, o, rfl, hb, hc⟩ := hrd.cells (by omega)
          have y0 := hc _ _ (intsK_at hlt)
          rw [← hb2.cell hb] at y0
          have hlt' : (i : Int) < us.length := by omega
          have htk := take_succ_at hlt
          have hxin := hin _ (getD_mem hlt)
          generalize us.getD i 0 = x at *
          simp [go_sem, IntWalk.iteOmega, IntWalk.toNatUp, e0, e11, e28, e29, e30, hlt, hlt', y0]
          refine callE_of (owner_any l x (by omega) vl wr (Sl_kept hl hbw) hok) ?_
          rintro _ w4 ⟨rfl, k4⟩
          have hout4 := own_below hout k4
          have hb4 := hb2.trans (k4.mono hb2.size)
          generalize hO : ownF x l 0 = ow at *
          simp [go_sem, IntWalk.iteOmega, IntWalk.toNatUp, e0, e11, e28, e29, e30]
          have kB := ext_alloc w4 (.cells #[.int .i64 ow] 3)
          have hxb3 : Blk (w4.alloc (.cells #[.int .i64 ow] 3)) w4.heap.size 3 #[.int .i64 ow] := Blk.self_ rfl
          have hrx : Rd (w4.alloc (.cells #[.int .i64 ow] 3)) 1 (some ⟨w4.heap.size, 0, none⟩) 1 (intsK .i64 [ow]) := ⟨rfl, fun _ => ⟨_, 0, rfl, hxb3.lt, fun q u hu => by rw [hxb3.cell, Nat.zero_add, List.getElem?_toArray]; exact hu⟩⟩
          have houtB := own_below hout4 kB
          have hbB := hb4.trans (kB.mono hb4.size)
          generalize w4.alloc (.cells #[.int .i64 ow] 3) = w5 at *
          have hbase : w2.heap.size ≤ w5.heap.size := hbB.size
          refine appendE w2.heap.size 3 1 8 Try.underlying28 el3 houtB hrx rfl (by unfold maxLen; omega) (by omega) hbase ?_
          intro out' w6 hout6 hgr6 hblk6
          have hcat : intsK .i64 ((us.take i).map fun u => ownF u l 0) ++ intsK .i64 [ow] = intsK .i64 ((us.take (i + 1)).map fun u => ownF u l 0) := by rw [htk]; simp [intsK, hO]
          rw [hcat] at hout6
          have hb6 := hbB.grown hgr6 hbase (fun k hk => (houtB.lt k hk).1)
          simp [go_sem, IntWalk.iteOmega, IntWalk.toNatUp, e0, e11, e28, e29, e30]
          refine roundEnd.mk ⟨i + 1, out', by omega, by simp [go_sem, e0], by simp [go_sem], by simp [go_sem, e28], by simp [go_sem, e29], by simp [go_sem], hout6, hb6⟩ ?_
          simp [go_sem, intOf, e30]; omega
        · obtain rfl : i = us.length := by omega
          rw [List.take_length] at hout
          obtain ⟨hsl1, A2, c2, rfl⟩ := own_sl hout
          simp [go_sem, IntWalk.iteOmega, IntWalk.toNatUp, e0, e11, e28, e29, e30, SlotsRes, hV]
          exact ⟨hsl1, hbw⟩
    · have hV := slotsV_err hok he
      have hb0 : ((unitsV (wsum l) k ds).1 != 0) = true := by simpa using he
      simp [go_sem, IntWalk.iteOmega, IntWalk.toNatUp, hb0, SlotsRes, hV]
      exact ⟨sl_nil _ _, kk⟩
  · rw [h1]
    simp [go_sem, IntWalk.iteOmega, IntWalk.toNatUp, SlotsRes, slotsV_bad k ds hok]
    exact ⟨sl_nil _ _, k1⟩
end Go.Proofs.Ytmoafaaeeanofaa
