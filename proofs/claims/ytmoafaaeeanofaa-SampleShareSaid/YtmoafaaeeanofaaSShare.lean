/-
  The law SampleShare: its walk.
-/
import Derived.Test.YtmoafaaeeanofaaSCount
import Derived.Test.YtmoafaaeeanofaaSBegun
namespace Go.Proofs.Ytmoafaaeeanofaa
open Go.RowKit
set_option linter.unusedVariables false
set_option linter.unusedSimpArgs false
set_option maxRecDepth 10000
theorem small_U64 {t : Int} {ds : List Int} {k : Nat} (hk : (k : Int) ≤ t) (ht : t ≤ 4611686018427387903) {more : List Int} (hm : U64 more) : U64 (smallL t ds k ++ more) := fun x hx => by
  rcases List.mem_append.1 hx with hx | hx
  · obtain ⟨j, hj, rfl⟩ := List.mem_map.1 hx
    have hj' := List.mem_range.1 hj
    have := emod_in (d := drawV ds j) (m := t - j) (by omega)
    omega
  · exact hm x hx
theorem Sl.rd {w : World} {size n c : Nat} {A : Option Addr} {xs : List Value} (h : Sl w size (.slice A n c) n xs) : Rd w size A n xs := by
  obtain ⟨A', c', e, hrd, _⟩ := h
  obtain ⟨rfl, rfl⟩ : A = A' ∧ c = c' := by simpa using e
  exact hrd
theorem oneU' (k : IntKind) (l : List Int) : allOne (intsK k l) = true := allOne_of fun v hv => by
  obtain ⟨x, _, rfl⟩ := List.mem_map.1 hv; rfl
set_option maxHeartbeats 25600000 in
theorem lawShare_any (l : List Int) (k : Int) (hk : -9223372036854775808 ≤ k ∧ k ≤ 9223372036854775807) (ds more : List Int) (hds : U64 ds) (hmo : U64 more) (hI : AllI l) (vl vd vm : Value) (w : World) (hl : Sl w 1 vl l.length (intsK .i64 l)) (hs : Sl w 1 vd ds.length (intsK .u64 ds)) (hmr : Sl w 1 vm more.length (intsK .u64 more)) :
    callE Try.prog 6 #[vl, .int .i64 k, vd, vm] w fun v w' => v = .bool true ∧ Below w.heap.size w w' := by
  obtain ⟨A, cap, rfl, hrd, hA, hc1, hc2⟩ := id hs
  obtain ⟨A', cap', rfl, hrd', hA', hc1', hc2'⟩ := id hl
  obtain ⟨A'', cap'', rfl, hrd'', hA'', hc1'', hc2''⟩ := id hmr
  refine calls_E Try.func6 rfl rfl rfl (Nat.le_of_ble_eq_true rfl) ?_
  simp [go_sem, IntWalk.iteOmega, IntWalk.toNatUp]
  refine callE_of (begun_any w) ?_
  rintro _ w1 ⟨rfl, k1⟩
  have again : ∀ w1 : World, Below w.heap.size w w1 → callE Try.prog 9 #[] w1 fun v w' => v = .bool true ∧ Below w.heap.size w w' := fun w1 k1 => callE_of (begun_any w1) fun v w2 ⟨h, k2⟩ => ⟨h, ext_trans k1 k2⟩
  by_cases hlen' : (200 : Int) < l.length
  · simp [go_sem, IntWalk.iteOmega, IntWalk.toNatUp, hlen']
    refine callE_of (again w1 k1) ?_
    rintro _ w2 ⟨rfl, k2⟩
    simp [go_sem, IntWalk.iteOmega, IntWalk.toNatUp]
    exact k2
  by_cases hlen : (300 : Int) < ds.length
  · simp [go_sem, IntWalk.iteOmega, IntWalk.toNatUp, hlen, hlen']
    refine callE_of (again w1 k1) ?_
    rintro _ w2 ⟨rfl, k2⟩
    simp [go_sem, IntWalk.iteOmega, IntWalk.toNatUp]
    exact k2
  by_cases hlen'' : (300 : Int) < more.length
  · simp [go_sem, IntWalk.iteOmega, IntWalk.toNatUp, hlen, hlen', hlen'']
    refine callE_of (again w1 k1) ?_
    rintro _ w2 ⟨rfl, k2⟩
    simp [go_sem, IntWalk.iteOmega, IntWalk.toNatUp]
    exact k2
  simp [go_sem, IntWalk.iteOmega, IntWalk.toNatUp, hlen, hlen', hlen'']
  clear again
  refine callE_of (vSlots_any l k hk ds hds _ _ w1 (Sl_kept hl k1) hI (Sl_kept hs k1)) ?_
  rintro _ w2 ⟨⟨u, rfl, hu⟩, k2⟩
  have kk2 := ext_trans k1 k2
  obtain ⟨Au, cu, rfl, hru, hAu, hcu1, hcu2⟩ := id hu
  by_cases hok : okAll l
  · have hwb := (wsum_ok hok).2
    have hsum := (wsum_ok hok).1
    have hwS := wS_nn hok.2.2
    by_cases he : (unitsV (wsum l) k ds).1 = 0
    · have hV := slotsV_ok hok he
      obtain ⟨hul, huin, hut⟩ := unitsV_in he
      have hund : (unitsV (wsum l) k ds).2.Nodup := by
        by_cases q1 : wsum l < 0 ∨ 4611686018427387903 < wsum l ∨ k < 0 ∨ 64 < k
        · rw [unitsV_bad ds q1] at he; simp at he
        · by_cases q2 : wsum l < k
          · rw [unitsV_few ds q1 q2] at he; simp at he
          · rw [unitsV_ok ds q1 q2]; exact (unitsL_ok (by omega)).1
      obtain ⟨K, rfl, hK, hKt, hKu⟩ : ∃ K : Nat, k = K ∧ K ≤ 64 ∧ (K : Int) ≤ wsum l ∧ (unitsV (wsum l) k ds).2.length = K := by
        by_cases q1 : wsum l < 0 ∨ 4611686018427387903 < wsum l ∨ k < 0 ∨ 64 < k
        · rw [unitsV_bad ds q1] at he; simp at he
        · by_cases q2 : wsum l < k
          · rw [unitsV_few ds q1 q2] at he; simp at he
          · refine ⟨k.toNat, by omega, by omega, by omega, ?_⟩
            rw [unitsV_ok ds q1 q2]; exact unitsL_length _ _ _
      obtain ⟨us, hus⟩ : ∃ us, unitsV (wsum l) K ds = (0, us) := ⟨(unitsV (wsum l) K ds).2, by rw [← he]⟩
      have hsame := hus
      rw [hus] at he hul huin hund hKu hV
      rw [hV] at hu hru hAu hcu1 ⊢
      replace hKu : us.length = K := hKu
      replace hund : us.Nodup := hund
      replace huin : ∀ x ∈ us, 0 ≤ x ∧ x < wsum l := huin
      obtain ⟨sl, hsl⟩ : ∃ sl, us.map (fun u => ownF u l 0) = sl := ⟨_, rfl⟩
      have hslr := own_range hok huin
      have hshare : ∀ v : Nat, v < l.length → cntOf v sl ≤ l.getD v 0 := fun v hv => by rw [← hsl]; exact share_law hok hund huin hv
      have hslat : ∀ i : Nat, i < K → sl.getD i 0 = ownF (us.getD i 0) l 0 := fun i hi => by
        rw [← hsl, List.getD_eq_getElem?_getD, List.getElem?_map, List.getD_eq_getElem?_getD, List.getElem?_eq_getElem (by omega)]; rfl
      have hsll : sl.length = K := by rw [← hsl, List.length_map, hKu]
      simp only [hsl] at hu hru hAu hcu1 hslr hV
      rw [hsll] at hu hru hAu hcu1
      simp [go_sem, IntWalk.iteOmega, IntWalk.toNatUp, hsl, hsll]
      refine W_loop (fun st wr => ∃ i : Nat, i ≤ l.length ∧ st 0 = .slice A' l.length cap' ∧ st 1 = .int .i64 K ∧ st 2 = .slice A ds.length cap ∧ st 3 = .slice A'' more.length cap'' ∧ st 9 = .slice Au K cu ∧
        st 11 = .int .i64 (wS l i) ∧ st 59 = .slice A' l.length cap' ∧ st 60 = .int .i64 l.length ∧ st 61 = .int .i64 i ∧ w2 = wr) (fun st _ => l.length - (intOf (st 61)).toNat) ?_ ?_
      · exact ⟨0, by omega, by simp [go_sem], by simp [go_sem], by simp [go_sem], by simp [go_sem], by simp [go_sem], by simp [go_sem, wS], by simp [go_sem], by simp [go_sem], by simp [go_sem], rfl⟩
      rintro st wr ⟨i, hi, e0, e1, e2, e3, e9, e11, e59, e60, e61, rfl⟩
      by_cases hlt : i < l.length
      · obtain ⟨b, o, rfl, hb, hc⟩ := (Sl_kept hl kk2).rd.cells (by omega)
        have y0 := hc _ _ (intsK_at hlt)
        have hlt' : (i : Int) < l.length := by omega
        have hst : wS l (i + 1) = wS l i + l.getD i 0 := rfl
        have hw1 := wS_nn (l := l) (k := i + 1) (fun j hj => hok.2.2 j (by omega))
        generalize l.getD i 0 = x at *
        have fw : IntKind.i64.wrap (wS l i + x) = wS l i + x := by rw [IntKind.wrap_i64]; omega
        simp [go_sem, IntWalk.iteOmega, IntWalk.toNatUp, e0, e1, e2, e3, e9, e11, e59, e60, e61, hlt, hlt', y0, fw]
        refine roundEnd.mk ⟨i + 1, by omega, by simp [go_sem, e0], by simp [go_sem, e1], by simp [go_sem, e2], by simp [go_sem, e3], by simp [go_sem, e9], by simp [go_sem, hst], by simp [go_sem, e59], by simp [go_sem, e60], by simp [go_sem], rfl⟩ ?_
        simp [go_sem, intOf, e61]; omega
      obtain rfl : i = l.length := by omega
      rw [← hsum] at e11
      simp [go_sem, IntWalk.iteOmega, IntWalk.toNatUp, e0, e1, e2, e3, e9, e11, e59, e60, e61]
      refine callE_of (vUnits_any (wsum l) K (by omega) hk ds hds _ w2 (Sl_kept hs kk2)) ?_
      rintro _ w3 ⟨⟨uu, rfl, huu⟩, k3⟩
      have kk3 := ext_trans kk2 k3
      rw [hus] at huu ⊢
      replace huu : Sl w3 1 uu us.length (intsK .i64 us) := huu
      rw [hKu] at huu
      obtain ⟨Aw, cw, rfl, hrw, hAw, hcw1, hcw2⟩ := id huu
      have hu3 := Sl_kept hu k3
      simp [go_sem, IntWalk.iteOmega, IntWalk.toNatUp, e0, e1, e2, e3, e9, e11]
      have hslI : AllI sl := fun x hx => by have := hslr x hx; have := hok.2.1; unfold InI; omega
      have hl32 := hok.2.1
      have hu3' : Sl w3 1 (.slice Au K cu) sl.length (intsK .i64 sl) := by rw [hsll]; exact hu3
      refine callE_of (vCount_any l.length (by unfold InI; omega) sl hslI (by omega) _ w3 hu3') ?_
      rintro _ w4 ⟨⟨un, rfl, hun⟩, k4⟩
      have kk4 := ext_trans kk3 k4
      rw [countV_ok hl32 hslr] at hun ⊢
      replace hun : Sl w4 1 un (cnts l.length sl).length (intsK .i64 (cnts l.length sl)) := hun
      rw [cnts_length] at hun
      obtain ⟨An, cn, rfl, hrn, hAn, hcn1, hcn2⟩ := id hun
      have hu4 := Sl_kept hu3 k4
      have huu4 := Sl_kept huu k4
      simp [go_sem, IntWalk.iteOmega, IntWalk.toNatUp, e0, e1, e2, e3, e9, e11]
      refine W_loop (fun st5 wr5 => ∃ i : Nat, i ≤ K ∧ st5 0 = .slice A' l.length cap' ∧ st5 1 = .int .i64 K ∧ st5 2 = .slice A ds.length cap ∧ st5 3 = .slice A'' more.length cap'' ∧ st5 9 = .slice Au K cu ∧ st5 11 = .int .i64 (wsum l) ∧
        st5 14 = .slice Aw K cw ∧ st5 16 = .slice An l.length cn ∧ st5 103 = .slice Au K cu ∧ st5 104 = .int .i64 K ∧ st5 105 = .int .i64 i ∧ Below w4.heap.size w4 wr5) (fun st5 _ => K - (intOf (st5 105)).toNat) ?_ ?_
      · exact ⟨0, by omega, by simp [go_sem, e0], by simp [go_sem, e1], by simp [go_sem, e2], by simp [go_sem, e3], by simp [go_sem, e9], by simp [go_sem, e11], by simp [go_sem], by simp [go_sem], by simp [go_sem, e9], by simp [go_sem], by simp [go_sem], Below.refl _ _⟩
      clear e0 e1 e2 e3 e9 e11 e59 e60 e61
      rintro st5 wr5 ⟨i, hi, e0, e1, e2, e3, e9, e11, e14, e16, e103, e104, e105, hb5⟩
      by_cases hik : i < K
      · obtain ⟨b, o, rfl, hb, hc⟩ := hu4.rd.cells (by omega)
        obtain ⟨bb, oo, rfl, hbb, hcc⟩ := huu4.rd.cells (by omega)
        have y0 := hc _ _ (intsK_at (l := sl) (i := i) (by omega))
        have y1 := hcc _ _ (intsK_at (l := us) (i := i) (by omega))
        rw [← hb5.cell hb] at y0
        rw [← hb5.cell hbb] at y1
        rw [hslat i hik] at y0
        have hik' : (i : Int) < K := by omega
        have hxin := huin _ (getD_mem (l := us) (i := i) (by omega))
        generalize us.getD i 0 = x at *
        have hOw : ownerV l x = (ownF x l 0, 0) := by unfold ownerV; rw [if_neg (fun h => h hok), if_neg (by omega)]
        have hR : ownerR l x = .tuple #[.int .i64 (ownF x l 0), .int .i64 0] := by unfold ownerR; rw [hOw]
        generalize ownF x l 0 = ow at *
        simp [go_sem, IntWalk.iteOmega, IntWalk.toNatUp, e0, e1, e2, e3, e9, e11, e14, e16, e103, e104, e105, hik, hik', y0, y1]
        refine callE_of (Owner_any l x (by unfold InI; omega) _ wr5 (Sl_kept hl (kk4.trans (hb5.mono kk4.size))) hI) ?_
        rintro _ w6 ⟨rfl, k6⟩
        rw [hR]
        simp [go_sem, IntWalk.iteOmega, IntWalk.toNatUp, e0, e1, e2, e3, e9, e11, e14, e16, e103, e104, e105]
        refine roundEnd.mk ⟨i + 1, by omega, by simp [go_sem, e0], by simp [go_sem, e1], by simp [go_sem, e2], by simp [go_sem, e3], by simp [go_sem, e9], by simp [go_sem, e11], by simp [go_sem, e14], by simp [go_sem, e16], by simp [go_sem, e103], by simp [go_sem, e104], by simp [go_sem], ext_trans hb5 k6⟩ ?_
        simp [go_sem, intOf, e105]; omega
      obtain rfl : i = K := by omega
      have kk5 := kk4.trans (hb5.mono kk4.size)
      have hn5 := Sl_kept hun hb5
      simp [go_sem, IntWalk.iteOmega, IntWalk.toNatUp, e0, e1, e2, e3, e9, e11, e14, e16, e103, e104, e105]
      refine W_loop (fun st7 wr7 => ∃ v : Nat, v ≤ l.length ∧ st7 0 = .slice A' l.length cap' ∧ st7 1 = .int .i64 i ∧ st7 2 = .slice A ds.length cap ∧ st7 3 = .slice A'' more.length cap'' ∧ st7 9 = .slice Au i cu ∧ st7 11 = .int .i64 (wsum l) ∧
        st7 127 = .slice An l.length cn ∧ st7 128 = .int .i64 l.length ∧ st7 129 = .int .i64 v ∧ wr5 = wr7) (fun st7 _ => l.length - (intOf (st7 129)).toNat) ?_ ?_
      · exact ⟨0, by omega, by simp [go_sem, e0], by simp [go_sem, e1], by simp [go_sem, e2], by simp [go_sem, e3], by simp [go_sem, e9], by simp [go_sem, e11], by simp [go_sem, e16], by simp [go_sem], by simp [go_sem], rfl⟩
      clear e0 e1 e2 e3 e9 e11 e14 e16 e103 e104 e105
      rintro st7 wr7 ⟨v, hv, e0, e1, e2, e3, e9, e11, e127, e128, e129, rfl⟩
      by_cases hvl : v < l.length
      · obtain ⟨b, o, rfl, hb, hc⟩ := (Sl_kept hl kk5).rd.cells (by omega)
        obtain ⟨bb, oo, rfl, hbb, hcc⟩ := hn5.rd.cells (by omega)
        have y0 := hc _ _ (intsK_at hvl)
        have y1 := hcc _ _ (cnts_at sl hvl)
        have hvl' : (v : Int) < l.length := by omega
        have hle := hshare v hvl
        have hng : ¬ l.getD v 0 < cntOf v sl := by omega
        generalize l.getD v 0 = x at *
        generalize cntOf v sl = y at *
        simp [go_sem, IntWalk.iteOmega, IntWalk.toNatUp, e0, e1, e2, e3, e9, e11, e127, e128, e129, hvl, hvl', y0, y1, hng]
        refine roundEnd.mk ⟨v + 1, by omega, by simp [go_sem, e0], by simp [go_sem, e1], by simp [go_sem, e2], by simp [go_sem, e3], by simp [go_sem, e9], by simp [go_sem, e11], by simp [go_sem, e127], by simp [go_sem, e128], by simp [go_sem], rfl⟩ ?_
        simp [go_sem, intOf, e129]; omega
      obtain rfl : v = l.length := by omega
      simp [go_sem, IntWalk.iteOmega, IntWalk.toNatUp, e0, e1, e2, e3, e9, e11, e127, e128, e129]
      refine W_loop (fun st8 wr8 => ∃ (j : Nat) (out : Value), j ≤ i ∧ st8 0 = .slice A' l.length cap' ∧ st8 1 = .int .i64 i ∧ st8 2 = .slice A ds.length cap ∧ st8 3 = .slice A'' more.length cap'' ∧ st8 9 = .slice Au i cu ∧ st8 11 = .int .i64 (wsum l) ∧
        st8 24 = out ∧ st8 141 = .int .i64 i ∧ st8 142 = .int .i64 j ∧ wr8.ownsRow wr5.heap.size 37 1 out j (intsK .u64 (smallL (wsum l) ds j)) ∧ Below wr5.heap.size wr5 wr8) (fun st8 _ => i - (intOf (st8 142)).toNat) ?_ ?_
      · exact ⟨0, .slice none 0 0, by omega, by simp [go_sem, e0], by simp [go_sem, e1], by simp [go_sem, e2], by simp [go_sem, e3], by simp [go_sem, e9], by simp [go_sem, e11], by simp [go_sem], by simp [go_sem, e1], by simp [go_sem], World.ownsRow_nil _ _ _ _, Below.refl _ _⟩
      clear e0 e1 e2 e3 e9 e11 e127 e128 e129
      rintro st8 wr8 ⟨j, out, hj, e0, e1, e2, e3, e9, e11, e24, e141, e142, hout, hb8⟩
      have kk8 := kk5.trans (hb8.mono kk5.size)
      by_cases hji : j < i
      · have hji' : (j : Int) < i := by omega
        have hd := drawV_in hds j
        have hm := emod_in (d := drawV ds j) (m := wsum l - j) (by omega)
        have f0 : IntKind.i64.wrap (wsum l - j) = wsum l - j := by rw [IntKind.wrap_i64]; omega
        have f1 : IntKind.u64.wrap (wsum l - j) = wsum l - j := by rw [IntKind.wrap_u64]; omega
        have f2 : (drawV ds j).tmod (wsum l - j) = drawV ds j % (wsum l - j) := Int.tmod_eq_emod_of_nonneg hd.1
        have f3 : IntKind.u64.wrap (drawV ds j % (wsum l - j)) = drawV ds j % (wsum l - j) := by rw [IntKind.wrap_u64]; omega
        have f4 : (wsum l - (j : Int) == 0) = false := beq_eq_false_iff_ne.2 (by omega)
        have hst := smallL_succ (wsum l) ds j
        have tail : ∀ (w9 : World) (out' : Value), w9.ownsRow wr5.heap.size 37 1 out' (j + 1) (intsK .u64 (smallL (wsum l) ds j) ++ intsK .u64 [drawV ds j % (wsum l - j)]) → w9.ownsRow wr5.heap.size 37 1 out' (j + 1) (intsK .u64 (smallL (wsum l) ds (j + 1))) := fun w9 out' h => by
          have hcat : intsK .u64 (smallL (wsum l) ds j) ++ intsK .u64 [drawV ds j % (wsum l - j)] = intsK .u64 (smallL (wsum l) ds (j + 1)) := by rw [hst]; simp [intsK]
          rw [← hcat]; exact h
        by_cases hjd : j < ds.length
        · obtain ⟨b, o, rfl, hb, hc⟩ := hrd.cells (by omega)
          have y0 := hc _ _ (intsK_at hjd)
          rw [← kk8.cell hb] at y0
          have hjd' : (j : Int) < ds.length := by omega
          have hdd : ds.getD j 0 = drawV ds j := rfl
          rw [hdd] at y0
          simp [go_sem, IntWalk.iteOmega, IntWalk.toNatUp, e0, e1, e2, e3, e9, e11, e24, e141, e142, hji', hjd', hjd, y0, f0, f1, f2, f3, f4]
          generalize drawV ds j % (wsum l - j) = d at *
          have kB := ext_alloc wr8 (.cells #[.int .u64 d] 37)
          have hxb3 : Blk (wr8.alloc (.cells #[.int .u64 d] 37)) wr8.heap.size 37 #[.int .u64 d] := Blk.self_ rfl
          have hrx : Rd (wr8.alloc (.cells #[.int .u64 d] 37)) 1 (some ⟨wr8.heap.size, 0, none⟩) 1 (intsK .u64 [d]) := ⟨rfl, fun _ => ⟨_, 0, rfl, hxb3.lt, fun q u hu => by rw [hxb3.cell, Nat.zero_add, List.getElem?_toArray]; exact hu⟩⟩
          have houtB := own_below hout kB
          have hbB := hb8.trans (kB.mono hb8.size)
          generalize wr8.alloc (.cells #[.int .u64 d] 37) = w9 at *
          refine appendE wr5.heap.size 37 1 8 Try.underlying23 el37 houtB hrx rfl (by unfold maxLen; omega) (by omega) hbB.size ?_
          intro out' w10 hout10 hgr10 hblk10
          have hb10 := hbB.grown hgr10 hbB.size (fun k hk => (houtB.lt k hk).1)
          simp [go_sem, IntWalk.iteOmega, IntWalk.toNatUp, e0, e1, e2, e3, e9, e11, e141, e142]
          refine roundEnd.mk ⟨j + 1, out', by omega, by simp [go_sem, e0], by simp [go_sem, e1], by simp [go_sem, e2], by simp [go_sem, e3], by simp [go_sem, e9], by simp [go_sem, e11], by simp [go_sem], by simp [go_sem, e141], by simp [go_sem], tail _ _ hout10, hb10⟩ ?_
          simp [go_sem, intOf, e142]; omega
        · have hjd' : ¬ (j : Int) < ds.length := by omega
          have hd0 : drawV ds j = 0 := by unfold drawV; simp [List.getD, List.getElem?_eq_none (show ds.length ≤ j by omega)]
          have f5 : (0 : Int) % (wsum l - j) = 0 := Int.zero_emod _
          have f6 : (0 : Int).tmod (wsum l - j) = 0 := Int.zero_tmod _
          rw [hd0, f5] at tail
          simp [go_sem, IntWalk.iteOmega, IntWalk.toNatUp, e0, e1, e2, e3, e9, e11, e24, e141, e142, hji', hjd', f0, f1, f6, f4]
          have kB := ext_alloc wr8 (.cells #[.int .u64 0] 37)
          have hxb3 : Blk (wr8.alloc (.cells #[.int .u64 0] 37)) wr8.heap.size 37 #[.int .u64 0] := Blk.self_ rfl
          have hrx : Rd (wr8.alloc (.cells #[.int .u64 0] 37)) 1 (some ⟨wr8.heap.size, 0, none⟩) 1 (intsK .u64 [0]) := ⟨rfl, fun _ => ⟨_, 0, rfl, hxb3.lt, fun q u hu => by rw [hxb3.cell, Nat.zero_add, List.getElem?_toArray]; exact hu⟩⟩
          have houtB := own_below hout kB
          have hbB := hb8.trans (kB.mono hb8.size)
          generalize wr8.alloc (.cells #[.int .u64 0] 37) = w9 at *
          refine appendE wr5.heap.size 37 1 8 Try.underlying23 el37 houtB hrx rfl (by unfold maxLen; omega) (by omega) hbB.size ?_
          intro out' w10 hout10 hgr10 hblk10
          have hb10 := hbB.grown hgr10 hbB.size (fun k hk => (houtB.lt k hk).1)
          simp [go_sem, IntWalk.iteOmega, IntWalk.toNatUp, e0, e1, e2, e3, e9, e11, e141, e142]
          refine roundEnd.mk ⟨j + 1, out', by omega, by simp [go_sem, e0], by simp [go_sem, e1], by simp [go_sem, e2], by simp [go_sem, e3], by simp [go_sem, e9], by simp [go_sem, e11], by simp [go_sem], by simp [go_sem, e141], by simp [go_sem], tail _ _ hout10, hb10⟩ ?_
          simp [go_sem, intOf, e142]; omega
      obtain rfl : j = i := by omega
      simp [go_sem, IntWalk.iteOmega, IntWalk.toNatUp, e0, e1, e2, e3, e9, e11, e24, e141, e142]
      refine appendE wr5.heap.size 37 1 8 Try.underlying23 el37 hout ((Sl_kept hmr kk8).rd) (oneU' _ _) (by unfold maxLen; omega) (by omega) hb8.size ?_
      intro out' w10 hout10 hgr10 hblk10
      have hb10 := hb8.grown hgr10 hb8.size (fun k hk => (hout.lt k hk).1)
      have kk10 := kk5.trans (hb10.mono kk5.size)
      have hcat : intsK .u64 (smallL (wsum l) ds j) ++ intsK .u64 more = intsK .u64 (smallL (wsum l) ds j ++ more) := by simp [intsK]
      rw [hcat] at hout10
      have hll : j + more.length = (smallL (wsum l) ds j ++ more).length := by rw [List.length_append, smallL_length]
      have hs10 := (own_sl hout10).1
      rw [hll] at hs10
      simp [go_sem, IntWalk.iteOmega, IntWalk.toNatUp, e0, e1, e2, e3, e9, e11]
      have hVa : slotsV l j (smallL (wsum l) ds j ++ more) = (0, sl) := (slotsV_congr small_units).trans hV
      refine callE_of (vSlots_any l j hk _ (small_U64 hKt hut hmo) _ _ w10 (Sl_kept hl kk10) hI hs10) ?_
      rintro _ w11 ⟨⟨ua, rfl, hua⟩, k11⟩
      rw [hVa] at hua ⊢
      have kk11 := ext_trans kk10 k11
      simp [go_sem, IntWalk.iteOmega, IntWalk.toNatUp, e0, e1, e2, e3, e9, e11]
      have hu11 : Sl w11 1 (.slice Au j cu) sl.length (intsK .i64 sl) := by
        rw [hsll]
        exact Sl_kept hu4 ((hb5.trans (hb10.mono hb5.size)).trans (k11.mono (Nat.le_trans hb5.size hb10.size)))
      refine callE_of (equalI_any _ _ _ _ w11 hua hu11) ?_
      rintro _ w12 ⟨rfl, k12⟩
      rw [decide_eq_true (rfl : (0, sl).2 = sl)]
      simp [go_sem, IntWalk.iteOmega, IntWalk.toNatUp]
      exact ext_trans kk11 k12
    · have hV := slotsV_err hok he
      rw [hV] at hu hru hAu hcu1 ⊢
      have hb0 : ((unitsV (wsum l) k ds).1 != 0) = true := by simpa using he
      simp [go_sem, IntWalk.iteOmega, IntWalk.toNatUp, hb0]
      exact kk2
  · have hV := slotsV_bad k ds hok
    rw [hV] at hu hru hAu hcu1 ⊢
    simp [go_sem, IntWalk.iteOmega, IntWalk.toNatUp]
    exact kk2
end Go.Proofs.Ytmoafaaeeanofaa
