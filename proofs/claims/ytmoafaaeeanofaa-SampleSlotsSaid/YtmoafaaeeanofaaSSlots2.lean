/-
  The document's Slots.
-/
import Derived.Test.YtmoafaaeeanofaaSSlots
namespace Go.Proofs.Ytmoafaaeeanofaa
open Go.RowKit
set_option linter.unusedVariables false
set_option linter.unusedSimpArgs false
set_option maxRecDepth 10000
set_option maxHeartbeats 6400000 in
theorem rSlots_any (l : List Int) (k : Int) (hk : -9223372036854775808 ≤ k ∧ k ≤ 9223372036854775807) (ds : List Int) (hds : U64 ds) (vl vd : Value) (w : World) (hl : Sl w 1 vl l.length (intsK .i64 l)) (hI : AllI l) (hs : Sl w 1 vd ds.length (intsK .u64 ds)) :
    callE Try.prog 13 #[vl, .int .i64 k, vd] w fun v w' => SlotsRes l k ds v w' ∧ Below w.heap.size w w' := by
  refine calls_E Try.func13 rfl rfl rfl (Nat.le_of_ble_eq_true rfl) ?_
  simp [go_sem, IntWalk.iteOmega, IntWalk.toNatUp]
  refine callE_of (rsum_any l vl w hl hI) ?_
  rintro _ w1 ⟨⟨n, b, rfl, hn⟩, k1⟩
  rcases hn with ⟨rfl, hok, rfl⟩ | ⟨rfl, hok⟩
  · have hwb := (wsum_ok hok).2
    simp [go_sem, IntWalk.iteOmega, IntWalk.toNatUp]
    refine callE_of (rUnits_any (wsum l) k (by omega) hk ds hds vd w1 (Sl_kept hs k1)) ?_
    rintro _ w2 ⟨⟨u, rfl, hu⟩, k2⟩
    have kk := ext_trans k1 k2
    by_cases he : (unitsV (wsum l) k ds).1 = 0
    · obtain ⟨hlen, hin, htot⟩ := unitsV_in he
      have hV := slotsV_ok hok he
      rw [he]
      generalize (unitsV (wsum l) k ds).2 = us at *
      obtain ⟨A, cap, rfl, hrd, hA, hc1, hc2⟩ := id hu
      simp [go_sem, IntWalk.iteOmega, IntWalk.toNatUp]
      refine W_loop (fun st wr => ∃ (i : Nat) (out : Value), i ≤ us.length ∧ st 0 = vl ∧ st 12 = out ∧ st 10 = .slice A us.length cap ∧ st 13 = .int .i64 i ∧
        wr.ownsRow w2.heap.size 3 1 out i (intsK .i64 ((us.take i).map fun u => ownF u l 0)) ∧ Below w2.heap.size w2 wr) (fun st _ => us.length - (intOf (st 13)).toNat) ?_ ?_
      · exact ⟨0, .slice none 0 0, by omega, by simp [go_sem], by simp [go_sem], by simp [go_sem], by simp [go_sem], World.ownsRow_nil _ _ _ _, Below.refl _ _⟩
      · rintro st wr ⟨i, out, hi, e0, e12, e10, e13, hout, hb2⟩
        have hbw := kk.trans (hb2.mono kk.size)
        by_cases hlt : i < us.length
        · obtain ⟨b, o, rfl, hb, hc⟩ := hrd.cells (by omega)
          have y0 := hc _ _ (intsK_at hlt)
          rw [← hb2.cell hb] at y0
          have hlt' : (i : Int) < us.length := by omega
          have htk := take_succ_at hlt
          have hxin := hin _ (getD_mem hlt)
          generalize us.getD i 0 = x at *
          simp [go_sem, IntWalk.iteOmega, IntWalk.toNatUp, e0, e12, e10, e13, hlt, hlt', y0]
          have hxI : InI x := ⟨by omega, by omega⟩
          refine callE_of (rOwner_any l x hxI vl wr (Sl_kept hl hbw) hI) ?_
          rintro _ w4 ⟨rfl, k4⟩
          have hOw : ownerV l x = (ownF x l 0, 0) := by unfold ownerV; rw [if_neg (fun h => h hok), if_neg (by omega)]
          have hR : ownerR l x = .tuple #[.int .i64 (ownF x l 0), .int .i64 0] := by unfold ownerR; rw [hOw]
          rw [hR]
          have hout4 := own_below hout k4
          have hb4 := hb2.trans (k4.mono hb2.size)
          generalize hO : ownF x l 0 = ow at *
          simp [go_sem, IntWalk.iteOmega, IntWalk.toNatUp, e0, e12, e10, e13]
          have kB := ext_alloc w4 (.cells #[.int .i64 ow] 3)
          have hxb3 : Blk (w4.alloc (.cells #[.int .i64 ow] 3)) w4.heap.size 3 #[.int .i64 ow] := Blk.self_ rfl
          have hrx : Rd (w4.alloc (.cells #[.int .i64 ow] 3)) 1 (some ⟨w4.heap.size, 0, none⟩) 1 (intsK .i64 [ow]) := ⟨rfl, fun _ => ⟨_, 0, rfl, hxb3.lt, fun q u hu => by rw [hxb3.cell, Nat.zero_add, List.getElem?_toArray]; exact hu⟩⟩
          have houtB := own_below hout4 kB
          have hbB := hb4.trans (kB.mono hb4.size)
          generalize w4.alloc (.cells #[.int .i64 ow] 3) = w5 at *
          have hbase : w2.heap.size ≤ w5.heap.size := hbB.size
          refine appendE w2.heap.size 3 1 8 Try.underlying28 el3 houtB hrx rfl (by unfold maxLen; omega) (by omega) hbase ?_
          intro out' w6 hout6 hgr6 hblk6
          have hcat : intsK .i64 ((us.take i).map fun u => ownF u l 0) ++ intsK .i64 [ow] = intsK .i64 ((us.take (i + 1)).map fun u => ownF u l 0) := by rw [htk]; simp [intsK, hO]
          rw [hcat] at hout6
          have hb6 := hbB.grown hgr6 hbase (fun k hk => (houtB.lt k hk).1)
          simp [go_sem, IntWalk.iteOmega, IntWalk.toNatUp, e0, e12, e10, e13]
          refine roundEnd.mk ⟨i + 1, out', by omega, by simp [go_sem, e0], by simp [go_sem], by simp [go_sem, e10], by simp [go_sem], hout6, hb6⟩ ?_
          simp [go_sem, intOf, e13]; omega
        · obtain rfl : i = us.length := by omega
          rw [List.take_length] at hout
          obtain ⟨hsl1, A2, c2, rfl⟩ := own_sl hout
          simp [go_sem, IntWalk.iteOmega, IntWalk.toNatUp, e0, e12, e10, e13, SlotsRes, hV]
          exact ⟨hsl1, hbw⟩
    · have hV := slotsV_err hok he
      have hb0 : ((unitsV (wsum l) k ds).1 != 0) = true := by simpa using he
      simp [go_sem, IntWalk.iteOmega, IntWalk.toNatUp, hb0, SlotsRes, hV]
      exact ⟨sl_nil _ _, kk⟩
  · simp [go_sem, IntWalk.iteOmega, IntWalk.toNatUp, SlotsRes, slotsV_bad k ds hok]
    exact ⟨sl_nil _ _, k1⟩
end Go.Proofs.Ytmoafaaeeanofaa
