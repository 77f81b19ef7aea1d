/-
  The law GateFree: its walk.
-/
import Derived.Test.YtilpmnbnjeahnaaBoundsLaw
import Derived.Test.YtilpmnbnjeahnaaFreePlain
import Derived.Test.YtilpmnbnjeahnaaGEq
namespace Go.Proofs.Ytilpmnbnjeahnaa
open Go.RowKit
set_option linter.unusedVariables false
set_option linter.unusedSimpArgs false
set_option maxRecDepth 10000
theorem info2z : (Try.prog.info? 2).map (fun i => (i.zero, i.size, i.bytes)) = some (some (.int .i64 0), 1, 8) := by kernel_rfl
/-- a row of numbers as a block -/
def iblk (l : List Int) : Array Value := (l.map (Value.int .i64)).toArray
theorem iblk_at {l : List Int} {i : Nat} (h : i < l.length) : (iblk l)[i]? = some (.int .i64 (l.getD i 0)) := by simp [iblk, List.getD, h]
theorem iblk_set (l : List Int) (i : Nat) (x : Int) : (iblk l).setIfInBounds i (.int .i64 x) = iblk (l.set i x) := by
  simp [iblk, List.map_set]
theorem iblk_rep (n : Nat) : iblk (List.replicate n 0) = Array.replicate n (.int .i64 0) := by
  apply Array.ext'
  simp [iblk, List.map_replicate]
set_option maxHeartbeats 12800000 in
theorem free_any (c : GCfg) (l : List Int) (scr : List Act4) (vl vs : Value) (w : World) (hs : Sl w 1 vl l.length (ints .i64 l)) (hsc : Sl w 4 vs scr.length (acts scr)) :
    callE Try.prog 7 #[c.val, vl, vs] w fun u w' => u = .bool true ∧ Below w.heap.size w w' := by
  have k0 := ext_alloc w (.cells #[.int .i64 c.large, .int .i64 c.each, .int .i64 c.own, .int .i64 c.many, .int .i64 c.size] 23)
  have hb0 : Blk (w.alloc (.cells #[.int .i64 c.large, .int .i64 c.each, .int .i64 c.own, .int .i64 c.many, .int .i64 c.size] 23)) w.heap.size 23 #[.int .i64 c.large, .int .i64 c.each, .int .i64 c.own, .int .i64 c.many, .int .i64 c.size] := Blk.self_ rfl
  obtain ⟨A, cap, rfl, hrd, hA, hc1, hc2⟩ := id hs
  obtain ⟨A4, cap4, rfl, hrd4, hA4, hc14, hc24⟩ := id hsc
  have hval : c.val = .agg #[.int .i64 c.large, .int .i64 c.each, .int .i64 c.own, .int .i64 c.many, .int .i64 c.size] := rfl
  rw [hval]
  refine calls_E Try.func7 rfl rfl rfl (Nat.le_of_ble_eq_true rfl) ?_
  simp [go_sem, IntWalk.iteOmega, IntWalk.toNatUp]
  refine callE_of (begun_any _) ?_
  rintro _ w1 ⟨rfl, k1⟩
  have kw := ext_trans k0 k1
  have hb1 := hb0.keep k1
  have hb1l := hb1.lt
  have hb1c := hb1.cell
  by_cases h2 : 200 < l.length
  · have h2' : (200 : Int) < l.length := by omega
    simp [go_sem, IntWalk.iteOmega, IntWalk.toNatUp, h2']
    refine callE_of (begun_any _) ?_
    rintro _ w2 ⟨rfl, k2⟩
    simp [go_sem, IntWalk.iteOmega, IntWalk.toNatUp]
    exact ext_trans kw k2
  · have h2' : ¬ (200 : Int) < l.length := by omega
    simp [go_sem, IntWalk.iteOmega, IntWalk.toNatUp, h2', hb1c]
    by_cases hok : cfgOk c ∧ okW l = true
    · obtain ⟨hc, hk⟩ := hok
      refine callE_of (new_any c l _ w1 (Sl_keep hs kw) hc hk) ?_
      rintro _ w2 ⟨g, rfl, hG, k2⟩
      obtain ⟨BB, hG, hBB⟩ := F.of_in hG
      have hss := shares_small hc hk
      have hcc := hc
      unfold cfgOk at hcc
      obtain ⟨m, hm⟩ : ∃ m, m = min scr.length 60 := ⟨_, rfl⟩
      have hm1 : m ≤ scr.length := by omega
      have hm60 : m ≤ 60 := by omega
      have fm1 : min (scr.length : Int) 60 = (m : Int) := by omega
      have fm2 : max (m : Int) 0 = m := by omega
      have h32 := (okW_of hk).2.1
      have hmk := run_make1 (W := w2) Try.underlying24 info2z rfl l.length (by omega) (by omega)
      have kD : Below w2.heap.size w2 (w2.alloc (.cells (Array.replicate l.length (.int .i64 0)) 2)) := ext_alloc _ _
      have hD0 : Blk (w2.alloc (.cells (Array.replicate l.length (.int .i64 0)) 2)) w2.heap.size 2 (iblk (dropsOf (GS.new c l) l.length)) := by
        rw [dropsOf_new, iblk_rep]; exact Blk.self_ rfl
      have hG2 := hG.grow kD
      have kB2 := k2.trans (kD.mono k2.size)
      have hl2 : w1.heap.size ≤ w2.heap.size := k2.size
      simp [go_sem, IntWalk.iteOmega, IntWalk.toNatUp, fm1, fm2, hmk]
      generalize w2.alloc (.cells (Array.replicate l.length (.int .i64 0)) 2) = w2' at *
      have hnd : ¬ BB w2.heap.size := fun h => by have := (hBB _ h).2; omega
      have hB1 : ∀ j, BB j → w1.heap.size ≤ j := fun j h => (hBB j h).1
      refine W_loop (fun s wr => ∃ (i : Nat) (S : GS), i ≤ m ∧ s 1 = .slice A l.length cap ∧ s 3 = .pointer (some ⟨w.heap.size, 0, none⟩) ∧ s 7 = .pointer (some ⟨g, 0, none⟩) ∧ s 9 = .slice (some ⟨w2.heap.size, 0, none⟩) l.length l.length ∧
        s 53 = .slice A4 m cap4 ∧ s 54 = .int .i64 (m : Int) ∧ s 55 = .int .i64 i ∧ F.GateIn wr BB g S ∧ IF c (sharesTo c.own l l.length) l.length i S ∧ Blk wr w2.heap.size 2 (iblk (dropsOf S l.length)) ∧ Below w1.heap.size w1 wr) (fun s _ => m - (intOf (s 55)).toNat) ?_ ?_
      · exact ⟨0, GS.new c l, by omega, by simp [go_sem], by simp [go_sem], by simp [go_sem], by simp [go_sem], by simp [go_sem], by simp [go_sem], by simp [go_sem], hG2, IF.new hc l fun u hu => (hss u hu).1, hD0, kB2⟩
      · rintro s wr ⟨i, S, hi, e1, e3, e7, e9, e53, e54, e55, hGS, hI, hD, hbw⟩
        have hsize : w1.heap.size ≤ wr.heap.size := hbw.size
        have hdl := hD.lt
        by_cases hlt : i < m
        · have hil : i < scr.length := by omega
          obtain ⟨bb, oo, rfl, hbb, hcell⟩ := hrd4.cells (by omega)
          obtain ⟨a0, a1, a2, a3⟩ := acts_at scr i hil
          have kk : Below w.heap.size w wr := ext_trans kw (hbw)
          have y0 := hcell _ _ a0
          have y1 := hcell _ _ a1
          have y2 := hcell _ _ a2
          have y3 := hcell _ _ a3
          rw [← kk.cell hbb] at y0 y1 y2 y3
          rw [← Nat.add_assoc] at y1 y2 y3
          generalize scr[i] = o at *
          have hlt' : (i : Int) < (m : Int) := by omega
          have kA := ext_alloc wr (.cells #[.int .i64 o.act, .int .i64 o.v, .int .i64 o.size, .int .i64 o.ticket] 36)
          have hoA : Blk (wr.alloc (.cells #[.int .i64 o.act, .int .i64 o.v, .int .i64 o.size, .int .i64 o.ticket] 36)) wr.heap.size 36 #[.int .i64 o.act, .int .i64 o.v, .int .i64 o.size, .int .i64 o.ticket] := Blk.self_ rfl
          have hno : ¬ BB wr.heap.size := fun h => by have := (hBB _ h).2; omega
          have hDA := hD.keep kA
          have hGA := hGS.grow kA
          have hbA : Below w1.heap.size w1 (wr.alloc (.cells #[.int .i64 o.act, .int .i64 o.v, .int .i64 o.size, .int .i64 o.ticket] 36)) := hbw.trans (kA.mono hsize)
          have hsA := kA.size
          by_cases hd : o.act = 1
          · have hd' : (o.act == 1) = true := by simp [hd]
            simp [go_sem, IntWalk.iteOmega, IntWalk.toNatUp, e1, e3, e7, e9, e53, e54, e55, hlt, hlt', y0, y1, y2, y3, hd']
            refine callE_of (F.leave_any BB g S _ hGA hI.lets o.ticket) ?_
            rintro _ w3 ⟨rfl, hG3, k3⟩
            simp [go_sem, IntWalk.iteOmega, IntWalk.toNatUp, e1, e3, e7, e9, e53, e54, e55]
            refine roundEnd.mk ⟨i + 1, _, by omega, by simp [go_sem, e1], by simp [go_sem, e3], by simp [go_sem, e7], by simp [go_sem, e9], by simp [go_sem, e53], by simp [go_sem, e54], by simp [go_sem], hG3, (hI.leave hc hss o.ticket).more, by rw [dropsOf_leave]; exact Keeps.blk k3 hDA hnd, hbA.trans (F.Turns.below k3 (by omega) hB1)⟩ ?_
            simp [go_sem, intOf]; omega
          · have hd' : (o.act == 1) = false := by simpa using hd
            simp [go_sem, IntWalk.iteOmega, IntWalk.toNatUp, e1, e3, e7, e9, e53, e54, e55, hlt, hlt', y0, y1, y2, y3, hd']
            refine callE_of (F.enter_any BB g S _ hGA (hI.fresh (by omega)).2 o.v o.size) ?_
            rintro _ w3 ⟨rfl, hG3, k3⟩
            have hI3 := hI.enter hc hss (by omega) o.v o.size
            have hD3 := Keeps.blk k3 hDA hnd
            have ho3 := (Keeps.blk k3 hoA hno).cell
            have hb3 := hbA.trans (F.Turns.below k3 (by omega) hB1)
            have hcase := dropsOf_enter hI o.v o.size
            generalize (S.enter o.v o.size).1 = S3 at *
            generalize (S.enter o.v o.size).2.1 = t3 at *
            generalize (S.enter o.v o.size).2.2 = r3 at *
            rcases hcase with ⟨hr, h0, hn, hdr⟩ | ⟨hr, hdr⟩
            · have hdrops := hI.drops o.v.toNat (by omega)
              obtain ⟨v, hv⟩ : ∃ v : Nat, o.v = v := ⟨o.v.toNat, by omega⟩
              rw [hv] at hdr h0 hn hdrops
              simp only [Int.toNat_natCast] at hdr hdrops
              have hvl : v < l.length := by omega
              have hD3c := hD3.cell
              have hD3f := hD3.frozen
              have hD3l := hD3.lt
              have x0 := iblk_at (l := dropsOf S l.length) (i := v) (by rw [dropsOf_length]; omega)
              rw [dropsOf_at hvl] at x0
              rw [wrap_id (by omega)] at hdr
              have hn1 : ¬ (v : Int) < 0 := by omega
              have hn2 : ¬ (l.length : Int) ≤ v := by omega
              have hD4 := Blk_set (o := v) (v := .int .i64 ((S.st v).drops + 1)) hD3
              rw [iblk_set, ← hdr] at hD4
              have hG4 : F.GateIn (w3.setCell ⟨w2.heap.size, v, none⟩ (.int .i64 ((S.st v).drops + 1))) BB g S3 := hG3.keeps (Keeps.setCell (O := BB) _ _ _ hnd)
              have hi1 : -9223372036854775808 ≤ (S.st v).drops + 1 ∧ (S.st v).drops + 1 ≤ 9223372036854775807 := by omega
              have hwr : IntKind.i64.wrap ((S.st v).drops + 1) = (S.st v).drops + 1 := wrap_id hi1
              rw [hv] at ho3
              rcases hr with rfl | rfl <;>
              · simp [go_sem, IntWalk.iteOmega, IntWalk.toNatUp, e1, e3, e7, e9, e53, e54, e55, ho3, hv, hn1, hn2, hvl, hD3c, hD3f, x0, hwr]
                refine roundEnd.mk ⟨i + 1, _, by omega, by simp [go_sem, e1], by simp [go_sem, e3], by simp [go_sem, e7], by simp [go_sem, e9], by simp [go_sem, e53], by simp [go_sem, e54], by simp [go_sem], hG4, hI3, hD4, hb3.setCell hl2 _⟩ ?_
                simp [go_sem, intOf]; omega
            · rw [← hdr] at hD3
              rcases hr with rfl | rfl <;>
              · simp [go_sem, IntWalk.iteOmega, IntWalk.toNatUp, e1, e3, e7, e9, e53, e54, e55, ho3]
                refine roundEnd.mk ⟨i + 1, _, by omega, by simp [go_sem, e1], by simp [go_sem, e3], by simp [go_sem, e7], by simp [go_sem, e9], by simp [go_sem, e53], by simp [go_sem, e54], by simp [go_sem], hG3, hI3, hD3, hb3⟩ ?_
                simp [go_sem, intOf]; omega
        · obtain rfl : m = i := by omega
          simp [go_sem, IntWalk.iteOmega, IntWalk.toNatUp, e1, e3, e7, e9, e53, e54, e55]
          have hGin := F.to_in hGS hB1
          have hAs := hI.ascS (by omega)
          refine callE_of (all_gate w1.heap.size g S wr hsize hGin hAs) ?_
          rintro _ w6 ⟨A6, c6, A6', c6', rfl, hl6, hw6, hs6, hs6', _, k6⟩
          simp [go_sem, IntWalk.iteOmega, IntWalk.toNatUp]
          refine callE_of (told_any S A6 A6' c6 c6' _ _ w6 hl6 hw6 hs6 hs6' hAs.few 1048576 (by omega)) ?_
          rintro _ w7 ⟨hr7, k7⟩
          have k67 := ext_trans k6 k7
          have htk : (prsG S).take 1048576 = prsG S := List.take_of_length_le (by rw [prsG_length]; have := hAs.few; omega)
          rw [htk] at hr7
          obtain ⟨_, A7, c7, rfl⟩ := own_sl hr7
          have hG7 := hGS.grow k67
          have hD7 := hD.keep k67
          have hb7 := hbw.trans (k67.mono hsize)
          have hs6z := k6.size
          have hpl := prsG_length S
          generalize hL : (prsG S).length = L at *
          clear hD hGin hl6 hw6 hs6 hs6' k6 k7
          have hdl7 := hD7.lt
          have hfew := hAs.few
          simp [go_sem, IntWalk.iteOmega, IntWalk.toNatUp, e1, e3, e7, e9, e53, e54, e55]
          refine W_loop (fun s wr => ∃ (i : Nat) (S2 : GS), i ≤ L ∧ s 3 = .pointer (some ⟨w.heap.size, 0, none⟩) ∧ s 7 = .pointer (some ⟨g, 0, none⟩) ∧ s 9 = .slice (some ⟨w2.heap.size, 0, none⟩) l.length l.length ∧
            s 101 = .slice A7 L c7 ∧ s 102 = .int .i64 (L : Int) ∧ s 103 = .int .i64 i ∧ F.GateIn wr BB g S2 ∧ IF c (sharesTo c.own l l.length) l.length m S2 ∧ S2.l = S.l.drop i ∧ dropsOf S2 l.length = dropsOf S l.length ∧
            Blk wr w2.heap.size 2 (iblk (dropsOf S l.length)) ∧ wr.ownsRow w6.heap.size 55 2 (.slice A7 L c7) L (prs (prsG S)) ∧ Below w1.heap.size w1 wr) (fun s _ => L - (intOf (s 103)).toNat) ?_ ?_
          · exact ⟨0, S, by omega, by simp [go_sem, e3], by simp [go_sem, e7], by simp [go_sem, e9], by simp [go_sem], by simp [go_sem], by simp [go_sem], hG7, hI, rfl, rfl, hD7, hr7, hb7⟩
          · clear e1 e3 e7 e9 e53 e54 e55
            rintro s wr3 ⟨i, S2, hi2, e3, e7, e9, e101, e102, e103, hGS2, hI2, hl2, hd2, hD2, hr2, hbw2⟩
            have hsize2 : w1.heap.size ≤ wr3.heap.size := hbw2.size
            by_cases hiL : i < L
            · have hiL' : (i : Int) < (L : Int) := by omega
              have hil : i < S.l.length := by omega
              obtain ⟨b7, o7, rfl, hb7l, hc7⟩ := (Rd.of_own hr2).cells (by omega)
              obtain ⟨p0, p1⟩ := prs_at (prsG S) i (by omega)
              have hx : (prsG S)[i]'(by omega) = ((S.l[i]).1, ((S.l[i]).2.v : Int)) := by simp [prsG]
              rw [hx] at p0 p1
              have z0 := hc7 _ _ p0
              have z1 := hc7 _ _ p1
              rw [← Nat.add_assoc] at z1
              have hcons : S2.l = S.l[i] :: S.l.drop (i + 1) := by rw [hl2]; exact List.drop_eq_getElem_cons hil
              generalize S.l[i] = x at *
              obtain ⟨f1, f2⟩ := leave_first hcons
              have hI3 := hI2.leave hc hss x.1
              have hdl3 := dropsOf_leave S2 l.length x.1
              have hnone : (S2.leave x.1).1.leave x.1 = ((S2.leave x.1).1, 4) := leave_none (by
                rw [f2]
                intro y hy
                have ha := hI2.asc
                unfold keysG at ha
                rw [hcons, List.map_cons, List.pairwise_cons] at ha
                have := ha.1 y.1 (List.mem_map.2 ⟨y, hy, rfl⟩)
                omega)
              have kA := ext_alloc wr3 (.cells #[.int .i64 x.1, .int .i64 x.2.v] 55)
              have hxA : Blk (wr3.alloc (.cells #[.int .i64 x.1, .int .i64 x.2.v] 55)) wr3.heap.size 55 #[.int .i64 x.1, .int .i64 x.2.v] := Blk.self_ rfl
              have hGA := hGS2.grow kA
              have hDA := hD2.keep kA
              have hrA := row_below hr2 kA
              have hbA := hbw2.trans (kA.mono hsize2)
              have hsA := kA.size
              have hnx : ¬ BB wr3.heap.size := fun h => by have := (hBB _ h).2; have := hD2.lt; omega
              have hn7 : ∀ j, (Value.slice (some ⟨b7, o7, none⟩) L c7).ownBlock = some j → ¬ BB j := fun j hj h => by have := (hrA.lt j hj).1; have := (hBB _ h).2; omega
              simp [go_sem, IntWalk.iteOmega, IntWalk.toNatUp, e3, e7, e9, e101, e102, e103, hiL, hiL', z0, z1]
              refine callE_of (F.leave_any BB g S2 _ hGA hI2.lets x.1) ?_
              rintro _ w8 ⟨rfl, hG8, k8⟩
              rw [f1]
              have hx8 := (Keeps.blk k8 hxA hnx).cell
              have hG8b := hG8
              generalize hS3 : (S2.leave x.1).1 = S3 at *
              simp [go_sem, IntWalk.iteOmega, IntWalk.toNatUp, e3, e7, e9, e101, e102, e103, hx8]
              refine callE_of (F.leave_any BB g S3 _ hG8 hI3.lets x.1) ?_
              rintro _ w9 ⟨rfl, hG9, k9⟩
              rw [hnone] at hG9 ⊢
              have k89 := F.Turns.trans k8 k9
              simp [go_sem, IntWalk.iteOmega, IntWalk.toNatUp, e3, e7, e9, e101, e102, e103]
              refine roundEnd.mk ⟨i + 1, S3, by omega, by simp [go_sem, e3], by simp [go_sem, e7], by simp [go_sem, e9], by simp [go_sem, e101], by simp [go_sem, e102], by simp [go_sem], hG9, hI3, f2, hdl3.trans hd2, Keeps.blk k89 hDA hnd, row_keeps hrA k89 hn7, hbA.trans (F.Turns.below k89 (by omega) hB1)⟩ ?_
              simp [go_sem, intOf]; omega
            · obtain rfl : i = L := by omega
              have hnil : S2.l = [] := by rw [hl2]; exact List.drop_of_length_le (by omega)
              have hdd : ∀ u, u < l.length → (dropsOf S l.length).getD u 0 = (S2.st u).drops := fun u hu => by rw [← hd2, dropsOf_at hu]
              have hst : ∀ u, u < l.length → S2.st u = ⟨0, 0, 0, (S2.st u).drops⟩ := fun u hu => by
                obtain ⟨t1, t2, t3⟩ := hI2.st u hu
                rw [hnil] at t1 t2 t3
                simp only [sumG] at t1 t2 t3
                generalize S2.st u = q at *
                cases q
                simp_all
              have hfr : S2.free = c.large := by rw [hI2.free, hnil]; simp [sumG]
              generalize hDL : dropsOf S l.length = DL at *
              have hDLl : DL.length = l.length := by rw [← hDL, dropsOf_length]
              simp [go_sem, IntWalk.iteOmega, IntWalk.toNatUp, e3, e7, e9, e101, e102, e103]
              refine W_loop (fun s wr => ∃ (v : Nat), v ≤ l.length ∧ s 3 = .pointer (some ⟨w.heap.size, 0, none⟩) ∧ s 7 = .pointer (some ⟨g, 0, none⟩) ∧ s 120 = .slice (some ⟨w2.heap.size, 0, none⟩) l.length l.length ∧ s 121 = .int .i64 l.length ∧ s 122 = .int .i64 v ∧
                F.GateIn wr BB g S2 ∧ Blk wr w2.heap.size 2 (iblk DL) ∧ Below w1.heap.size w1 wr) (fun s _ => l.length - (intOf (s 122)).toNat) ?_ ?_
              · exact ⟨0, by omega, by simp [go_sem, e3], by simp [go_sem, e7], by simp [go_sem, e9], by simp [go_sem, e9], by simp [go_sem], hGS2, hD2, hbw2⟩
              · clear e3 e7 e9 e101 e102 e103 hGS2 hbw2 hD2 hr2 hsize2
                rintro s wr4 ⟨v, hv, e3, e7, e120, e121, e122, hGS4, hD4, hbw4⟩
                have hsize4 : w1.heap.size ≤ wr4.heap.size := hbw4.size
                have hN2 := hI2.nn
                by_cases hvl : v < l.length
                · have hvl' : (v : Int) < l.length := by omega
                  have x0 := iblk_at (l := DL) (i := v) (by omega)
                  rw [hdd v hvl] at x0
                  have hD4c := hD4.cell
                  have hD4l := hD4.lt
                  have hof : S2.ofV v = (⟨0, 0, 0, (S2.st v).drops⟩, 0) := by rw [GS.ofV, if_pos (by omega), Int.toNat_natCast, ← hst v hvl]
                  have hneq := fun W => run_neq_st ⟨0, 0, 0, (S2.st v).drops⟩ W
                  generalize (S2.st v).drops = dv at *
                  simp only [GSt.val] at hneq
                  simp [go_sem, IntWalk.iteOmega, IntWalk.toNatUp, e3, e7, e120, e121, e122, hvl, hvl', hD4c, x0]
                  refine callE_of (of_any w1.heap.size g S2 _ (F.to_in hGS4 hB1) v) ?_
                  rintro _ w5 ⟨rfl, k5⟩
                  rw [hof]
                  have kA5 := ext_alloc w5 (.cells #[.int .i64 0, .int .i64 0, .int .i64 0, .int .i64 dv] 44)
                  have k55 := ext_trans k5 kA5
                  simp [go_sem, IntWalk.iteOmega, IntWalk.toNatUp, e3, e7, e120, e121, e122, GSt.val, hneq]
                  refine roundEnd.mk ⟨v + 1, by omega, by simp [go_sem, e3], by simp [go_sem, e7], by simp [go_sem, e120], by simp [go_sem, e121], by simp [go_sem], hGS4.grow k55, hD4.keep k55, hbw4.trans (k55.mono hsize4)⟩ ?_
                  simp [go_sem, intOf]; omega
                · obtain rfl : v = l.length := by omega
                  have hcb := hb1.keep hbw4
                  have hcd := hcb.drew.cell
                  have hcl := hcb.lt
                  have hG4 := F.to_in hGS4 hB1
                  have hGd := hG4.grow (ext_drew wr4)
                  have hlr := fun k => callE_eq noinit_large (large_runs w1.heap.size g S2 wr4.drew hGd) k
                  rw [hfr] at hlr
                  simp [go_sem, IntWalk.iteOmega, IntWalk.toNatUp, e3, e7, e120, e121, e122]
                  refine W_tree (.pure 0 (.pure 2 (.two 1 (.one 3 (.pure 4 (.pure 5 (.pure 6 (.one 7 (.one 8 (.pure 9 (.pure 10 (.pure 11 (.pure 12 (.done))))))))))) 3 (.one 1 (.pure 4 (.pure 5 (.pure 6 (.one 7 (.one 8 (.pure 9 (.pure 10 (.pure 11 (.pure 12 (.done)))))))))))))) follows (by kernel_rfl) ?_
                  simp [go_sem, IntWalk.iteOmega, IntWalk.toNatUp, e3, e7, e120, e121, e122, hcd, hlr]
                  have hAs2 := hI2.ascS (by omega)
                  have hsw : w1.heap.size ≤ wr4.drew.heap.size := by rw [sz_drew]; exact hsize4
                  have hl0 : S2.l.length = 0 := by rw [hnil]; rfl
                  and_intros <;>
                  · refine callE_of (all_gate w1.heap.size g S2 wr4.drew hsw hGd hAs2) ?_
                    rintro _ w6 ⟨A6, c6, A6', c6', rfl, hl6, hw6, hs6, hs6', _, k6⟩
                    simp [go_sem, IntWalk.iteOmega, IntWalk.toNatUp]
                    refine callE_of (told_any S2 A6 A6' c6 c6' _ _ w6 hl6 hw6 hs6 hs6' hAs2.few 9 (by omega)) ?_
                    rintro _ w7 ⟨hr7, k7⟩
                    obtain ⟨_, A7, c7, rfl⟩ := own_sl hr7
                    have k67 := ext_trans (ext_trans (ext_drew wr4) k6) k7
                    have htk : ((prsG S2).take 9).length = 0 := by rw [List.length_take, prsG_length]; omega
                    rw [htk]
                    simp [go_sem, IntWalk.iteOmega, IntWalk.toNatUp]
                    exact ext_trans kw (hbw4.trans (k67.mono hsize4))
    · refine callE_of (new_bad c l _ w1 (Sl_keep hs kw) hok) ?_
      rintro _ w2 ⟨e, he, rfl, k2⟩
      have kw2 := ext_trans kw k2
      have he2 : (e != 0) = true := by simp [bne, he]
      simp [go_sem, IntWalk.iteOmega, IntWalk.toNatUp, he, he2]
      exact kw2
end Go.Proofs.Ytilpmnbnjeahnaa
