/-
  The law GateBounds: its walk.
-/
import Derived.Test.YtilpmnbnjeahnaaGOf
import Derived.Test.YtilpmnbnjeahnaaCut
namespace Go.Proofs.Ytilpmnbnjeahnaa
open Go.RowKit
set_option linter.unusedVariables false
set_option linter.unusedSimpArgs false
set_option maxRecDepth 10000
theorem shares_small {c : GCfg} {l : List Int} (hc : cfgOk c) (hk : okW l = true) : ∀ u, u < l.length → 0 ≤ (sharesTo c.own l l.length).getD u 0 ∧ (sharesTo c.own l l.length).getD u 0 ≤ 1073741824 := by
  intro u hu
  have hgd : (sharesTo c.own l l.length).getD u 0 = shareOf c.own l (u : Nat) := by simp [sharesTo, List.getD, hu]
  have hcc := hc
  unfold cfgOk at hcc
  rw [hgd, (shareOf_at (own := c.own) (by omega) (by omega) hk hu).1]
  have hp := okW_pos hk
  have hx := okTo_at (okW_of hk).2.2 hu
  have e : sumTo l l.length = sumW l := rfl
  rw [e] at hx
  have hb := share_bounds (own := c.own) (m := sumW l) (x := l.getD u 0) (by omega) (by omega) (by omega)
  refine ⟨hb.1, ?_⟩
  refine Int.le_trans (Int.ediv_le_of_le_mul (by omega) ?_) (show c.own ≤ 1073741824 by omega)
  exact Int.mul_le_mul_of_nonneg_left hx.2 (by omega)
theorem shares_at {c : GCfg} {l : List Int} {u : Nat} (hu : u < l.length) : (sharesTo c.own l l.length).getD u 0 = shareOf c.own l (u : Nat) := by simp [sharesTo, List.getD, hu]
theorem Sl_len {w : World} {size n : Nat} {v : Value} {xs : List Value} (h : Sl w size v n xs) : ∃ A c, v = .slice A n c := by
  obtain ⟨A, c, e, _⟩ := h
  exact ⟨A, c, e⟩
set_option maxHeartbeats 12800000 in
theorem bounds_any (c : GCfg) (l : List Int) (scr : List Act4) (vl vs : Value) (w : World) (hs : Sl w 1 vl l.length (ints .i64 l)) (hsc : Sl w 4 vs scr.length (acts scr)) :
    callE Try.prog 6 #[c.val, vl, vs] w fun u w' => u = .bool true ∧ Below w.heap.size w w' := by
  have k0 := ext_alloc w (.cells #[.int .i64 c.large, .int .i64 c.each, .int .i64 c.own, .int .i64 c.many, .int .i64 c.size] 23)
  have hb0 : Blk (w.alloc (.cells #[.int .i64 c.large, .int .i64 c.each, .int .i64 c.own, .int .i64 c.many, .int .i64 c.size] 23)) w.heap.size 23 #[.int .i64 c.large, .int .i64 c.each, .int .i64 c.own, .int .i64 c.many, .int .i64 c.size] := Blk.self_ rfl
  obtain ⟨A, cap, rfl, hrd, hA, hc1, hc2⟩ := id hs
  obtain ⟨A4, cap4, rfl, hrd4, hA4, hc14, hc24⟩ := id hsc
  have hval : c.val = .agg #[.int .i64 c.large, .int .i64 c.each, .int .i64 c.own, .int .i64 c.many, .int .i64 c.size] := rfl
  rw [hval]
  refine calls_E Try.func6 rfl rfl rfl (Nat.le_of_ble_eq_true rfl) ?_
  simp [go_sem, IntWalk.iteOmega, IntWalk.toNatUp]
  refine callE_of (begun_any _) ?_
  rintro _ w1 ⟨rfl, k1⟩
  have kw := ext_trans k0 k1
  have hb1 := hb0.keep k1
  have hb1l := hb1.lt
  have hb1c := hb1.cell
  by_cases h2 : 200 < l.length
  · have h2' : (200 : Int) < l.length := by omega
    simp [go_sem, IntWalk.iteOmega, IntWalk.toNatUp, h2']
    refine callE_of (begun_any _) ?_
    rintro _ w2 ⟨rfl, k2⟩
    simp [go_sem, IntWalk.iteOmega, IntWalk.toNatUp]
    exact ext_trans kw k2
  · have h2' : ¬ (200 : Int) < l.length := by omega
    simp [go_sem, IntWalk.iteOmega, IntWalk.toNatUp, h2', hb1c]
    by_cases hok : cfgOk c ∧ okW l = true
    · obtain ⟨hc, hk⟩ := hok
      refine callE_of (new_any c l _ w1 (Sl_keep hs kw) hc hk) ?_
      rintro _ w2 ⟨g, rfl, hG, k2⟩
      have hss := shares_small hc hk
      have hcc := hc
      unfold cfgOk at hcc
      obtain ⟨m, hm⟩ : ∃ m, m = min scr.length 60 := ⟨_, rfl⟩
      have hm1 : m ≤ scr.length := by omega
      have hm60 : m ≤ 60 := by omega
      have fm1 : min (scr.length : Int) 60 = (m : Int) := by omega
      have fm2 : max (m : Int) 0 = m := by omega
      simp [go_sem, IntWalk.iteOmega, IntWalk.toNatUp, fm1, fm2]
      have h32 := (okW_of hk).2.1
      refine W_loop (fun s wr => ∃ (i : Nat) (S : GS), i ≤ m ∧ s 1 = .slice A l.length cap ∧ s 3 = .pointer (some ⟨w.heap.size, 0, none⟩) ∧ s 7 = .pointer (some ⟨g, 0, none⟩) ∧
        s 48 = .slice A4 m cap4 ∧ s 49 = .int .i64 (m : Int) ∧ s 50 = .int .i64 i ∧ GateIn wr w1.heap.size g S ∧ IF c (sharesTo c.own l l.length) l.length i S ∧ Below w1.heap.size w1 wr) (fun s _ => m - (intOf (s 50)).toNat) ?_ ?_
      · exact ⟨0, GS.new c l, by omega, by simp [go_sem], by simp [go_sem], by simp [go_sem], by simp [go_sem], by simp [go_sem], by simp [go_sem], hG, IF.new hc l fun u hu => (hss u hu).1, k2⟩
      · rintro s wr ⟨i, S, hi, e1, e3, e7, e48, e49, e50, hGS, hI, hbw⟩
        by_cases hlt : i < m
        · have hil : i < scr.length := by omega
          obtain ⟨bb, oo, rfl, hbb, hcell⟩ := hrd4.cells (by omega)
          obtain ⟨a0, a1, a2, a3⟩ := acts_at scr i hil
          have kk : Below w.heap.size w wr := ext_trans kw (hbw)
          have y0 := hcell _ _ a0
          have y1 := hcell _ _ a1
          have y2 := hcell _ _ a2
          have y3 := hcell _ _ a3
          rw [← kk.cell hbb] at y0 y1 y2 y3
          rw [← Nat.add_assoc] at y1 y2 y3
          generalize scr[i] = o at *
          have hlt' : (i : Int) < (m : Int) := by omega
          have hsize : w1.heap.size ≤ wr.heap.size := hbw.size
          have kA := ext_alloc wr (.cells #[.int .i64 o.act, .int .i64 o.v, .int .i64 o.size, .int .i64 o.ticket] 36)
          have hGA := hGS.grow kA
          have hbA : Below w1.heap.size w1 (wr.alloc (.cells #[.int .i64 o.act, .int .i64 o.v, .int .i64 o.size, .int .i64 o.ticket] 36)) := hbw.trans (kA.mono hsize)
          simp [go_sem, IntWalk.iteOmega, IntWalk.toNatUp, e1, e3, e7, e48, e49, e50, hlt, hlt', y0, y1, y2, y3]
          refine condC_cut (fun s3 w3 => ∃ S' : GS, s3 1 = .slice A l.length cap ∧ s3 3 = .pointer (some ⟨w.heap.size, 0, none⟩) ∧ s3 7 = .pointer (some ⟨g, 0, none⟩) ∧
            s3 48 = .slice (some ⟨bb, oo, none⟩) m cap4 ∧ s3 49 = .int .i64 (m : Int) ∧ s3 50 = .int .i64 i ∧ GateIn w3 w1.heap.size g S' ∧ IF c (sharesTo c.own l l.length) l.length (i + 1) S' ∧ Below w1.heap.size w1 w3) ?_ ?_
          · by_cases hd : o.act = 1
            · have hd' : (o.act == 1) = true := by simp [hd]
              simp [go_sem, IntWalk.iteOmega, IntWalk.toNatUp, hd', e1, e3, e7, e48, e49, e50]
              refine callE_of (leave_any w1.heap.size g S _ (Nat.le_trans hsize kA.size) hGA hI.lets o.ticket) ?_
              rintro _ w3 ⟨rfl, hG3, k3⟩
              simp [go_sem, IntWalk.iteOmega, IntWalk.toNatUp]
              exact atCut.mk ⟨_, by simp [go_sem, e1], by simp [go_sem, e3], by simp [go_sem, e7], by simp [go_sem, e48], by simp [go_sem, e49], by simp [go_sem, e50], hG3, (hI.leave hc hss o.ticket).more, hbA.trans k3⟩
            · have hd' : (o.act == 1) = false := by simpa using hd
              simp [go_sem, IntWalk.iteOmega, IntWalk.toNatUp, hd', e1, e3, e7, e48, e49, e50]
              refine callE_of (enter_any w1.heap.size g S _ hGA (hI.fresh (by omega)).2 o.v o.size) ?_
              rintro _ w3 ⟨rfl, hG3, k3⟩
              simp [go_sem, IntWalk.iteOmega, IntWalk.toNatUp]
              exact atCut.mk ⟨_, by simp [go_sem, e1], by simp [go_sem, e3], by simp [go_sem, e7], by simp [go_sem, e48], by simp [go_sem, e49], by simp [go_sem, e50], hG3, hI.enter hc hss (by omega) o.v o.size, hbA.trans k3⟩
          · clear e1 e3 e7 e48 e49 e50 hGS hI hbw y0 y1 y2 y3 kA hGA hbA hcell
            rintro s wr ⟨S, e1, e3, e7, e48, e49, e50, hGS, hI, hbw⟩
            simp [go_sem, IntWalk.iteOmega, IntWalk.toNatUp, e1, e3, e7, e48, e49, e50]
            have hl0 : (l.length : Int) ≤ 32 := by omega
            refine W_loop (fun s wr2 => ∃ (v : Nat), v ≤ l.length ∧ s 1 = .slice A l.length cap ∧ s 3 = .pointer (some ⟨w.heap.size, 0, none⟩) ∧ s 7 = .pointer (some ⟨g, 0, none⟩) ∧
              s 48 = .slice (some ⟨bb, oo, none⟩) m cap4 ∧ s 49 = .int .i64 (m : Int) ∧ s 50 = .int .i64 i ∧ s 11 = .int .i64 (sumN (fun u => (S.st u).large) v) ∧ s 12 = .int .i64 (sumN (fun u => (S.st u).many) v) ∧ s 68 = .int .i64 l.length ∧ s 69 = .int .i64 v ∧
              GateIn wr2 w1.heap.size g S ∧ Below w1.heap.size w1 wr2) (fun s _ => l.length - (intOf (s 69)).toNat) ?_ ?_
            · exact ⟨0, by omega, by simp [go_sem, e1], by simp [go_sem, e3], by simp [go_sem, e7], by simp [go_sem, e48], by simp [go_sem, e49], by simp [go_sem, e50], by simp [go_sem, sumN], by simp [go_sem, sumN], by simp [go_sem], by simp [go_sem], hGS, hbw⟩
            · clear e1 e3 e7 e48 e49 e50 hGS hbw
              rintro s wr2 ⟨v, hv, e1, e3, e7, e48, e49, e50, e11, e12, e68, e69, hGS, hbw⟩
              have hcb := hb1.keep hbw
              have hcbc := hcb.cell
              have hcbl := hcb.lt
              have hN := hI.nn
              obtain ⟨hall1, hall2⟩ := hI.all
              have hfree := hI.free
              have hfree0 := hI.free0
              have hlen := hI.len
              have hmono1 := sumN_mono (g := fun u => (S.st u).large) (fun u hu => (hI.bounds hu).2.1) hv (Nat.le_refl _)
              have hmono2 := sumN_mono (g := fun u => (S.st u).many) (fun u hu => (hI.bounds hu).1) hv (Nat.le_refl _)
              have hnn1 := sumN_mono (g := fun u => (S.st u).large) (fun u hu => (hI.bounds hu).2.1) (Nat.zero_le v) hv
              have hnn2 := sumN_mono (g := fun u => (S.st u).many) (fun u hu => (hI.bounds hu).1) (Nat.zero_le v) hv
              simp only [sumN] at hnn1 hnn2
              by_cases hvl : v < l.length
              · have hvl' : (v : Int) < l.length := by omega
                obtain ⟨b1, b2, b3⟩ := hI.bounds hvl
                obtain ⟨m1, m2, m3⟩ := hI.max v hvl
                rw [shares_at hvl] at m3
                have hof : S.ofV v = (S.st v, 0) := by rw [GS.ofV, if_pos (by omega)]; simp
                simp [go_sem, IntWalk.iteOmega, IntWalk.toNatUp, e1, e3, e7, e48, e49, e50, e11, e12, e68, e69, hvl, hvl']
                refine callE_of (of_any w1.heap.size g S _ hGS v) ?_
                rintro _ w4 ⟨rfl, k4⟩
                rw [hof]
                have hmono3 := sumN_mono (g := fun u => (S.st u).large) (fun u hu => (hI.bounds hu).2.1) (show v + 1 ≤ l.length by omega) (Nat.le_refl _)
                have hmono4 := sumN_mono (g := fun u => (S.st u).many) (fun u hu => (hI.bounds hu).1) (show v + 1 ≤ l.length by omega) (Nat.le_refl _)
                have es1 : sumN (fun u => (S.st u).large) (v + 1) = sumN (fun u => (S.st u).large) v + (S.st v).large := rfl
                have es2 : sumN (fun u => (S.st u).many) (v + 1) = sumN (fun u => (S.st u).many) v + (S.st v).many := rfl
                rw [es1] at hmono3
                rw [es2] at hmono4
                have kA5 := ext_alloc w4 (.cells #[.int .i64 (S.st v).many, .int .i64 (S.st v).large, .int .i64 (S.st v).own, .int .i64 (S.st v).drops] 44)
                have k5 := ext_trans k4 kA5
                have kb5 := hbw.trans (k5.mono hbw.size)
                have hG5 := hGS.grow k5
                have hc5 := (hcb.keep k5).cell
                have hrs := fun k => callE_eq noinit_rshare (rshare_runs c.own v l _ _ (Sl_keep hs (ext_trans kw kb5))) k
                obtain ⟨sh1, sh2⟩ := shareOf_at (own := c.own) (by omega) (by omega) hk hvl
                rw [sh2] at hrs
                generalize shareOf c.own l (v : Nat) = shv at *
                generalize sumN (fun u => (S.st u).large) v = sl at *
                generalize sumN (fun u => (S.st u).many) v = sm at *
                have q1 : ¬ (S.st v).many < 0 := by omega
                have q2 : ¬ c.many < (S.st v).many := by omega
                have q3 : ¬ (S.st v).large < 0 := by omega
                have q4 : ¬ c.each < (S.st v).large := by omega
                have q5 : ¬ (S.st v).own < 0 := by omega
                have q6 : ¬ shv < (S.st v).own := by omega
                simp [go_sem, IntWalk.iteOmega, IntWalk.toNatUp, e1, e3, e7, e48, e49, e50, e11, e12, e68, e69, hc5, hrs, GSt.val, q1, q2, q3, q4, q5, q6]
                refine roundEnd.mk ⟨v + 1, by omega, by simp [go_sem, e1], by simp [go_sem, e3], by simp [go_sem, e7], by simp [go_sem, e48], by simp [go_sem, e49], by simp [go_sem, e50], by simp [go_sem, es1], by simp [go_sem, es2], by simp [go_sem, e68], by simp [go_sem], hG5, kb5⟩ ?_
                simp [go_sem, intOf]; omega
              · obtain rfl : v = l.length := by omega
                rw [hall1] at e11
                rw [hall2] at e12
                simp [go_sem, IntWalk.iteOmega, IntWalk.toNatUp, e1, e3, e7, e48, e49, e50, e11, e12, e68, e69]
                have hcd := hcb.drew.cell
                have hGd := hGS.grow (ext_drew wr2)
                have hlr := fun k => callE_eq noinit_large (large_runs w1.heap.size g S wr2.drew hGd) k
                have r1 : ¬ c.large < sumG (·.large) S.l := by omega
                have r2 : (S.free != c.large - sumG (·.large) S.l) = false := by simp [hfree]
                generalize sumG (·.large) S.l = sg at *
                refine W_tree (.pure 0 (.pure 1 (.one 2 (.pure 3 (.pure 4 (.pure 5 (.pure 7 (.pure 9 (.two 6 (.one 8 (.pure 10 (.pure 11 (.pure 12 (.pure 13 (.pure 14 (.pure 15 (.one 16 (.one 17 (.pure 18 (.pure 19 (.pure 20 (.done))))))))))))) 8 (.pure 10 (.one 6 (.pure 11 (.pure 12 (.pure 13 (.pure 14 (.pure 15 (.one 16 (.one 17 (.pure 18 (.pure 19 (.pure 20 (.done)))))))))))))))))))))) follows (by kernel_rfl) ?_
                simp [go_sem, IntWalk.iteOmega, IntWalk.toNatUp, e1, e3, e7, e48, e49, e50, e11, e12, e68, e69, hcd, hlr, r1, r2]
                have hAs := hI.ascS (by omega)
                have hsw : w1.heap.size ≤ wr2.drew.heap.size := by rw [sz_drew]; exact hbw.size
                and_intros <;>
                · refine callE_of (all_gate w1.heap.size g S wr2.drew hsw hGd hAs) ?_
                  rintro _ w6 ⟨A6, c6, A6', c6', rfl, hl6, hw6, hs6, hs6', _, k6⟩
                  simp [go_sem, IntWalk.iteOmega, IntWalk.toNatUp]
                  refine callE_of (told_any S A6 A6' c6 c6' _ _ w6 hl6 hw6 hs6 hs6' hAs.few 1048576 (by omega)) ?_
                  rintro _ w7 ⟨hr7, k7⟩
                  obtain ⟨_, A7, c7, rfl⟩ := own_sl hr7
                  have k67 := ext_trans (ext_trans (ext_drew wr2) k6) k7
                  have htk : ((prsG S).take 1048576).length = S.l.length := by rw [List.length_take, prsG_length]; omega
                  rw [htk]
                  simp [go_sem, IntWalk.iteOmega, IntWalk.toNatUp, e1, e3, e7, e48, e49, e50]
                  refine roundEnd.mk ⟨i + 1, S, by omega, by simp [go_sem, e1], by simp [go_sem, e3], by simp [go_sem, e7], by simp [go_sem, e48], by simp [go_sem, e49], by simp [go_sem], hGS.grow k67, hI, hbw.trans (k67.mono hbw.size)⟩ ?_
                  simp [go_sem, intOf]; omega
        · obtain rfl : m = i := by omega
          simp [go_sem, IntWalk.iteOmega, IntWalk.toNatUp, e1, e3, e7, e48, e49, e50]
          exact ext_trans kw hbw
    · refine callE_of (new_bad c l _ w1 (Sl_keep hs kw) hok) ?_
      rintro _ w2 ⟨e, he, rfl, k2⟩
      have kw2 := ext_trans kw k2
      have he2 : (e != 0) = true := by simp [bne, he]
      simp [go_sem, IntWalk.iteOmega, IntWalk.toNatUp, he, he2]
      exact kw2
end Go.Proofs.Ytilpmnbnjeahnaa
