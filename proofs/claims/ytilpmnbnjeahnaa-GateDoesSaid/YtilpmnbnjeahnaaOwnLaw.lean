/-
  The law GateOwn: its walk.
-/
import Derived.Test.YtilpmnbnjeahnaaGBegun
import Derived.Test.YtilpmnbnjeahnaaOwnPlain
import Derived.Test.YtilpmnbnjeahnaaNewBad
import Derived.Test.YtilpmnbnjeahnaaGFairPlain
import Derived.Test.YtilpmnbnjeahnaaSharesLaw
namespace Go.Proofs.Ytilpmnbnjeahnaa
open Go.RowKit
set_option linter.unusedVariables false
set_option linter.unusedSimpArgs false
set_option maxRecDepth 10000
/-- an act of a script -/
structure Act4 where
  act : Int
  v : Int
  size : Int
  ticket : Int
def acts (l : List Act4) : List Value := l.flatMap fun o => [.int .i64 o.act, .int .i64 o.v, .int .i64 o.size, .int .i64 o.ticket]
theorem acts_length : ∀ l : List Act4, (acts l).length = l.length * 4
  | [] => rfl
  | o :: l => by
    have := acts_length l
    simp only [acts, List.flatMap_cons, List.length_append, List.length_cons, List.length_nil] at this ⊢
    omega
theorem acts_at : ∀ (l : List Act4) (i : Nat) (h : i < l.length), (acts l)[i * 4]? = some (.int .i64 (l[i]).act) ∧ (acts l)[i * 4 + 1]? = some (.int .i64 (l[i]).v) ∧ (acts l)[i * 4 + 2]? = some (.int .i64 (l[i]).size) ∧ (acts l)[i * 4 + 3]? = some (.int .i64 (l[i]).ticket)
  | o :: l, 0, h => ⟨rfl, rfl, rfl, rfl⟩
  | o :: l, i + 1, h => by
    have := acts_at l i (by simpa using h)
    have e : ∀ j, (acts (o :: l))[(i + 1) * 4 + j]? = (acts l)[i * 4 + j]? := fun j => by
      show ([Value.int .i64 o.act, .int .i64 o.v, .int .i64 o.size, .int .i64 o.ticket] ++ acts l)[(i + 1) * 4 + j]? = _
      rw [List.getElem?_append_right (by simp; omega)]
      congr 1
      simp; omega
    have e0 := e 0
    simp only [Nat.add_zero] at e0
    rw [e0, e 1, e 2, e 3]
    simpa using this
set_option maxHeartbeats 6400000 in
theorem own_any (c : GCfg) (l : List Int) (scr : List Act4) (v size : Int) (vl vs : Value) (w : World) (hs : Sl w 1 vl l.length (ints .i64 l)) (hsc : Sl w 4 vs scr.length (acts scr)) :
    callE Try.prog 4 #[c.val, vl, vs, .int .i64 v, .int .i64 size] w fun u w' => u = .bool true ∧ Below w.heap.size w w' := by
  have k0 := ext_alloc w (.cells #[.int .i64 c.large, .int .i64 c.each, .int .i64 c.own, .int .i64 c.many, .int .i64 c.size] 23)
  have hb0 : Blk (w.alloc (.cells #[.int .i64 c.large, .int .i64 c.each, .int .i64 c.own, .int .i64 c.many, .int .i64 c.size] 23)) w.heap.size 23 #[.int .i64 c.large, .int .i64 c.each, .int .i64 c.own, .int .i64 c.many, .int .i64 c.size] := Blk.self_ rfl
  obtain ⟨A, cap, rfl, hrd, hA, hc1, hc2⟩ := id hs
  obtain ⟨A4, cap4, rfl, hrd4, hA4, hc14, hc24⟩ := id hsc
  have hval : c.val = .agg #[.int .i64 c.large, .int .i64 c.each, .int .i64 c.own, .int .i64 c.many, .int .i64 c.size] := rfl
  rw [hval]
  refine calls_E Try.func4 rfl rfl rfl (Nat.le_of_ble_eq_true rfl) ?_
  simp [go_sem, IntWalk.iteOmega, IntWalk.toNatUp]
  refine callE_of (begun_any _) ?_
  rintro _ w1 ⟨rfl, k1⟩
  have kw := ext_trans k0 k1
  have hb1 := hb0.keep k1
  have hb1l := hb1.lt
  have hb1c := hb1.cell
  by_cases h2 : 200 < l.length
  · have h2' : (200 : Int) < l.length := by omega
    simp [go_sem, IntWalk.iteOmega, IntWalk.toNatUp, h2']
    refine callE_of (begun_any _) ?_
    rintro _ w2 ⟨rfl, k2⟩
    simp [go_sem, IntWalk.iteOmega, IntWalk.toNatUp]
    exact ext_trans kw k2
  · have h2' : ¬ (200 : Int) < l.length := by omega
    simp [go_sem, IntWalk.iteOmega, IntWalk.toNatUp, h2', hb1c]
    by_cases hok : cfgOk c ∧ okW l = true
    · obtain ⟨hc, hk⟩ := hok
      refine callE_of (new_any c l _ w1 (Sl_keep hs kw) hc hk) ?_
      rintro _ w2 ⟨g, rfl, hG, k2⟩
      have kw2 := ext_trans kw k2
      have hb2 := hb1.keep k2
      have hb2c := hb2.cell
      have hb2l := hb2.lt
      have hrs := fun k => callE_eq noinit_rshare (rshare_runs c.own v l _ w2 (Sl_keep hs kw2)) k
      by_cases hv : 0 ≤ v ∧ v < l.length
      · obtain ⟨u, rfl⟩ : ∃ u : Nat, v = u := ⟨v.toNat, by omega⟩
        have hul : u < l.length := by omega
        have hcc := hc
        unfold cfgOk at hcc
        obtain ⟨sh1, sh2⟩ := shareOf_at (own := c.own) (by omega) (by omega) hk hul
        rw [sh2] at hrs
        obtain ⟨m, hm⟩ : ∃ m, m = min scr.length 60 := ⟨_, rfl⟩
        have hm1 : m ≤ scr.length := by omega
        have hm60 : m ≤ 60 := by omega
        have fm1 : min (scr.length : Int) 60 = (m : Int) := by omega
        have fm2 : max (m : Int) 0 = m := by omega
        simp [go_sem, IntWalk.iteOmega, IntWalk.toNatUp, hrs, hb2c, fm1, fm2]
        have hB2 : w1.heap.size ≤ w2.heap.size := k2.size
        have h32 := (okW_of hk).2.1
        refine W_loop (fun s wr => ∃ (i : Nat) (S : GS), i ≤ m ∧ s 3 = .int .i64 u ∧ s 4 = .int .i64 size ∧ s 5 = .pointer (some ⟨w.heap.size, 0, none⟩) ∧ s 11 = .pointer (some ⟨g, 0, none⟩) ∧ s 13 = .int .i64 (shareOf c.own l u) ∧
          s 59 = .slice A4 m cap4 ∧ s 60 = .int .i64 (m : Int) ∧ s 61 = .int .i64 i ∧ GateIn wr w1.heap.size g S ∧ Inv c (sharesTo c.own l l.length) l.length u i S ∧ Below w1.heap.size w1 wr) (fun s _ => m - (intOf (s 61)).toNat) ?_ ?_
        · exact ⟨0, GS.new c l, by omega, by simp [go_sem], by simp [go_sem], by simp [go_sem], by simp [go_sem], by simp [go_sem], by simp [go_sem], by simp [go_sem], by simp [go_sem], hG, Inv.new hc l u, k2⟩
        · rintro s wr ⟨i, S, hi, e3, e4, e5, e11, e13, e59, e60, e61, hGS, hI, hbw⟩
          have hcb := hb1.keep hbw
          have hcbc := hcb.cell
          have hcbl := hcb.lt
          by_cases hlt : i < m
          · have hil : i < scr.length := by omega
            obtain ⟨bb, oo, rfl, hbb, hcell⟩ := hrd4.cells (by omega)
            obtain ⟨a0, a1, a2, a3⟩ := acts_at scr i hil
            have kk : Below w.heap.size w wr := ext_trans kw (hbw)
            have y0 := hcell _ _ a0
            have y1 := hcell _ _ a1
            have y2 := hcell _ _ a2
            have y3 := hcell _ _ a3
            rw [← kk.cell hbb] at y0 y1 y2 y3
            rw [← Nat.add_assoc] at y1 y2 y3
            generalize scr[i] = o at *
            have hlt' : (i : Int) < (m : Int) := by omega
            have hsize : w1.heap.size ≤ wr.heap.size := hbw.size
            have kA := ext_alloc wr (.cells #[.int .i64 o.act, .int .i64 o.v, .int .i64 o.size, .int .i64 o.ticket] 36)
            have hGA := hGS.grow kA
            have hbA : Below w1.heap.size w1 (wr.alloc (.cells #[.int .i64 o.act, .int .i64 o.v, .int .i64 o.size, .int .i64 o.ticket] 36)) := hbw.trans (kA.mono hsize)
            by_cases hd : o.act = 1
            · have hd' : (o.act == 1) = true := by simp [hd]
              simp [go_sem, IntWalk.iteOmega, IntWalk.toNatUp, e3, e4, e5, e11, e13, e59, e60, e61, hlt, hlt', y0, y1, y2, y3, hd']
              refine callE_of (leave_any w1.heap.size g S _ (Nat.le_trans hsize kA.size) hGA hI.lets o.ticket) ?_
              rintro _ w3 ⟨rfl, hG3, k3⟩
              simp [go_sem, IntWalk.iteOmega, IntWalk.toNatUp, e3, e4, e5, e11, e13, e59, e60, e61]
              refine roundEnd.mk ⟨i + 1, (S.leave o.ticket).1, by omega, by simp [go_sem, e3], by simp [go_sem, e4], by simp [go_sem, e5], by simp [go_sem, e11], by simp [go_sem, e13], by simp [go_sem, e59], by simp [go_sem, e60], by simp [go_sem], hG3, (hI.leave hc o.ticket).more, hbA.trans k3⟩ ?_
              simp [go_sem, intOf]; omega
            · have hd' : (o.act == 1) = false := by simpa using hd
              by_cases hov : o.v = u
              · have hov' : (o.v != (u : Int)) = false := by simp [hov]
                simp [go_sem, IntWalk.iteOmega, IntWalk.toNatUp, e3, e4, e5, e11, e13, e59, e60, e61, hlt, hlt', y0, y1, y2, y3, hd', hov']
                refine roundEnd.mk ⟨i + 1, S, by omega, by simp [go_sem, e3], by simp [go_sem, e4], by simp [go_sem, e5], by simp [go_sem, e11], by simp [go_sem, e13], by simp [go_sem, e59], by simp [go_sem, e60], by simp [go_sem], hGA, hI.more, hbA⟩ ?_
                simp [go_sem, intOf]; omega
              · have hov' : (o.v != (u : Int)) = true := by simpa using hov
                simp [go_sem, IntWalk.iteOmega, IntWalk.toNatUp, e3, e4, e5, e11, e13, e59, e60, e61, hlt, hlt', y0, y1, y2, y3, hd', hov']
                refine callE_of (enter_any w1.heap.size g S _ hGA (hI.fresh (by omega)).2 o.v o.size) ?_
                rintro _ w3 ⟨rfl, hG3, k3⟩
                simp [go_sem, IntWalk.iteOmega, IntWalk.toNatUp, e3, e4, e5, e11, e13, e59, e60, e61]
                refine roundEnd.mk ⟨i + 1, (S.enter o.v o.size).1, by omega, by simp [go_sem, e3], by simp [go_sem, e4], by simp [go_sem, e5], by simp [go_sem, e11], by simp [go_sem, e13], by simp [go_sem, e59], by simp [go_sem, e60], by simp [go_sem], hG3, hI.enter hc (by omega) o.v o.size hov, hbA.trans k3⟩ ?_
                simp [go_sem, intOf]; omega
          · obtain rfl : m = i := by omega
            have kk : Below w.heap.size w wr := ext_trans kw hbw
            by_cases q1 : size < 0
            · simp [go_sem, IntWalk.iteOmega, IntWalk.toNatUp, e3, e4, e5, e11, e13, e59, e60, e61, q1]
              exact kk
            · by_cases q2 : shareOf c.own l u < size
              · simp [go_sem, IntWalk.iteOmega, IntWalk.toNatUp, e3, e4, e5, e11, e13, e59, e60, e61, q1, q2]
                exact kk
              · by_cases q3 : c.size < size
                · simp [go_sem, IntWalk.iteOmega, IntWalk.toNatUp, e3, e4, e5, e11, e13, e59, e60, e61, q1, q2, q3, hcbc]
                  exact kk
                · have hgd : (sharesTo c.own l l.length).getD u 0 = shareOf c.own l (u : Nat) := by simp [sharesTo, List.getD, hul]
                  have hsle : shareOf c.own l u ≤ 1073741824 := by
                    have hp := okW_pos hk
                    have hx := okTo_at (okW_of hk).2.2 hul
                    have e : sumTo l l.length = sumW l := rfl
                    rw [e] at hx
                    rw [sh1]
                    refine Int.le_trans (Int.ediv_le_of_le_mul (by omega) ?_) (show c.own ≤ 1073741824 by omega)
                    exact Int.mul_le_mul_of_nonneg_left hx.2 (by omega)
                  have hin := hI.in_ hc hul size (by omega) (by rw [hgd]; omega) (by rw [hgd]; exact hsle) (by omega)
                  simp [go_sem, IntWalk.iteOmega, IntWalk.toNatUp, e3, e4, e5, e11, e13, e59, e60, e61, q1, q2, q3, hcbc]
                  refine callE_of (enter_any w1.heap.size g S wr hGS (hI.fresh (by omega)).2 u size) ?_
                  rintro _ w3 ⟨rfl, hG3, k3⟩
                  simp [go_sem, IntWalk.iteOmega, IntWalk.toNatUp, hin]
                  exact ext_trans kw (hbw.trans k3)
      · have hse : shareE c.own l v = 1 := by
          rw [shareE, if_neg (by simp [shareOk]; omega)]
        rw [hse] at hrs
        simp [go_sem, IntWalk.iteOmega, IntWalk.toNatUp, hrs, hb2c]
        exact kw2
    · refine callE_of (new_bad c l _ w1 (Sl_keep hs kw) hok) ?_
      rintro _ w2 ⟨e, he, rfl, k2⟩
      have kw2 := ext_trans kw k2
      have hb2 := hb1.keep k2
      have hb2c := hb2.cell
      have hrs := fun k => callE_eq noinit_rshare (rshare_runs c.own v l _ w2 (Sl_keep hs kw2)) k
      have he2 : (e != 0) = true := by simp [bne, he]
      simp [go_sem, IntWalk.iteOmega, IntWalk.toNatUp, hrs, hb2c, he, he2]
      exact kw2
end Go.Proofs.Ytilpmnbnjeahnaa
