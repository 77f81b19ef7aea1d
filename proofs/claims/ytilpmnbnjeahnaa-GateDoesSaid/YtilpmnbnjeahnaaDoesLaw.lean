/-
  The law GateDoes: its walk.
-/
import Derived.Test.YtilpmnbnjeahnaaGSame
import Derived.Test.YtilpmnbnjeahnaaGClone
namespace Go.Proofs.Ytilpmnbnjeahnaa
open Go.RowKit
set_option linter.unusedVariables false
set_option linter.unusedSimpArgs false
set_option maxRecDepth 10000
theorem RefIn.mono {w : World} {B B' : Nat → Prop} {n0 r : Nat} {l : List Int} {S : GS} (h : RefIn w B n0 r l S) (hB : ∀ j, B' j → B j ∨ w.heap.size ≤ j) : RefIn w B' n0 r l S := by
  obtain ⟨wv, Lv, d, h1, h2, h3, h4, hr, hw, hwB, hL, hLB, hd, hne⟩ := h
  have key : ∀ j, j < w.heap.size → ¬ B j → ¬ B' j := fun j hj h h' => by
    rcases hB j h' with q | q
    · exact h q
    · omega
  exact ⟨wv, Lv, d, h1, h2, key _ hr.lt h3, key _ hd.lt h4, hr, hw, fun j hj => key _ (hw.lt j hj).2 (hwB j hj), hL, fun j hj => key _ (hL.lt j hj).2 (hLB j hj), hd, hne⟩
theorem IF.cap {c : GCfg} {sh : List Int} {n k : Nat} {S : GS} (h : IF c sh n k S) (cp : Nat) : IF c sh n k { S with cap := cp } :=
  { cfg := h.cfg, nn := h.nn, share := h.share, free := h.free, free0 := h.free0, st := h.st, max := h.max, drops := h.drops, ent := h.ent, asc := h.asc, last := h.last, len := h.len }
def newErr (c : GCfg) : Int := if cfgOk c then 1 else 160
theorem newErr_ne (c : GCfg) : (newErr c == 0) = false := by unfold newErr; split <;> rfl
set_option maxHeartbeats 3200000 in
theorem new_badE (c : GCfg) (l : List Int) (vl : Value) (w : World) (hs : Sl w 1 vl l.length (ints .i64 l)) (hbad : ¬ (cfgOk c ∧ okW l = true)) :
    callE Try.prog 15 #[c.val, vl] w fun u w' => u = .tuple #[.pointer none, .int .i64 (newErr c)] ∧ Below w.heap.size w w' := by
  have hB0 := ext_alloc w (.cells #[.int .i64 c.large, .int .i64 c.each, .int .i64 c.own, .int .i64 c.many, .int .i64 c.size] 23)
  have hchk := check_any c (w.alloc (.cells #[.int .i64 c.large, .int .i64 c.each, .int .i64 c.own, .int .i64 c.many, .int .i64 c.size] 23))
  unfold GCfg.val at hchk ⊢
  refine calls_E Try.func15 rfl rfl rfl (Nat.le_of_ble_eq_true rfl) ?_
  simp [go_sem, IntWalk.iteOmega, IntWalk.toNatUp]
  refine callE_of hchk ?_
  rintro _ w1 ⟨rfl, hB1⟩
  have hBw1 := ext_trans hB0 hB1
  by_cases hc : cfgOk c
  · have he : cfgE c = 0 := if_pos hc
    have he' : (cfgE c == 0) = true := by rw [he]; rfl
    have hk : okW l = false := by
      cases h : okW l with
      | false => rfl
      | true => exact absurd ⟨hc, h⟩ hbad
    have hne : newErr c = 1 := if_pos hc
    have hs1 : Sl w1 1 vl l.length (ints .i64 l) := Sl_keep hs hBw1
    have hsum : ∀ k, callE Try.prog 29 #[vl] w1 k = k (.int .i64 (if okW l then sumW l else -1)) w1 := fun k => callE_eq noinit_gsum (gsum_runs l vl w1 hs1) k
    rw [hk, if_neg (by simp)] at hsum
    simp [go_sem, IntWalk.iteOmega, IntWalk.toNatUp, he, he', hsum, hne]
    exact hBw1
  · have he : cfgE c = 160 := if_neg hc
    have hne : newErr c = 160 := if_neg hc
    have he' : (cfgE c == 0) = false := by rw [he]; rfl
    simp [go_sem, IntWalk.iteOmega, IntWalk.toNatUp, he, he', hne]
    exact hBw1
set_option maxHeartbeats 3200000 in
theorem rNew_bad (c : GCfg) (l : List Int) (vl : Value) (w : World) (hs : Sl w 1 vl l.length (ints .i64 l)) (hbad : ¬ (cfgOk c ∧ okW l = true)) :
    callE Try.prog 23 #[c.val, vl] w fun u w' => u = .tuple #[.pointer none, .int .i64 (newErr c)] ∧ Below w.heap.size w w' := by
  have hB0 := ext_alloc w (.cells #[.int .i64 c.large, .int .i64 c.each, .int .i64 c.own, .int .i64 c.many, .int .i64 c.size] 23)
  have hchk := rcheck_any c (w.alloc (.cells #[.int .i64 c.large, .int .i64 c.each, .int .i64 c.own, .int .i64 c.many, .int .i64 c.size] 23))
  unfold GCfg.val at hchk ⊢
  refine calls_E Try.func23 rfl rfl rfl (Nat.le_of_ble_eq_true rfl) ?_
  simp [go_sem, IntWalk.iteOmega, IntWalk.toNatUp]
  refine callE_of hchk ?_
  rintro _ w1 ⟨rfl, hB1⟩
  have hBw1 := ext_trans hB0 hB1
  by_cases hc : cfgOk c
  · have he : cfgE c = 0 := if_pos hc
    have hk : okW l = false := by
      cases h : okW l with
      | false => rfl
      | true => exact absurd ⟨hc, h⟩ hbad
    have hne : newErr c = 1 := if_pos hc
    have hrs := fun k => callE_eq noinit_rsum (rsum_runs l vl w1 (Sl_on hs hBw1)) k
    rw [hk] at hrs
    simp [go_sem, IntWalk.iteOmega, IntWalk.toNatUp, he, hrs, hne]
    exact hBw1
  · have he : cfgE c = 160 := if_neg hc
    have hne : newErr c = 160 := if_neg hc
    simp [go_sem, IntWalk.iteOmega, IntWalk.toNatUp, he, hne]
    exact hBw1
set_option maxHeartbeats 25600000 in
theorem does_any (c : GCfg) (l : List Int) (scr : List Act4) (vl vs : Value) (w : World) (hs : Sl w 1 vl l.length (ints .i64 l)) (hsc : Sl w 4 vs scr.length (acts scr)) :
    callE Try.prog 8 #[c.val, vl, vs] w fun u w' => u = .bool true ∧ Below w.heap.size w w' := by
  have k0 := ext_alloc w (.cells #[.int .i64 c.large, .int .i64 c.each, .int .i64 c.own, .int .i64 c.many, .int .i64 c.size] 23)
  have hb0 : Blk (w.alloc (.cells #[.int .i64 c.large, .int .i64 c.each, .int .i64 c.own, .int .i64 c.many, .int .i64 c.size] 23)) w.heap.size 23 #[.int .i64 c.large, .int .i64 c.each, .int .i64 c.own, .int .i64 c.many, .int .i64 c.size] := Blk.self_ rfl
  obtain ⟨A, cap, rfl, hrd, hA, hc1, hc2⟩ := id hs
  obtain ⟨A4, cap4, rfl, hrd4, hA4, hc14, hc24⟩ := id hsc
  have hval : c.val = .agg #[.int .i64 c.large, .int .i64 c.each, .int .i64 c.own, .int .i64 c.many, .int .i64 c.size] := rfl
  have hnewb := fun w' h => new_badE c l (.slice A l.length cap) w' h
  have hrnewb := fun w' h => rNew_bad c l (.slice A l.length cap) w' h
  have hnew := fun w' h h2 h3 => new_any c l (.slice A l.length cap) w' h h2 h3
  have hrnew := fun w' h h2 h3 => rNew_any c l (.slice A l.length cap) w' h h2 h3
  rw [hval] at hnewb hrnewb hnew hrnew ⊢
  refine calls_E Try.func8 rfl rfl rfl (Nat.le_of_ble_eq_true rfl) ?_
  simp [go_sem, IntWalk.iteOmega, IntWalk.toNatUp]
  refine callE_of (begun_any _) ?_
  rintro _ w1 ⟨rfl, k1⟩
  have kw := ext_trans k0 k1
  have hb1 := hb0.keep k1
  have hb1l := hb1.lt
  have hb1c := hb1.cell
  by_cases h2 : 200 < l.length
  · have h2' : (200 : Int) < l.length := by omega
    simp [go_sem, IntWalk.iteOmega, IntWalk.toNatUp, h2']
    refine callE_of (begun_any _) ?_
    rintro _ w2 ⟨rfl, k2⟩
    simp [go_sem, IntWalk.iteOmega, IntWalk.toNatUp]
    exact ext_trans kw k2
  have h2' : ¬ (200 : Int) < l.length := by omega
  simp [go_sem, IntWalk.iteOmega, IntWalk.toNatUp, h2', hb1c]
  by_cases hok : ¬ (cfgOk c ∧ okW l = true)
  · refine callE_of (hnewb w1 (Sl_keep hs kw) hok) ?_
    rintro _ w2 ⟨rfl, k2⟩
    have hb2c := (hb1.keep k2).cell
    simp [go_sem, IntWalk.iteOmega, IntWalk.toNatUp, hb2c]
    refine callE_of (hrnewb w2 (Sl_keep hs (ext_trans kw k2)) hok) ?_
    rintro _ w3 ⟨rfl, k3⟩
    simp [go_sem, IntWalk.iteOmega, IntWalk.toNatUp]
    exact ext_trans (ext_trans kw k2) k3
  obtain ⟨hc, hk⟩ := Classical.not_not.1 hok
  refine callE_of (hnew w1 (Sl_keep hs kw) hc hk) ?_
  rintro _ w2 ⟨g, rfl, hG, k2⟩
  obtain ⟨BB, hG, hBB⟩ := F.of_in hG
  have hb2c := (hb1.keep k2).cell
  simp [go_sem, IntWalk.iteOmega, IntWalk.toNatUp, hb2c]
  refine callE_of (hrnew w2 (Sl_keep hs (ext_trans kw k2)) hc hk BB fun j hj => (hBB j hj).2) ?_
  rintro _ w2' ⟨r, rfl, hR, k2'⟩
  have hG := hG.grow k2'
  have hl2 : w1.heap.size ≤ w2.heap.size := k2.size
  have kB2 := ext_trans k2 k2'
  have hss := shares_small hc hk
  have hcc := hc
  unfold cfgOk at hcc
  obtain ⟨m, hm⟩ : ∃ m, m = min scr.length 60 := ⟨_, rfl⟩
  have hm1 : m ≤ scr.length := by omega
  have hm60 : m ≤ 60 := by omega
  have fm1 : min (scr.length : Int) 60 = (m : Int) := by omega
  have fm2 : max (m : Int) 0 = m := by omega
  have h32 := (okW_of hk).2.1
  have h1l := (okW_of hk).1
  have hsz2' := k2'.size
  simp [go_sem, IntWalk.iteOmega, IntWalk.toNatUp, fm1, fm2]
  refine W_loop (fun s wr => ∃ (i : Nat) (S : GS) (BB : Nat → Prop) (g : Nat), i ≤ m ∧ s 7 = .pointer (some ⟨g, 0, none⟩) ∧ s 9 = .pointer (some ⟨r, 0, none⟩) ∧ s 54 = .slice A4 m cap4 ∧ s 55 = .int .i64 (m : Int) ∧ s 56 = .int .i64 i ∧
    F.GateIn wr BB g S ∧ RefIn wr BB w2.heap.size r l S ∧ IF c (sharesTo c.own l l.length) l.length i S ∧ (∀ j, BB j → w1.heap.size ≤ j ∧ j < wr.heap.size) ∧ Below w1.heap.size w1 wr) (fun s _ => m - (intOf (s 56)).toNat) ?_ ?_
  · exact ⟨0, GS.new c l, BB, g, by omega, by simp [go_sem], by simp [go_sem], by simp [go_sem], by simp [go_sem], by simp [go_sem], hG, hR, IF.new hc l fun u hu => (hss u hu).1, fun j hj => ⟨(hBB j hj).1, by have := (hBB j hj).2; omega⟩, kB2⟩
  clear hG hR hBB hnewb hrnewb hnew hrnew hb2c hb1c

  rintro s wr ⟨i, S, BB, g, hi, e7, e9, e54, e55, e56, hG, hR, hI, hBB, hbw⟩
  have hsize : w1.heap.size ≤ wr.heap.size := hbw.size
  by_cases hlt : i < m
  · have hil : i < scr.length := by omega
    obtain ⟨bb, oo, rfl, hbb, hcell⟩ := hrd4.cells (by omega)
    obtain ⟨a0, a1, a2, a3⟩ := acts_at scr i hil
    have kk : Below w.heap.size w wr := ext_trans kw (hbw)
    have y0 := hcell _ _ a0
    have y1 := hcell _ _ a1
    have y2 := hcell _ _ a2
    have y3 := hcell _ _ a3
    rw [← kk.cell hbb] at y0 y1 y2 y3
    rw [← Nat.add_assoc] at y1 y2 y3
    generalize scr[i] = o at *
    have hlt' : (i : Int) < (m : Int) := by omega
    have kA := ext_alloc wr (.cells #[.int .i64 o.act, .int .i64 o.v, .int .i64 o.size, .int .i64 o.ticket] 36)
    have hoA : Blk (wr.alloc (.cells #[.int .i64 o.act, .int .i64 o.v, .int .i64 o.size, .int .i64 o.ticket] 36)) wr.heap.size 36 #[.int .i64 o.act, .int .i64 o.v, .int .i64 o.size, .int .i64 o.ticket] := Blk.self_ rfl
    have hno : ¬ BB wr.heap.size := fun h => by have := (hBB _ h).2; omega
    have hGA := hG.grow kA
    have hRA := hR.grow kA
    have hbA : Below w1.heap.size w1 (wr.alloc (.cells #[.int .i64 o.act, .int .i64 o.v, .int .i64 o.size, .int .i64 o.ticket] 36)) := hbw.trans (kA.mono hsize)
    have hsA : (wr.alloc (.cells #[.int .i64 o.act, .int .i64 o.v, .int .i64 o.size, .int .i64 o.ticket] 36)).heap.size = wr.heap.size + 1 := by simp
    simp [go_sem, IntWalk.iteOmega, IntWalk.toNatUp, e7, e9, e54, e55, e56, hlt, hlt', y0, y1, y2, y3]
    generalize wr.alloc (.cells #[.int .i64 o.act, .int .i64 o.v, .int .i64 o.size, .int .i64 o.ticket] 36) = WA at *
    clear y0 y1 y2 y3 a0 a1 a2 a3 hcell kA hbb
    have hoc := hoA.cell
    have hBBA : ∀ j, BB j → j < WA.heap.size := fun j hj => by have := (hBB j hj).2; omega
    have hB1 : ∀ j, BB j → w1.heap.size ≤ j := fun j hj => (hBB j hj).1
    refine condC_cut (fun s3 w3 => ∃ (S' : GS) (BB' : Nat → Prop) (g' : Nat), s3 7 = .pointer (some ⟨g', 0, none⟩) ∧ s3 9 = .pointer (some ⟨r, 0, none⟩) ∧ s3 54 = .slice (some ⟨bb, oo, none⟩) m cap4 ∧ s3 55 = .int .i64 (m : Int) ∧ s3 56 = .int .i64 i ∧
      F.GateIn w3 BB' g' S' ∧ RefIn w3 BB' w2.heap.size r l S' ∧ IF c (sharesTo c.own l l.length) l.length (i + 1) S' ∧ (∀ j, BB' j → w1.heap.size ≤ j ∧ j < w3.heap.size) ∧ Below w1.heap.size w1 w3) ?_ ?_
    · by_cases d0 : o.act = 0
      · have d0' : (o.act == 0) = true := by simp [d0]
        simp [go_sem, IntWalk.iteOmega, IntWalk.toNatUp, d0', e7, e9, e54, e55, e56, hoc]
        refine callE_of (F.enter_any BB g S WA hGA (hI.fresh (by omega)).2 o.v o.size) ?_
        rintro _ w3 ⟨rfl, hG3, k3⟩
        have ho3 := (Keeps.blk k3 hoA hno).cell
        have hR3 := hRA.keeps k3
        have s3 : WA.heap.size ≤ w3.heap.size := Keeps.size k3
        simp [go_sem, IntWalk.iteOmega, IntWalk.toNatUp, e7, e9, e54, e55, e56, ho3]
        refine callE_of (rEnter_any BB w2.heap.size r l w3 hR3 hI rfl hc hk (by omega) (fun j hj => by have := hBBA j hj; omega) o.v o.size) ?_
        rintro _ w4 ⟨rfl, hR4, k4, k4B⟩
        have s4 := k4.size
        simp [go_sem, IntWalk.iteOmega, IntWalk.toNatUp, e7, e9, e54, e55, e56]
        exact atCut.mk ⟨_, BB, g, by simp [go_sem, e7], by simp [go_sem, e9], by simp [go_sem, e54], by simp [go_sem, e55], by simp [go_sem, e56], hG3.keeps k4B, hR4, hI.enter hc hss (by omega) o.v o.size, fun j hj => ⟨hB1 j hj, by have := hBBA j hj; omega⟩, (hbA.trans (F.Turns.below k3 (by omega) hB1)).trans (k4.mono hl2)⟩
      · have d0' : (o.act == 0) = false := by simpa using d0
        by_cases d1 : o.act = 1
        · have d1' : (o.act == 1) = true := by simp [d1]
          simp [go_sem, IntWalk.iteOmega, IntWalk.toNatUp, d0', d1', e7, e9, e54, e55, e56, hoc]
          have hGd := hGA.grow (ext_drew WA)
          have hRd := hRA.grow (ext_drew WA)
          have hod := hoA.drew
          have hodc := hod.cell
          have hbd := hbA.drew
          have hsd : WA.drew.heap.size = WA.heap.size := sz_drew WA
          refine W_tree (.pure 0 (.pure 1 (.pure 4 (.pure 5 (.two 2 (.two 3 (.one 6 (.one 7 (.pure 8 (.done)))) 6 (.one 3 (.one 7 (.pure 8 (.done))))) 6 (.one 2 (.one 3 (.one 7 (.pure 8 (.done)))))))))) follows (by kernel_rfl) ?_
          generalize WA.drew = WD at *
          simp [go_sem, IntWalk.iteOmega, IntWalk.toNatUp, e7, e9, e54, e55, e56, hodc]
          and_intros <;>
          (refine callE_of (F.leave_any BB g S WD hGd hI.lets o.ticket) ?_
           rintro _ w3 ⟨rfl, hG3, k3⟩
           have ho3 := (Keeps.blk k3 hod hno).cell
           have hR3 := hRd.keeps k3
           have s3 : WD.heap.size ≤ w3.heap.size := Keeps.size k3
           simp [go_sem, IntWalk.iteOmega, IntWalk.toNatUp, e7, e9, e54, e55, e56, ho3]
           refine callE_of (rLeave_any BB w2.heap.size r l w3 hR3 hI (by omega) (fun j hj => by have := hBBA j hj; omega) o.ticket) ?_
           rintro _ w4 ⟨rfl, hR4, k4, k4B⟩
           have s4 := k4.size
           simp [go_sem, IntWalk.iteOmega, IntWalk.toNatUp, e7, e9, e54, e55, e56]
           exact atCut.mk ⟨_, BB, g, by simp [go_sem, e7], by simp [go_sem, e9], by simp [go_sem, e54], by simp [go_sem, e55], by simp [go_sem, e56], hG3.keeps k4B, hR4, (hI.leave hc hss o.ticket).more, fun j hj => ⟨hB1 j hj, by have := hBBA j hj; omega⟩, (hbd.trans (F.Turns.below k3 (by omega) hB1)).trans (k4.mono hl2)⟩)
        · have d1' : (o.act == 1) = false := by simpa using d1
          by_cases d2 : o.act = 2
          · have d2' : (o.act == 2) = true := by simp [d2]
            simp [go_sem, IntWalk.iteOmega, IntWalk.toNatUp, d0', d1', d2', e7, e9, e54, e55, e56, hoc]
            refine callE_of (clone_any BB g S WA hGA (by have := hI.nn; omega) (by rw [hI.share]; simp [sharesTo]; omega)) ?_
            rintro _ w3 ⟨x, cp, rfl, hX3, k3⟩
            have s3 := k3.size
            have hG3 := hGA.grow k3
            have ho3 := hoA.keep k3
            have hR3 : RefIn w3 (fun j => BB j ∨ (WA.heap.size ≤ j ∧ j < w3.heap.size)) w2.heap.size r l S := (hRA.mono (B' := fun j => BB j ∨ (WA.heap.size ≤ j ∧ j < w3.heap.size)) fun j hj => hj.imp id fun h => h.1).grow k3
            simp [go_sem, IntWalk.iteOmega, IntWalk.toNatUp, e7, e9, e54, e55, e56]
            refine callE_of (F.enter_any BB g S w3 hG3 (hI.fresh (by omega)).2 0 1) ?_
            rintro _ w4 ⟨rfl, hG4, k4⟩
            have hI4 := hI.enter hc hss (by omega) 0 1
            have s4 : w3.heap.size ≤ w4.heap.size := Keeps.size k4
            have ho4 := (Keeps.blk k4 ho3 hno)
            have ho4c := ho4.cell
            simp [go_sem, IntWalk.iteOmega, IntWalk.toNatUp, e7, e9, e54, e55, e56, ho4c]
            refine callE_of (F.leave_any BB g _ w4 hG4 hI4.lets o.ticket) ?_
            rintro _ w5 ⟨rfl, hG5, k5⟩
            have s5 : w4.heap.size ≤ w5.heap.size := Keeps.size k5
            have k45 := F.Turns.trans k4 k5
            have hX5 := hX3.keeps (Keeps.mono k45 fun j _ hj hb => by have := hBBA j hb; omega)
            have hR5 := (hR3.keeps (Keeps.mono k45 fun j _ hj hb => hj (.inl hb))).mono (B' := fun j => WA.heap.size ≤ j ∧ j < w3.heap.size) fun j hj => .inl (.inr hj)
            simp [go_sem, IntWalk.iteOmega, IntWalk.toNatUp, e7, e9, e54, e55, e56]
            exact atCut.mk ⟨{ S with cap := cp }, _, x, by simp [go_sem], by simp [go_sem, e9], by simp [go_sem, e54], by simp [go_sem, e55], by simp [go_sem, e56], hX5, hR5, (hI.cap cp).more, fun j hj => ⟨by omega, by omega⟩, (hbA.trans (k3.mono (by omega))).trans (F.Turns.below k45 (by omega) hB1)⟩
          · have d2' : (o.act == 2) = false := by simpa using d2
            simp [go_sem, IntWalk.iteOmega, IntWalk.toNatUp, d0', d1', d2', e7, e9, e54, e55, e56, hoc]
            exact atCut.mk ⟨S, BB, g, by simp [go_sem, e7], by simp [go_sem, e9], by simp [go_sem, e54], by simp [go_sem, e55], by simp [go_sem, e56], hGA, hRA, hI.more, fun j hj => ⟨hB1 j hj, hBBA j hj⟩, hbA⟩
    · clear e7 e9 e54 e55 e56 hG hR hI hBB hbw hGA hRA hbA hoA hoc hno hBBA hB1 hsA hsize
      rintro s w3 ⟨S, BB, g, e7, e9, e54, e55, e56, hG, hR, hI, hBB, hbw⟩
      simp [go_sem, IntWalk.iteOmega, IntWalk.toNatUp, e7, e9, e54, e55, e56]
      refine callE_of (same_any BB w2.heap.size w1.heap.size g r l w3 hbw.size (F.to_in hG fun j hj => (hBB j hj).1) hR hI (fun u hu => (hss u hu).2) hc (by omega)) ?_
      rintro _ w4 ⟨rfl, k4⟩
      have s4 := k4.size
      simp [go_sem, IntWalk.iteOmega, IntWalk.toNatUp, e7, e9, e54, e55, e56]
      refine roundEnd.mk ⟨i + 1, S, BB, g, by omega, by simp [go_sem, e7], by simp [go_sem, e9], by simp [go_sem, e54], by simp [go_sem, e55], by simp [go_sem], hG.grow k4, hR.grow k4, hI, fun j hj => ⟨(hBB j hj).1, by have := (hBB j hj).2; omega⟩, hbw.trans (k4.mono hbw.size)⟩ ?_
      simp [go_sem, intOf]; omega
  · obtain rfl : m = i := by omega
    simp [go_sem, IntWalk.iteOmega, IntWalk.toNatUp, e7, e9, e54, e55, e56]
    refine callE_of (same_any BB w2.heap.size w1.heap.size g r l wr hsize (F.to_in hG fun j hj => (hBB j hj).1) hR hI (fun u hu => (hss u hu).2) hc (by omega)) ?_
    rintro _ w4 ⟨rfl, k4⟩
    simp [go_sem, IntWalk.iteOmega, IntWalk.toNatUp]
    exact ext_trans kw (hbw.trans (k4.mono hsize))
end Go.Proofs.Ytilpmnbnjeahnaa
