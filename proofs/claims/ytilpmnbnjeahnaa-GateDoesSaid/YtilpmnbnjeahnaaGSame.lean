/-
  same: a gate and the reference's answer alike.
-/
import Derived.Test.YtilpmnbnjeahnaaGRef4
import Derived.Test.YtilpmnbnjeahnaaGEq
namespace Go.Proofs.Ytilpmnbnjeahnaa
open Go.RowKit
set_option linter.unusedVariables false
set_option linter.unusedSimpArgs false
set_option maxRecDepth 10000
def sameK (r : Nat) (v5 : Value) (g : Nat) (W : World) (s : Slots) (w : World) : Prop := s 0 = .pointer (some ⟨g, 0, none⟩) ∧ s 1 = .pointer (some ⟨r, 0, none⟩) ∧ s 5 = v5 ∧ s 43 = .bool false ∧ Below W.heap.size W w
variable {c : GCfg} {sh : List Int} {k : Nat} {S : GS}
set_option maxHeartbeats 12800000 in
theorem same_any (B : Nat → Prop) (n0 n1 g r : Nat) (l : List Int) (w : World) (hg1 : n1 ≤ w.heap.size) (hG : GateIn w n1 g S) (h : RefIn w B n0 r l S) (hI : IF c sh l.length k S) (hsh : ∀ u, u < l.length → sh.getD u 0 ≤ 1073741824) (hc : cfgOk c) (hk : k ≤ 1000) :
    callE Try.prog 27 #[.pointer (some ⟨g, 0, none⟩), .pointer (some ⟨r, 0, none⟩)] w fun u w' => u = .bool true ∧ Below w.heap.size w w' := by
  have hAs := hI.ascS hk
  have hfew := hAs.few
  have hnn := hI.nn
  refine calls_E Try.func27 rfl rfl rfl (Nat.le_of_ble_eq_true rfl) ?_
  simp [go_sem, IntWalk.iteOmega, IntWalk.toNatUp]
  refine callE_of (all_gate n1 g S w hg1 hG hAs) ?_
  rintro _ w1 ⟨A1, c1, A1', c1', rfl, hl1, hw1, hs1, hs1', _, k1⟩
  simp [go_sem, IntWalk.iteOmega, IntWalk.toNatUp]
  refine callE_of (told_any S A1 A1' c1 c1' _ _ w1 hl1 hw1 hs1 hs1' hfew 1048576 (by omega)) ?_
  rintro _ w2 ⟨hr2, k2⟩
  have htk : (prsG S).take 1048576 = prsG S := List.take_of_length_le (by rw [prsG_length]; omega)
  rw [htk] at hr2
  have k12 := ext_trans k1 k2
  obtain ⟨_, A2, c2, rfl⟩ := own_sl hr2
  have hpl := prsG_length S
  have hl32 : l.length ≤ 32 := by obtain ⟨_, _, _, _, _, _, _, _, _, _, q⟩ := hG; omega
  simp [go_sem, IntWalk.iteOmega, IntWalk.toNatUp]
  have kd := (ext_drew w2)
  have k2d := ext_trans k12 kd
  have hGd := hG.grow k2d
  have hlr := fun k' => callE_eq noinit_large (large_runs n1 g S w2.drew hGd) k'
  have hrl := fun k' => callE_eq noinit_rlarge (rLarge_runs B n0 r l w2.drew (h.grow k2d) hI hc hk) k'
  obtain ⟨wv, Lv, d, h1, h2, h3, h4, hr, hw, hwB, hL, hLB, hd, hne⟩ := h.grow k2d
  have hcell := hr.cell
  simp only [rcells] at hcell
  obtain ⟨_, A4, c4, rfl⟩ := own_sl hL
  have hsz : n1 ≤ w2.drew.heap.size := Nat.le_trans hg1 k2d.size
  have htl : ((prsG S).take 1).length = min 1 S.l.length := by rw [List.length_take, hpl]
  have hmin : (if (S.l.length : Int) < 1 then (S.l.length : Int) else 1) = ((min 1 S.l.length : Nat) : Int) := by
    by_cases q : S.l.length = 0
    · rw [if_pos (by omega)]; omega
    · rw [if_neg (by omega)]; omega
  have hmin2 : min 1 (S.l.length : Int) = ((min 1 S.l.length : Nat) : Int) := by omega
  refine W_cutE (sameK r (.slice A2 S.l.length c2) g w2.drew) ?_ ?_
  · refine W_tree (.pure 0 (.pure 2 (.one 1 (.one 3 (.pure 4 (.pure 5 (.pure 6 (.pure 7 (.pure 8 (.pure 9 (.pure 10 (.one 11 (.pure 12 (.pure 13 (.pure 14 (.pure 15 (.pure 16 (.pure 20 (.pure 21 (.pure 22 (.two 17 (.two 18 (.pure 19 (.one 23 (.pure 24 (.pure 25 (.pure 26 (.pure 27 (.done))))))) 23 (.pure 24 (.pure 25 (.one 18 (.pure 19 (.pure 26 (.pure 27 (.done)))))))) 23 (.pure 24 (.pure 25 (.one 17 (.one 18 (.pure 19 (.pure 26 (.pure 27 (.done))))))))))))))))))))))))))))) follows (by kernel_rfl) ?_
    generalize w2.drew = wd at *
    simp [go_sem, IntWalk.iteOmega, IntWalk.toNatUp, hlr, hrl, hcell, hpl, hmin]
    and_intros <;>
    (refine callE_of (all_gate n1 g S wd hsz hGd hAs) ?_
     rintro _ w3 ⟨A3, c3, A3', c3', rfl, hl3, hw3, hs3, hs3', _, k3⟩
     have hc3 := (hr.keep k3).cell
     simp only [rcells] at hc3
     simp [go_sem, IntWalk.iteOmega, IntWalk.toNatUp, hc3, hmin]
     and_intros <;>
     (refine callE_of (told_any S A3 A3' c3 c3' _ _ w3 hl3 hw3 hs3 hs3' hfew 1 (by omega)) ?_
      rintro _ w4 ⟨hr4, k4⟩
      obtain ⟨_, A5, c5, rfl⟩ := own_sl hr4
      rw [htl]
      have k34 := ext_trans k3 k4
      have hc4 := (hr.keep k34).cell
      simp only [rcells] at hc4
      simp [go_sem, IntWalk.iteOmega, IntWalk.toNatUp, hc4, hmin]
      exact atCut.mk ⟨by simp [go_sem], by simp [go_sem], by simp [go_sem], (by simp [go_sem, hmin2]), k34⟩))
  · rintro s w5 ⟨e0, e1, e5, e43, k5⟩
    have kw5 := ext_trans k2d k5
    have k25 := ext_trans kd k5
    have hLr := Rd.of_own (row_below hL k5)
    have hr5 := hr.keep k5
    have hc5 := hr5.cell
    simp only [rcells] at hc5
    have h2r := (Rd.of_own hr2).keep k25
    rw [hpl] at h2r
    clear hlr hrl hcell hmin hmin2 htl hr2 hl1 hw1 hs1 hs1' hr hw hL hd hGd
    simp [go_sem, IntWalk.iteOmega, IntWalk.toNatUp, e0, e1, e5, e43, hc5]
    refine W_loop (fun s wr => ∃ i : Nat, i ≤ S.l.length ∧ s 0 = .pointer (some ⟨g, 0, none⟩) ∧ s 1 = .pointer (some ⟨r, 0, none⟩) ∧ s 5 = .slice A2 S.l.length c2 ∧ s 47 = .slice A4 S.l.length c4 ∧ s 48 = .int .i64 S.l.length ∧ s 49 = .int .i64 i ∧ Below w5.heap.size w5 wr) (fun s _ => S.l.length - (intOf (s 49)).toNat) ?_ ?_
    · exact ⟨0, by omega, by simp [go_sem, e0], by simp [go_sem, e1], by simp [go_sem, e5], by simp [go_sem], by simp [go_sem], by simp [go_sem], Below.refl _ _⟩
    · clear e0 e1 e5 e43
      rintro s wr ⟨i, hi, e0, e1, e5, e47, e48, e49, kr⟩
      by_cases hlt : i < S.l.length
      · have hlt' : (i : Int) < S.l.length := by omega
        obtain ⟨b, o, rfl, hb, hcs⟩ := (hLr.keep kr).cells (by omega)
        obtain ⟨y0, y1, y2, y3⟩ := msgs_at S.l i hlt
        have x0 := hcs _ _ y0
        have x1 := hcs _ _ y1
        have x2 := hcs _ _ y2
        have x3 := hcs _ _ y3
        rw [← Nat.add_assoc] at x1 x2 x3
        have kA := ext_alloc wr (.cells #[.int .i64 (S.l[i]).1, .int .i64 (S.l[i]).2.v, .int .i64 (S.l[i]).2.large, .int .i64 (S.l[i]).2.own] 94)
        have hX := (Blk.self_ rfl : Blk (wr.alloc (.cells #[.int .i64 (S.l[i]).1, .int .i64 (S.l[i]).2.v, .int .i64 (S.l[i]).2.large, .int .i64 (S.l[i]).2.own] 94)) wr.heap.size 94 #[.int .i64 (S.l[i]).1, .int .i64 (S.l[i]).2.v, .int .i64 (S.l[i]).2.large, .int .i64 (S.l[i]).2.own])
        have kAd := kA.drew
        obtain ⟨b2, o2, rfl, hb2, hcs2⟩ := (h2r.keep (ext_trans kr kAd)).cells (by omega)
        obtain ⟨p0, p1⟩ := prs_at (prsG S) i (by omega)
        have hx : (prsG S)[i]'(by omega) = ((S.l[i]).1, ((S.l[i]).2.v : Int)) := by simp [prsG]
        rw [hx] at p0 p1
        have z0 := hcs2 _ _ p0
        have z1 := hcs2 _ _ p1
        rw [← Nat.add_assoc] at z1
        generalize S.l[i] = x at *
        have hneq := fun W => run_neq_pr (x.1, (x.2.v : Int)) W
        simp only [prV] at hneq
        have hXd := hX.drew.cell
        simp [go_sem, IntWalk.iteOmega, IntWalk.toNatUp, e0, e1, e5, e47, e48, e49, hlt, hlt', x0, x1, x2, x3]
        refine W_still follows (by kernel_rfl) ?_
        simp [go_sem, IntWalk.iteOmega, IntWalk.toNatUp, e0, e1, e5, e47, e48, e49, hlt, hlt', z0, z1, hXd, hneq]
        refine roundEnd.mk ⟨i + 1, by omega, by simp [go_sem, e0], by simp [go_sem, e1], by simp [go_sem, e5], by simp [go_sem, e47], by simp [go_sem, e48], by simp [go_sem], ext_trans kr kAd⟩ ?_
        simp [go_sem, intOf]; omega
      · obtain rfl : i = S.l.length := by omega
        have kw6 := ext_trans kw5 kr
        clear hLr hr5 hc5 h2r
        simp [go_sem, IntWalk.iteOmega, IntWalk.toNatUp, e0, e1, e5, e47, e48, e49]
        refine W_loop (fun s wr2 => ∃ j : Nat, j ≤ l.length + 2 ∧ s 0 = .pointer (some ⟨g, 0, none⟩) ∧ s 1 = .pointer (some ⟨r, 0, none⟩) ∧ s 8 = .int .i64 ((j : Int) - 1) ∧ Below wr.heap.size wr wr2) (fun s _ => (l.length + 2 - (intOf (s 8)) - 1).toNat) ?_ ?_
        · exact ⟨0, by omega, by simp [go_sem, e0], by simp [go_sem, e1], by simp [go_sem], Below.refl _ _⟩
        · clear e0 e1 e5 e47 e48 e49
          rintro s wr2 ⟨j, hj, e0, e1, e8, k6⟩
          have kw7 := ext_trans kw6 k6
          obtain ⟨wv, Lv, d, _, _, _, _, hr, hw, _⟩ := h.grow kw7
          have hcell := hr.cell
          simp only [rcells] at hcell
          obtain ⟨_, Aw, cw, rfl⟩ := own_sl hw
          obtain ⟨z, hz⟩ : ∃ z : Int, z = (j : Int) - 1 := ⟨_, rfl⟩
          rw [← hz] at e8
          by_cases hjl : z ≤ l.length
          · simp [go_sem, IntWalk.iteOmega, IntWalk.toNatUp, e0, e1, e8, hcell, hjl]
            refine callE_of (of_any n1 g S wr2 (hG.grow kw7) z) ?_
            rintro _ w8 ⟨rfl, k8⟩
            have kA8 := ext_alloc w8 (.cells #[.int .i64 (S.ofV z).1.many, .int .i64 (S.ofV z).1.large, .int .i64 (S.ofV z).1.own, .int .i64 (S.ofV z).1.drops] 44)
            have hX8 : Blk (w8.alloc (.cells #[.int .i64 (S.ofV z).1.many, .int .i64 (S.ofV z).1.large, .int .i64 (S.ofV z).1.own, .int .i64 (S.ofV z).1.drops] 44)) w8.heap.size 44 #[.int .i64 (S.ofV z).1.many, .int .i64 (S.ofV z).1.large, .int .i64 (S.ofV z).1.own, .int .i64 (S.ofV z).1.drops] := Blk.self_ rfl
            have k88 := ext_trans k8 kA8
            simp [go_sem, IntWalk.iteOmega, IntWalk.toNatUp, e0, e1, e8, GSt.val]
            refine callE_of (rOf_any B n0 r l _ (h.grow (ext_trans kw7 k88)) hI hc hk hsh z) ?_
            rintro _ w9 ⟨rfl, k9⟩
            have kA9 := ext_alloc w9 (.cells #[.int .i64 (S.ofV z).1.many, .int .i64 (S.ofV z).1.large, .int .i64 (S.ofV z).1.own, .int .i64 (S.ofV z).1.drops] 44)
            have hX9 := ((hX8.keep k9).keep kA9).cell
            have k99 := ext_trans (ext_trans k88 k9) kA9
            have hneq := fun W => run_neq_st (S.ofV z).1 W
            simp only [GSt.val] at hneq
            simp [go_sem, IntWalk.iteOmega, IntWalk.toNatUp, e0, e1, e8, GSt.val, hX9, hneq]
            refine roundEnd.mk ⟨j + 1, by omega, by simp [go_sem, e0], by simp [go_sem, e1], ?_, ext_trans k6 k99⟩ ?_
            · simp [go_sem]; omega
            · simp [go_sem, intOf]; omega
          · simp [go_sem, IntWalk.iteOmega, IntWalk.toNatUp, e0, e1, e8, hcell, hjl]
            exact kw7
theorem noinit_same : Try.prog.inits.idxOf? 27 = none := by kernel_rfl
end Go.Proofs.Ytilpmnbnjeahnaa
