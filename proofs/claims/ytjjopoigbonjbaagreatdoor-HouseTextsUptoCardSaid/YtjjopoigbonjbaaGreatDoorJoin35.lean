/-
  Texts joined: HRSame, HLaw, Stru.
-/
import Derived.Test.YtjjopoigbonjbaaGreatDoorJoin34
import Derived.ChangeArms
namespace Go.Proofs.YtjjopoigbonjbaaGreatDoor.Ho
open Go Go.Proofs Go.RowKit
set_option linter.unusedVariables false
set_option linter.unusedSimpArgs false
set_option maxRecDepth 10000
set_option maxHeartbeats 3200000 in
theorem rsame_any (a b : Rep) (oka : ∀ s ∈ a.stands, s.OK) (okb : ∀ s ∈ b.stands, s.OK) (ea sa eb sb : Value) (w : World)
    (hea : Sl w 1 ea a.errs.length (ints a.errs)) (hsa : Sl w 69 sa a.stands.length (stands a.stands)) (heb : Sl w 1 eb b.errs.length (ints b.errs)) (hsb : Sl w 69 sb b.stands.length (stands b.stands)) :
    callE Tryz.prog 8 #[.agg (repCells a ea sa), .agg (repCells b eb sb)] w fun u w' => u = .bool (decide (a = b)) ∧ Below w.heap.size w w' := by
  obtain ⟨EA, eca, rfl, hra, -, hm1, hm2⟩ := hea
  obtain ⟨EB, ecb, rfl, hrb, -, hm3, hm4⟩ := heb
  obtain ⟨SA, sca, rfl, hta, -, hm5, hm6⟩ := hsa
  obtain ⟨SB, scb, rfl, htb, -, hm7, hm8⟩ := hsb
  have hmx : a.errs.length ≤ 9223372036854775807 := Nat.le_trans hm1 hm2
  have hmy : a.stands.length ≤ 9223372036854775807 := Nat.le_trans hm5 hm6
  refine calls_E Tryz.func8 rfl rfl rfl (Nat.le_of_ble_eq_true rfl) ?_
  unfold repCells
  have kE : ∀ A B : Array Value, Below w.heap.size w ((w.alloc (.cells A 27)).alloc (.cells B 27)) := fun A B => ext_trans (ext_alloc _ _) (ext_alloc _ _)
  by_cases h0 : StatEq a b
  case neg =>
    have hne : a ≠ b := fun h => h0 (by rw [h]; exact ⟨rfl, rfl, rfl, rfl, rfl, rfl, rfl⟩)
    have hst : ∀ w, (binOp .neq 25 (.agg #[.int .i64 a.sent, .int .i64 a.forged, .int .i64 a.delivered, .int .i64 a.refused, .int .i64 a.lost, .int .i64 a.dropped, .int .i64 a.doubled]) (.agg #[.int .i64 b.sent, .int .i64 b.forged, .int .i64 b.delivered, .int .i64 b.refused, .int .i64 b.lost, .int .i64 b.dropped, .int .i64 b.doubled])).run Tryz.prog w = .ok (.bool true) w := fun w => by
      have := (wide_bin (w := w) fl_stat (stat_eq a b)).1
      rw [decide_eq_false h0] at this
      exact this
    simp [go_sem, IntWalk.iteOmega, IntWalk.toNatUp, hst]
    exact ⟨hne, kE _ _⟩
  have hst : ∀ w, (binOp .neq 25 (.agg #[.int .i64 a.sent, .int .i64 a.forged, .int .i64 a.delivered, .int .i64 a.refused, .int .i64 a.lost, .int .i64 a.dropped, .int .i64 a.doubled]) (.agg #[.int .i64 b.sent, .int .i64 b.forged, .int .i64 b.delivered, .int .i64 b.refused, .int .i64 b.lost, .int .i64 b.dropped, .int .i64 b.doubled])).run Tryz.prog w = .ok (.bool false) w := fun w => by
    have := (wide_bin (w := w) fl_stat (stat_eq a b)).1
    rw [decide_eq_true h0] at this
    exact this
  by_cases h1 : a.flight = b.flight
  case neg =>
    have hne : a ≠ b := fun h => h1 (by rw [h])
    have g1 : (a.flight != b.flight) = true := by simp [h1]
    simp [go_sem, IntWalk.iteOmega, IntWalk.toNatUp, hst, g1]
    exact ⟨hne, kE _ _⟩
  have g1 : (a.flight != b.flight) = false := by simp [h1]
  by_cases h2 : a.facts = b.facts
  case neg =>
    have hne : a ≠ b := fun h => h2 (by rw [h])
    have g2 : (a.facts != b.facts) = true := by simp [h2]
    simp [go_sem, IntWalk.iteOmega, IntWalk.toNatUp, hst, g1, g2]
    exact ⟨hne, kE _ _⟩
  have g2 : (a.facts != b.facts) = false := by simp [h2]
  by_cases h3 : a.agree = b.agree
  case neg =>
    have hne : a ≠ b := fun h => h3 (by rw [h])
    have g3 : (a.agree == b.agree) = false := by simp [h3]
    simp [go_sem, IntWalk.iteOmega, IntWalk.toNatUp, hst, g1, g2, g3]
    exact ⟨hne, kE _ _⟩
  have g3 : (a.agree == b.agree) = true := by simp [h3]
  by_cases h4 : a.share = b.share
  case neg =>
    have hne : a ≠ b := fun h => h4 (by rw [h])
    have g4 : (a.share == b.share) = false := by simp [h4]
    simp [go_sem, IntWalk.iteOmega, IntWalk.toNatUp, hst, g1, g2, g3, g4]
    exact ⟨hne, kE _ _⟩
  have g4 : (a.share == b.share) = true := by simp [h4]
  by_cases h5 : a.noFlip = b.noFlip
  case neg =>
    have hne : a ≠ b := fun h => h5 (by rw [h])
    have g5 : (a.noFlip == b.noFlip) = false := by simp [h5]
    simp [go_sem, IntWalk.iteOmega, IntWalk.toNatUp, hst, g1, g2, g3, g4, g5]
    exact ⟨hne, kE _ _⟩
  have g5 : (a.noFlip == b.noFlip) = true := by simp [h5]
  by_cases h6 : a.boots = b.boots
  case neg =>
    have hne : a ≠ b := fun h => h6 (by rw [h])
    have g6 : (a.boots == b.boots) = false := by simp [h6]
    simp [go_sem, IntWalk.iteOmega, IntWalk.toNatUp, hst, g1, g2, g3, g4, g5, g6]
    exact ⟨hne, kE _ _⟩
  have g6 : (a.boots == b.boots) = true := by simp [h6]
  by_cases h7 : a.errs.length = b.errs.length
  case neg =>
    have hne : a ≠ b := fun h => h7 (by rw [h])
    have g7 : ((a.errs.length : Int) != b.errs.length) = true := by simp; omega
    simp [go_sem, IntWalk.iteOmega, IntWalk.toNatUp, hst, g1, g2, g3, g4, g5, g6, g7]
    exact ⟨hne, kE _ _⟩
  have g7 : ((a.errs.length : Int) != b.errs.length) = false := by simp [h7]
  by_cases h8 : a.stands.length = b.stands.length
  case neg =>
    have hne : a ≠ b := fun h => h8 (by rw [h])
    have g8 : ((a.stands.length : Int) != b.stands.length) = true := by simp; omega
    simp [go_sem, IntWalk.iteOmega, IntWalk.toNatUp, hst, g1, g2, g3, g4, g5, g6, g7, g8]
    exact ⟨hne, kE _ _⟩
  have g8 : ((a.stands.length : Int) != b.stands.length) = false := by simp [h8]
  simp [go_sem, IntWalk.iteOmega, IntWalk.toNatUp, hst, g1, g2, g3, g4, g5, g6, g7, g8]
  generalize hA : (#[.slice EA a.errs.length eca, .slice SA a.stands.length sca, .int .i64 a.sent, .int .i64 a.forged, .int .i64 a.delivered, .int .i64 a.refused, .int .i64 a.lost, .int .i64 a.dropped, .int .i64 a.doubled, .int .i64 a.flight, .int .i64 a.facts, .bool a.agree, .bool a.share, .bool a.noFlip, .bool a.boots] : Array Value) = CA
  generalize hC : (#[.slice EB b.errs.length ecb, .slice SB b.stands.length scb, .int .i64 b.sent, .int .i64 b.forged, .int .i64 b.delivered, .int .i64 b.refused, .int .i64 b.lost, .int .i64 b.dropped, .int .i64 b.doubled, .int .i64 b.flight, .int .i64 b.facts, .bool b.agree, .bool b.share, .bool b.noFlip, .bool b.boots] : Array Value) = CB
  obtain ⟨W, hW⟩ : ∃ W, (w.alloc (.cells CA 27)).alloc (.cells CB 27) = W := ⟨_, rfl⟩
  rw [hW]
  obtain ⟨n0, n1, kW, sW⟩ := news2 hW.symm
  refine W_loop (fun s wr => ∃ i : Nat, i ≤ a.errs.length ∧ s 2 = .pointer (some ⟨w.heap.size, 0, none⟩) ∧ s 3 = .pointer (some ⟨w.heap.size + 1, 0, none⟩) ∧ s 5 = .int .i64 i ∧ a.errs.take i = b.errs.take i ∧ Below W.heap.size W wr) (fun s _ => a.errs.length - (intOf (s 5)).toNat) ?_ ?_
  · exact ⟨0, by omega, by simp [go_sem], by simp [go_sem], by simp [go_sem], rfl, Below.refl _ _⟩
  · rintro s wr ⟨i, hi, e2, e3, e5, ht, hB⟩
    have kB : Below w.heap.size w wr := ext_trans kW hB
    have p1 := n0.keep hB
    have q1 := n1.keep hB
    have x1 : wr.cell? ⟨w.heap.size, 0, none⟩ = some (.slice EA a.errs.length eca) := by rw [p1.cell, ← hA]; rfl
    have y1 : wr.cell? ⟨w.heap.size + 1, 0, none⟩ = some (.slice EB b.errs.length ecb) := by rw [q1.cell, ← hC]; rfl
    by_cases hlt : i < a.errs.length
    · have hlt' : (i : Int) < a.errs.length := by omega
      have hlb : i < b.errs.length := by omega
      have hlb' : (i : Int) < b.errs.length := by omega
      obtain ⟨g, o, rfl, hg, hc⟩ := hra.cells (by omega)
      obtain ⟨g', o', rfl, hg', hc'⟩ := hrb.cells (by omega)
      have hgl : g < wr.heap.size := by have := kB.size; omega
      have hgl' : g' < wr.heap.size := by have := kB.size; omega
      have z0 := hc i (.int .i64 (a.errs[i])) (by simp [ints, List.getElem?_eq_getElem hlt])
      have z1 := hc' i (.int .i64 (b.errs[i])) (by simp [ints, List.getElem?_eq_getElem hlb])
      rw [← kB.cell (p := ⟨g, o + i, none⟩) hg] at z0
      rw [← kB.cell (p := ⟨g', o' + i, none⟩) hg'] at z1
      have htk := take_eq hlt hlb ht
      have hne := ne_of_at hlt hlb
      generalize a.errs[i] = p at *
      generalize b.errs[i] = q at *
      have x1' : wr.drew.cell? ⟨w.heap.size, 0, none⟩ = some (.slice (some ⟨g, o, none⟩) a.errs.length eca) := x1
      have y1' : wr.drew.cell? ⟨w.heap.size + 1, 0, none⟩ = some (.slice (some ⟨g', o', none⟩) b.errs.length ecb) := y1
      have z0' : wr.drew.cell? ⟨g, o + i, none⟩ = some (.int .i64 p) := z0
      have z1' : wr.drew.cell? ⟨g', o' + i, none⟩ = some (.int .i64 q) := z1
      simp [go_sem, IntWalk.iteOmega, IntWalk.toNatUp, e2, e3, e5, x1, hlt']
      refine W_still follows (by kernel_rfl) ?_
      by_cases hpq : p = q
      · have hb1 : (p != q) = false := by simp [hpq]
        simp [go_sem, IntWalk.iteOmega, IntWalk.toNatUp, e2, e3, e5, x1, x1', y1', hlt', hlt, hlb, hlb', z0', z1', hgl, hgl', hb1]
        refine roundEnd.mk ⟨i + 1, by omega, by simp [go_sem, e2], by simp [go_sem, e3], by simp [go_sem], htk.2 hpq, hB.drew⟩ ?_
        simp [go_sem, intOf]; omega
      · have hb1 : (p != q) = true := by simp [hpq]
        simp [go_sem, IntWalk.iteOmega, IntWalk.toNatUp, e2, e3, e5, x1, x1', y1', hlt', hlt, hlb, hlb', z0', z1', hgl, hgl', hb1]
        exact ⟨fun h => hne hpq (by rw [h]), kB.drew⟩
    · obtain rfl : i = a.errs.length := by omega
      have hl5 : a.errs = b.errs := by rw [← List.take_length (l := a.errs), ht, h7, List.take_length]
      simp [go_sem, IntWalk.iteOmega, IntWalk.toNatUp, e2, e3, e5, x1]
      clear hlt hi
      refine W_loop (fun s wr => ∃ i : Nat, i ≤ a.stands.length ∧ s 2 = .pointer (some ⟨w.heap.size, 0, none⟩) ∧ s 3 = .pointer (some ⟨w.heap.size + 1, 0, none⟩) ∧ s 6 = .int .i64 i ∧ a.stands.take i = b.stands.take i ∧ Below W.heap.size W wr) (fun s _ => a.stands.length - (intOf (s 6)).toNat) ?_ ?_
      · exact ⟨0, by omega, by simp [go_sem, e2], by simp [go_sem, e3], by simp [go_sem], rfl, hB⟩
      · clear e2 e3 e5 ht hB kB p1 q1 x1 y1
        rintro s wr ⟨i, hi, e2, e3, e5, ht, hB⟩
        have kB : Below w.heap.size w wr := ext_trans kW hB
        have p1 := n0.keep hB
        have q1 := n1.keep hB
        have x1 : wr.cell? ⟨w.heap.size, 1, none⟩ = some (.slice SA a.stands.length sca) := by rw [p1.cell, ← hA]; rfl
        have y1 : wr.cell? ⟨w.heap.size + 1, 1, none⟩ = some (.slice SB b.stands.length scb) := by rw [q1.cell, ← hC]; rfl
        by_cases hlt : i < a.stands.length
        · have hlt' : (i : Int) < a.stands.length := by omega
          have hlb : i < b.stands.length := by omega
          have hlb' : (i : Int) < b.stands.length := by omega
          obtain ⟨g, o, rfl, hg, hc⟩ := hta.cells (by omega)
          obtain ⟨g', o', rfl, hg', hc'⟩ := htb.cells (by omega)
          have hgl : g < wr.heap.size := by have := kB.size; omega
          have hgl' : g' < wr.heap.size := by have := kB.size; omega
          have z0' := stand_cells' oka hlt hc kB.drew hg
          have z1' := stand_cells' okb hlb hc' kB.drew hg'
          have fp := oka _ (List.getElem_mem hlt)
          have fq := okb _ (List.getElem_mem hlb)
          have htk := take_eq hlt hlb ht
          have hne := ne_of_at hlt hlb
          generalize a.stands[i] = p at *
          generalize b.stands[i] = q at *
          have x1' : wr.drew.cell? ⟨w.heap.size, 1, none⟩ = some (.slice (some ⟨g, o, none⟩) a.stands.length sca) := x1
          have y1' : wr.drew.cell? ⟨w.heap.size + 1, 1, none⟩ = some (.slice (some ⟨g', o', none⟩) b.stands.length scb) := y1
          have hbin := fun w => (wide_bin (w := w) fl_stand (std_eq' fp fq)).1
          simp [go_sem, IntWalk.iteOmega, IntWalk.toNatUp, e2, e3, e5, x1, hlt']
          refine W_still follows (by kernel_rfl) ?_
          by_cases hpq : p = q
          · rw [decide_eq_true hpq] at hbin
            simp [go_sem, IntWalk.iteOmega, IntWalk.toNatUp, e2, e3, e5, x1, x1', y1', hlt', hlt, hlb, hlb', z0', z1', hgl, hgl', hbin]
            refine roundEnd.mk ⟨i + 1, by omega, by simp [go_sem, e2], by simp [go_sem, e3], by simp [go_sem], htk.2 hpq, hB.drew⟩ ?_
            simp [go_sem, intOf]; omega
          · rw [decide_eq_false hpq] at hbin
            simp [go_sem, IntWalk.iteOmega, IntWalk.toNatUp, e2, e3, e5, x1, x1', y1', hlt', hlt, hlb, hlb', z0', z1', hgl, hgl', hbin]
            exact ⟨fun h => hne hpq (by rw [h]), kB.drew⟩
        · obtain rfl : i = a.stands.length := by omega
          have hl6 : a.stands = b.stands := by rw [← List.take_length (l := a.stands), ht, h8, List.take_length]
          simp [go_sem, IntWalk.iteOmega, IntWalk.toNatUp, e2, e3, e5, x1]
          exact ⟨rep_eq.2 ⟨hl5, hl6, h0, h1, h2, h3, h4, h5, h6⟩, kB⟩
end Go.Proofs.YtjjopoigbonjbaaGreatDoor.Ho
namespace Go.Proofs.YtjjopoigbonjbaaGreatDoor.Ho
open Go Go.Proofs Go.RowKit
set_option linter.unusedVariables false
set_option linter.unusedSimpArgs false
set_option maxRecDepth 10000
set_option maxHeartbeats 3200000 in
theorem houseTexts_any {w : World} (hC : Cubes w) (ht : Tens w) (a b : Rep) (hfa : a.errs.length ≤ 200 → a.stands.length ≤ 100 → a.Fit) (oka : ∀ s ∈ a.stands, s.OK) (okb : ∀ s ∈ b.stands, s.OK) (ea sa eb sb : Value) (ph : Int)
    (hea : Sl w 1 ea a.errs.length (ints a.errs)) (hsa : Sl w 69 sa a.stands.length (stands a.stands)) (heb : Sl w 1 eb b.errs.length (ints b.errs)) (hsb : Sl w 69 sb b.stands.length (stands b.stands)) :
    callE Tryz.prog 3 #[.agg (repCells a ea sa), .agg (repCells b eb sb), .int .i64 ph] w fun u w' => u = .bool true ∧ Below w.heap.size w w' := by
  have hea0 := hea
  have hsa0 := hsa
  obtain ⟨EA, eca, rfl, -, -, hm1, hm2⟩ := hea0
  obtain ⟨SA, sca, rfl, -, -, hm5, hm6⟩ := hsa0
  refine calls_E Tryz.func3 rfl rfl rfl (Nat.le_of_ble_eq_true rfl) ?_
  have hz1 : (repCells a (.slice EA a.errs.length eca) (.slice SA a.stands.length sca)).size = 15 := rfl
  have hz2 : (repCells b eb sb).size = 15 := rfl
  have hc0 : ∀ h, (repCells a (.slice EA a.errs.length eca) (.slice SA a.stands.length sca))[0]'h = .slice EA a.errs.length eca := fun _ => rfl
  have hc1 : ∀ h, (repCells a (.slice EA a.errs.length eca) (.slice SA a.stands.length sca))[1]'h = .slice SA a.stands.length sca := fun _ => rfl
  generalize hCA : repCells a (.slice EA a.errs.length eca) (.slice SA a.stands.length sca) = CA at *
  generalize hCB : repCells b eb sb = CB at *
  simp [go_sem, IntWalk.iteOmega, IntWalk.toNatUp, hz1, hz2]
  obtain ⟨W, hW⟩ : ∃ W, (w.alloc (.cells CA 27)).alloc (.cells CB 27) = W := ⟨_, rfl⟩
  rw [hW]
  obtain ⟨n0, n1, kW, sW⟩ := news2 hW.symm
  refine callE_of (Ex.liveH_any W (hC.keep kW)) ?_
  rintro _ w1 ⟨rfl, k1⟩
  have K1 := ext_trans kW k1
  have p1 := n0.keep k1
  have q1 := n1.keep k1
  have x0 := p1.cell 0
  have x1 := p1.cell 1
  by_cases hg1 : (200 : Int) < a.errs.length
  · simp [go_sem, IntWalk.iteOmega, IntWalk.toNatUp, x0, x1, hz1, hc0, hc1, hg1]
    refine callE_of (Ex.liveH_any w1 ((hC.keep kW).keep k1)) ?_
    rintro _ w2 ⟨rfl, k2⟩
    simp [go_sem, IntWalk.iteOmega, IntWalk.toNatUp]
    exact ext_trans K1 k2
  by_cases hg2 : (100 : Int) < a.stands.length
  · simp [go_sem, IntWalk.iteOmega, IntWalk.toNatUp, x0, x1, hz1, hc0, hc1, hg1, hg2]
    refine callE_of (Ex.liveH_any w1 ((hC.keep kW).keep k1)) ?_
    rintro _ w2 ⟨rfl, k2⟩
    simp [go_sem, IntWalk.iteOmega, IntWalk.toNatUp]
    exact ext_trans K1 k2
  have hfit := hfa (by omega) (by omega)
  simp [go_sem, IntWalk.iteOmega, IntWalk.toNatUp, x0, x1, hz1, hc0, hc1, hg1, hg2]
  have hCAl : (CA.toList).toArray = CA := by simp
  have hCBl : (CB.toList).toArray = CB := by simp
  have r0 : readCells w1.drew ⟨w.heap.size, 0, none⟩ 0 15 = some CA.toList := readCells_all p1.drew 15 hz1
  have r1 : readCells w1.drew ⟨w.heap.size + 1, 0, none⟩ 0 15 = some CB.toList := readCells_all q1.drew 15 hz2
  have hl0 : w.heap.size < w1.drew.heap.size := p1.lt
  have hl1 : w.heap.size + 1 < w1.drew.heap.size := q1.lt
  have hl2 : w.heap.size < w1.heap.size := p1.lt
  have hl3 : w.heap.size + 1 < w1.heap.size := q1.lt
  refine W_flow (fun j => j = w.heap.size ∨ j = w.heap.size + 1) (.pure 0 (.pure 2 (.one 1 (.one 3 (.pure 4 (.pure 5 (.pure 6 (.pure 7 (.pure 9 (.pure 10 (.one 8 (.one 11 (.pure 12 (.pure 13 (.pure 14 (.pure 15 (.pure 16 (.one 17 (.pure 18 (.pure 19 (.pure 20 (.pure 22 (.one 21 (.one 23 (.pure 24 (.pure 25 (.pure 26 (.done)))))))))))))))))))))))))))) follows (by kernel_rfl) ?_
  have g0 := held_refl (fun j => j = w.heap.size ∨ j = w.heap.size + 1) w1.drew
  have KD : Below w.heap.size w w1.drew := ext_trans K1 (ext_drew w1)
  simp [go_sem, IntWalk.iteOmega, IntWalk.toNatUp, r0, r1, hl0, hl1, hl2, hl3, g0]
  subst hCA
  refine callE_of (text_any a hfit _ _ w1.drew (Sl_on hea KD) (Sl_on hsa KD) (ht.on KD)) ?_
  rintro _ w2 ⟨rfl, k2⟩
  have K2 := ext_trans KD k2
  have g2 := g0.below k2
  simp [go_sem, IntWalk.iteOmega, IntWalk.toNatUp, g2]
  refine callE_of (rtext_any a hfit _ _ w2 (Sl_on hea K2) (Sl_on hsa K2)) ?_
  rintro _ w3 ⟨rfl, k3⟩
  have K3 := ext_trans K2 k3
  have g3 := g2.below k3
  simp [go_sem, IntWalk.iteOmega, IntWalk.toNatUp, g3, r0, r1, hl0, hl1, hl2, hl3]
  subst hCB
  have hbb := same_any a b oka okb _ _ _ _ w3 (Sl_on hea K3) (Sl_on hsa K3) (Sl_on heb K3) (Sl_on hsb K3)
  refine callE_of hbb ?_
  rintro _ w4 ⟨rfl, k4⟩
  have K4 := ext_trans K3 k4
  have g4 := g3.below k4
  simp [go_sem, IntWalk.iteOmega, IntWalk.toNatUp, g4]
  refine callE_of (rsame_any a b oka okb _ _ _ _ w4 (Sl_on hea K4) (Sl_on hsa K4) (Sl_on heb K4) (Sl_on hsb K4)) ?_
  rintro _ w5 ⟨rfl, k5⟩
  have K5 := ext_trans K4 k5
  have g5 := g4.below k5
  simp [go_sem, IntWalk.iteOmega, IntWalk.toNatUp, g5, r0, r1, hl0, hl1, hl2, hl3]
  refine callE_of (same_any a a oka oka _ _ _ _ w5 (Sl_on hea K5) (Sl_on hsa K5) (Sl_on hea K5) (Sl_on hsa K5)) ?_
  rintro _ w6 ⟨rfl, k6⟩
  have K6 := ext_trans K5 k6
  have g6 := g5.below k6
  simp [go_sem, IntWalk.iteOmega, IntWalk.toNatUp, g6]
  refine callE_of (word_any ph w6) ?_
  rintro _ w7 ⟨rfl, k7⟩
  have K7 := ext_trans K6 k7
  have g7 := g6.below k7
  simp [go_sem, IntWalk.iteOmega, IntWalk.toNatUp, g7]
  refine callE_of (rword_any ph w7) ?_
  rintro _ w8 ⟨rfl, rfl⟩
  simp [go_sem, IntWalk.iteOmega, IntWalk.toNatUp, g7]
  exact K7
end Go.Proofs.YtjjopoigbonjbaaGreatDoor.Ho
namespace Go.Proofs.YtjjopoigbonjbaaGreatDoor
open Go.RowKit Go.ChangeShapes Go.WideShapes
set_option linter.unusedVariables false
section
variable {H : Type} {enc : TypeId × Value → H} {P : Program} {t : TypeId} {fs : Array Field}
def intField (P : Program) (f : Field) : Bool := P.cellsOf f.type == 1 && (match P.underlying f.type with | some (.int _) => true | _ => false)
theorem intField_of {f : Field} (h : intField P f = true) : P.cellsOf f.type = 1 ∧ ∃ k, P.underlying f.type = some (.int k) := by
  unfold intField at h
  simp only [Bool.and_eq_true, beq_iff_eq] at h
  refine ⟨h.1, ?_⟩
  have h2 := h.2
  split at h2
  · rename_i k e; exact ⟨k, e⟩
  · cases h2
theorem mapM_fields {W : World} {base : Nat} {sp : Nat → Bool} {held : Bool} {m : Nat} {cs : List Value} : ∀ (L : List Field) (ys : List (DataW H × List MemPlace)), (∀ f ∈ L, intField P f = true) →
    L.mapM (fun f => DataW.trod enc P W base sp held m f.type ((cs.drop f.offset).take (P.cellsOf f.type))) = some ys →
    ∀ f ∈ L, ∃ k a, P.underlying f.type = some (.int k) ∧ cs[f.offset]? = some (.int k a) ∧ (Lit.int k a).wf = true
  | [], ys, _, h => fun f hf => by cases hf
  | f :: L, ys, hall, h => by
    rw [List.mapM_cons] at h
    simp only [bind, Option.bind_eq_some_iff, pure, Option.some.injEq] at h
    obtain ⟨y, hy, ys', hys, rfl⟩ := h
    have ih := mapM_fields L ys' (fun g hg => hall g (List.mem_cons_of_mem _ hg)) hys
    obtain ⟨h1, k, hk⟩ := intField_of (hall f (List.mem_cons_self ..))
    rw [h1] at hy
    obtain ⟨a, ea, rfl, wa⟩ := DataW.trod_int hk hy
    intro g hg
    rcases List.mem_cons.1 hg with rfl | hg
    · refine ⟨k, a, hk, ?_, wa⟩
      have := congrArg (·[0]?) ea
      simpa [List.getElem?_take, List.getElem?_drop] using this
    · exact ih g hg
theorem open_struct (ht : P.underlying t = some (.struct fs)) (hall : fs.toList.all (intField P) = true) {W : World} {base b0 : Nat} {r : Reach} {sp : Nat → Bool} {held : Bool} {v : Value} {d : DataW H} {ps : List MemPlace}
    (hval : Value.okWide P W r b0 t v) (hd : DataW.Trod enc P W base sp held t v d ps) :
    ∃ cs : Array Value, v = .agg cs ∧ cs.size = P.cellsOf t ∧ ∀ f ∈ fs.toList, ∃ k a, P.underlying f.type = some (.int k) ∧ cs[f.offset]? = some (.int k a) ∧ (Lit.int k a).wf = true := by
  obtain ⟨cs, rfl, hcs⟩ := okWide_struct ht hval
  refine ⟨cs, rfl, hcs, ?_⟩
  obtain ⟨fuel, hf⟩ := hd
  cases fuel with
  | zero => simp [DataW.trod] at hf
  | succ m =>
    unfold DataW.trod at hf
    simp only [ht, Value.cells] at hf
    split at hf
    · simp only [Option.map_eq_some_iff] at hf
      obtain ⟨ys, hy, e1⟩ := hf
      intro f hfm
      obtain ⟨k, a, h1, h2, h3⟩ := mapM_fields _ _ (fun f hf => List.all_eq_true.1 hall f hf) hy f hfm
      exact ⟨k, a, h1, by simpa using h2, h3⟩
    · cases hf
def structOf (P : Program) (t : TypeId) : Option (List (Nat × Option TypeDesc × Nat)) :=
  match P.underlying t with
  | some (.struct fs) => some (fs.toList.map fun f => (f.offset, P.underlying f.type, P.cellsOf f.type))
  | _ => none
def intAt (x : Nat × Option TypeDesc × Nat) : Bool := x.2.2 == 1 && (match x.2.1 with | some (.int _) => true | _ => false)
theorem open_structL {L : List (Nat × Option TypeDesc × Nat)} (hL : structOf P t = some L) (hall : L.all intAt = true) {W : World} {base b0 : Nat} {r : Reach} {sp : Nat → Bool} {held : Bool} {v : Value} {d : DataW H} {ps : List MemPlace}
    (hval : Value.okWide P W r b0 t v) (hd : DataW.Trod enc P W base sp held t v d ps) :
    ∃ cs : Array Value, v = .agg cs ∧ cs.size = P.cellsOf t ∧ ∀ (o : Nat) (k : IntKind), (o, some (TypeDesc.int k), 1) ∈ L → ∃ a, cs[o]? = some (.int k a) ∧ (Lit.int k a).wf = true := by
  unfold structOf at hL
  split at hL
  · rename_i fs ht
    injection hL with hL
    subst hL
    have hall' : fs.toList.all (intField P) = true := by
      rw [List.all_eq_true] at hall ⊢
      intro f hf
      exact hall _ (List.mem_map.2 ⟨f, hf, rfl⟩)
    obtain ⟨cs, hv, hc, hcs⟩ := open_struct ht hall' hval hd
    refine ⟨cs, hv, hc, fun o k hm => ?_⟩
    obtain ⟨f, hf, e⟩ := List.mem_map.1 hm
    simp only [Prod.mk.injEq] at e
    obtain ⟨e1, e2, _⟩ := e
    obtain ⟨k', a, h1, h2, h3⟩ := hcs f hf
    rw [h1] at e2
    injection e2 with e2
    injection e2 with e2
    subst e1; subst e2
    exact ⟨a, h2, h3⟩
  · cases hL
/-- The same, of cells that read as such a struct. -/
theorem trod_structL {L : List (Nat × Option TypeDesc × Nat)} (hL : structOf P t = some L) (hall : L.all intAt = true) {W : World} {base fuel : Nat} {sp : Nat → Bool} {held : Bool} {cs : List Value} {y : DataW H × List MemPlace}
    (hf : DataW.trod enc P W base sp held fuel t cs = some y) : cs.length = P.cellsOf t ∧ ∀ (o : Nat) (k : IntKind), (o, some (TypeDesc.int k), 1) ∈ L → ∃ a, cs[o]? = some (.int k a) ∧ (Lit.int k a).wf = true := by
  unfold structOf at hL
  split at hL
  · rename_i fs ht
    injection hL with hL
    subst hL
    have hall' : fs.toList.all (intField P) = true := by
      rw [List.all_eq_true] at hall ⊢
      intro f hf
      exact hall _ (List.mem_map.2 ⟨f, hf, rfl⟩)
    cases fuel with
    | zero => simp [DataW.trod] at hf
    | succ m =>
      unfold DataW.trod at hf
      simp only [ht] at hf
      split at hf
      · rename_i hlen
        simp only [Option.map_eq_some_iff] at hf
        obtain ⟨ys, hy, e1⟩ := hf
        refine ⟨hlen, fun o k hm => ?_⟩
        obtain ⟨f, hfm, e⟩ := List.mem_map.1 hm
        simp only [Prod.mk.injEq] at e
        obtain ⟨e1, e2, _⟩ := e
        obtain ⟨k', a, h1, h2, h3⟩ := mapM_fields _ _ (fun f hf => List.all_eq_true.1 hall' f hf) hy f hfm
        rw [h1] at e2
        injection e2 with e2
        injection e2 with e2
        subst e1; subst e2
        exact ⟨a, h2, h3⟩
      · cases hf
  · cases hL
/-! Structs of ints, strings and bools. -/
def leafOf (d : TypeDesc) (v : Value) : Prop := match d with
  | .int k => ∃ a, v = .int k a ∧ (Lit.int k a).wf = true
  | .string => ∃ s : ByteArray, v = .string s ∧ s.size ≤ maxLen
  | .bool => ∃ b, v = .bool b
  | _ => True
def isLeaf (x : Nat × Option TypeDesc × Nat) : Bool := x.2.2 == 1 && (match x.2.1 with | some (.int _) | some .string | some .bool => true | _ => false)
theorem trod_leaf {t : TypeId} {d : TypeDesc} {W : World} {base fuel : Nat} {sp : Nat → Bool} {held : Bool} {cs : List Value} {y : DataW H × List MemPlace} (ht : P.underlying t = some d) (hl : isLeaf (0, some d, 1) = true)
    (hf : DataW.trod enc P W base sp held fuel t cs = some y) : ∃ v, cs = [v] ∧ leafOf d v := by
  cases d <;> simp [isLeaf] at hl
  case int k => obtain ⟨a, e, _, wa⟩ := DataW.trod_int ht hf; exact ⟨_, e, a, rfl, wa⟩
  case string => obtain ⟨s, e, _, ws⟩ := DataW.trod_string ht hf; exact ⟨_, e, s, rfl, ws⟩
  case bool => obtain ⟨b, e, _⟩ := DataW.trod_bool ht hf; exact ⟨_, e, b, rfl⟩
theorem mapM_leafs {W : World} {base : Nat} {sp : Nat → Bool} {held : Bool} {m : Nat} {cs : List Value} : ∀ (L : List Field) (ys : List (DataW H × List MemPlace)), (∀ f ∈ L, isLeaf (f.offset, P.underlying f.type, P.cellsOf f.type) = true) →
    L.mapM (fun f => DataW.trod enc P W base sp held m f.type ((cs.drop f.offset).take (P.cellsOf f.type))) = some ys →
    ∀ f ∈ L, ∃ d v, P.underlying f.type = some d ∧ cs[f.offset]? = some v ∧ leafOf d v
  | [], ys, _, h => fun f hf => by cases hf
  | f :: L, ys, hall, h => by
    rw [List.mapM_cons] at h
    simp only [bind, Option.bind_eq_some_iff, pure, Option.some.injEq] at h
    obtain ⟨y, hy, ys', hys, rfl⟩ := h
    have ih := mapM_leafs L ys' (fun g hg => hall g (List.mem_cons_of_mem _ hg)) hys
    have h0 := hall f (List.mem_cons_self ..)
    have h1 : P.cellsOf f.type = 1 := by simp only [isLeaf, Bool.and_eq_true, beq_iff_eq] at h0; exact h0.1
    obtain ⟨d, hd⟩ : ∃ d, P.underlying f.type = some d := by
      cases hu : P.underlying f.type with
      | none => rw [hu] at h0; simp [isLeaf] at h0
      | some d => exact ⟨d, rfl⟩
    rw [h1] at hy
    have h0' : isLeaf (0, some d, 1) = true := by rw [hd, h1] at h0; simpa [isLeaf] using h0
    obtain ⟨v, ev, hv⟩ := trod_leaf hd h0' hy
    intro g hg
    rcases List.mem_cons.1 hg with rfl | hg
    · refine ⟨d, v, hd, ?_, hv⟩
      have := congrArg (·[0]?) ev
      simpa [List.getElem?_take, List.getElem?_drop] using this
    · exact ih g hg
/-- Cells that read as such a struct. -/
theorem trod_leafs {t : TypeId} {L : List (Nat × Option TypeDesc × Nat)} (hL : structOf P t = some L) (hall : L.all isLeaf = true) {W : World} {base fuel : Nat} {sp : Nat → Bool} {held : Bool} {cs : List Value} {y : DataW H × List MemPlace}
    (hf : DataW.trod enc P W base sp held fuel t cs = some y) : cs.length = P.cellsOf t ∧ ∀ (o : Nat) (d : TypeDesc), (o, some d, 1) ∈ L → ∃ v, cs[o]? = some v ∧ leafOf d v := by
  unfold structOf at hL
  split at hL
  · rename_i fs ht
    injection hL with hL
    subst hL
    have hall' : ∀ f ∈ fs.toList, isLeaf (f.offset, P.underlying f.type, P.cellsOf f.type) = true := by
      rw [List.all_eq_true] at hall
      intro f hf
      exact hall _ (List.mem_map.2 ⟨f, hf, rfl⟩)
    cases fuel with
    | zero => simp [DataW.trod] at hf
    | succ m =>
      unfold DataW.trod at hf
      simp only [ht] at hf
      split at hf
      · rename_i hlen
        simp only [Option.map_eq_some_iff] at hf
        obtain ⟨ys, hy, e1⟩ := hf
        refine ⟨hlen, fun o d hm => ?_⟩
        obtain ⟨f, hfm, e⟩ := List.mem_map.1 hm
        simp only [Prod.mk.injEq] at e
        obtain ⟨e1, e2, _⟩ := e
        obtain ⟨d', v, h1, h2, h3⟩ := mapM_leafs _ _ hall' hy f hfm
        rw [h1] at e2
        injection e2 with e2
        subst e1; subst e2
        exact ⟨v, h2, h3⟩
      · cases hf
  · cases hL
/-- Such a struct by value. -/
theorem open_leafs {t : TypeId} {L : List (Nat × Option TypeDesc × Nat)} (hL : structOf P t = some L) (hall : L.all isLeaf = true) {W : World} {base b0 : Nat} {r : Reach} {sp : Nat → Bool} {held : Bool} {v : Value} {d : DataW H} {ps : List MemPlace}
    (hval : Value.okWide P W r b0 t v) (hd : DataW.Trod enc P W base sp held t v d ps) :
    ∃ cs : Array Value, v = .agg cs ∧ cs.size = P.cellsOf t ∧ ∀ (o : Nat) (d : TypeDesc), (o, some d, 1) ∈ L → ∃ v, cs[o]? = some v ∧ leafOf d v := by
  have hs : ∃ fs, P.underlying t = some (.struct fs) := by
    unfold structOf at hL
    split at hL
    · rename_i fs ht; exact ⟨fs, ht⟩
    · cases hL
  obtain ⟨fs, ht⟩ := hs
  obtain ⟨cs, rfl, hcs⟩ := okWide_struct ht hval
  obtain ⟨fuel, hf⟩ := hd
  obtain ⟨h1, h2⟩ := trod_leafs hL hall hf
  refine ⟨cs, rfl, hcs, fun o d hm => ?_⟩
  obtain ⟨v, hv, hl⟩ := h2 o d hm
  exact ⟨v, by simpa [Value.cells] using hv, hl⟩
/-- Cells in elements of so many, each of a plain thing. -/
theorem list_of_elems {α : Type} {m : Nat} (enc' : α → List Value) (Q : α → Prop) : ∀ (n : Nat) (xs : List Value), xs.length = n * m → (∀ i, i < n → ∃ x, (xs.drop (i * m)).take m = enc' x ∧ Q x) →
    ∃ l : List α, l.length = n ∧ xs = l.flatMap enc' ∧ ∀ x ∈ l, Q x
  | 0, xs, hlen, _ => ⟨[], rfl, by simpa using hlen, fun x hx => by cases hx⟩
  | n + 1, xs, hlen, h => by
    obtain ⟨x, hx, hq⟩ := h 0 (by omega)
    obtain ⟨l, h1, h2, h3⟩ := list_of_elems (m := m) enc' Q n (xs.drop m) (by rw [List.length_drop, hlen, Nat.succ_mul]; omega) (fun i hi => by
      obtain ⟨y, hy, hqy⟩ := h (i + 1) (by omega)
      refine ⟨y, ?_, hqy⟩
      rw [List.drop_drop, ← hy]
      congr 2
      rw [Nat.succ_mul]; omega)
    refine ⟨x :: l, by simp [h1], ?_, fun y hy => ?_⟩
    · rw [List.flatMap_cons, ← h2, ← hx]
      simp
    · rcases List.mem_cons.1 hy with rfl | hy
      · exact hq
      · exact h3 y hy
end
end Go.Proofs.YtjjopoigbonjbaaGreatDoor
