/-
  'ShaPieces' answers yes at any pieces.
-/
import Derived.Test.YtlhlfodmcffeoaaDoorSums
namespace Go.Proofs.YtlhlfodmcffeoaaDoor
open Go.RowKit
set_option linter.unusedVariables false
set_option linter.unusedSimpArgs false
set_option maxRecDepth 10000
theorem StateAt.of_in {w : World} {B b : Nat} {l : List UInt8} (h : StateIn w B b l) (hB : b < B) (hp : b ≠ 0) (hl : l.length ≤ 70368744177664) : StateAt w b l := by
  obtain ⟨rv, h1, h2⟩ := h
  exact ⟨hp, hl, rv, h1, own_mono h2 hB⟩
theorem StateIn.grown {w w' : World} {B b : Nat} {l : List UInt8} {row : Option Nat} (h : StateIn w B b l) (hw : w.grownBy w' row) (hr : ∀ g, row = some g → g ≠ b ∧ g < B) : StateIn w' B b l := by
  obtain ⟨rv, h3, h4⟩ := h
  refine ⟨rv, (hw.block b h3.lt (fun e => (hr b e.symm).1 rfl)).trans h3, h4.1, h4.2.imp id fun ⟨g, cap, cur, a1, a2, a3, a4⟩ => ⟨g, cap, cur, a1, a2, ?_, a4⟩⟩
  rw [hw.block g (by rcases Nat.lt_or_ge g w.heap.size with h | h; exact h; rw [Array.getElem?_eq_none h] at a3; cases a3) (fun e => by have := (hr g e.symm).2; omega)]
  exact a3
set_option maxHeartbeats 800000 in
theorem stateClone_any (b : Nat) (l : List UInt8) (w : World) (hs : StateAt w b l) : callE Tryd.prog 22 #[.pointer (some ⟨b, 0, none⟩)] w fun v w' => ∃ b', w.heap.size ≤ b' ∧ v = .pointer (some ⟨b', 0, none⟩) ∧ StateAt w' b' l ∧ Below w.heap.size w w' := by
  have hn := callE_eq noinit_none hs.none_
  have hbw : b < w.heap.size := by obtain ⟨_, _, rv, h3, _⟩ := hs; exact h3.lt
  obtain ⟨h1, h2, rv, h3, h4⟩ := hs
  obtain ⟨Ar, cr, rfl, hr1, hr2, hr3, hr4⟩ := own_rdB h4
  generalize hw0 : wordsOf l = W0 at h3
  obtain ⟨v0, v1, v2, v3, v4, v5, v6, v7⟩ := W0
  simp only [St8.vals] at h3
  have hrl := restOf_length l
  have x1 : readCells w ⟨b, 0, none⟩ 0 11 = some _ := readCells_all h3 11 rfl
  have y8 : ∀ o, (w.alloc o).cell? ⟨b, 8, none⟩ = some (.slice Ar (restOf l).length cr) := fun o => by rw [(h3.more o).cell]; rfl
  refine calls_E Tryd.func22 rfl rfl rfl (Nat.le_of_ble_eq_true rfl) ?_
  simp [go_sem, IntWalk.iteOmega, IntWalk.toNatUp, hn, x1, y8]
  refine callE_at fun W hW => ?_
  obtain ⟨b1, hB1, hS1⟩ := news1 hW
  clear hW
  refine callE_of (clone_any Ar _ cr _ W (hr1.keep hB1) hr2 (by omega)) ?_
  rintro v w2 ⟨hown, hB2⟩
  replace b1 := b1.keep hB2
  have hl1 : w.heap.size + 1 ≤ W.heap.size := by omega
  obtain ⟨A5, c5, rfl, _, _, _, _⟩ := own_rdB hown
  have z8 : w2.cell? ⟨w.heap.size, 8, none⟩ = some (.slice Ar (restOf l).length cr) := by rw [b1.cell]; rfl
  simp [go_sem, IntWalk.iteOmega, IntWalk.toNatUp, z8, b1.frozen]
  refine ⟨w.heap.size, Nat.le_refl _, rfl, ⟨by omega, h2, _, (Blk_set b1).as_ ?_, own_off (own_mono hown hl1) _ (else_set w2 w.heap.size 8 _)⟩, (ext_trans hB1 hB2).setCell (p := ⟨w.heap.size, 8, none⟩) (Nat.le_refl _) _⟩
  rw [hw0]; simp [St8.vals]
theorem shaSumOwn (v : Value) (l : List UInt8) (w : World) {B : Nat} (hv : w.ownsRow B 5 1 v l.length (bl l)) (hC : Cubes w) (hl : l.length ≤ 70368744177664) :
    callE Tryd.prog 19 #[v] w fun v' w' => v' = .agg (bl (sha l)).toArray ∧ Below w.heap.size w w' := shaSum_any v l w (own_rdB hv) hC hl
set_option maxHeartbeats 6400000 in
theorem shaPieces_law (v : Value) (vs : List Value) (ls : List (List UInt8)) (at_ : Int) (w : World) (ha : (Lit.int .u8 at_).wf = true) (hk : vs.length = ls.length) (hs : Sl w 1 v ls.length vs) (hv : ∀ i, (h : i < vs.length) → (h' : i < ls.length) → Sl w 1 vs[i] ls[i].length (bl ls[i])) (hC : Cubes w) :
    callE Tryd.prog 6 #[v, .int .u8 at_] w fun v w' => v = .bool true ∧ Below w.heap.size w w' := by
  have hat : 0 ≤ at_ ∧ at_ ≤ 255 := bounds_u8 ha
  clear ha
  obtain ⟨A, c, rfl, hrd, hA, hc1, hc2⟩ := hs
  have hRBs : RdBs w vs ls := ⟨hk, fun i v l h1 h2 => by
    obtain ⟨hi, rfl⟩ := List.getElem?_eq_some_iff.1 h1
    obtain ⟨hi', rfl⟩ := List.getElem?_eq_some_iff.1 h2
    obtain ⟨A, c, e, h3, h4, h5, h6⟩ := hv i hi hi'
    exact ⟨A, c, e, h3, fun e => (h4 e).1, h5, h6⟩⟩
  clear hv
  refine calls_E Tryd.func6 rfl rfl rfl (Nat.le_of_ble_eq_true rfl) ?_
  simp [go_sem, IntWalk.iteOmega, IntWalk.toNatUp]
  refine callE_of (new_any w) ?_
  rintro v w1 ⟨b, hb, rfl, hBk, hB1⟩
  simp [go_sem, IntWalk.iteOmega, IntWalk.toNatUp]
  refine callE_of (begun_any w1 (hC.keep hB1)) ?_
  rintro v w2 ⟨rfl, hB2⟩
  by_cases hlong : 40 < ls.length
  · have hl' : (40 : Int) < ls.length := by omega
    simp [go_sem, IntWalk.iteOmega, IntWalk.toNatUp, hl']
    refine callE_of (begun_any w2 (hC.keep (ext_trans hB1 hB2))) ?_
    rintro v w3 ⟨rfl, hB3⟩
    simp [go_sem, IntWalk.iteOmega, IntWalk.toNatUp]
    exact ext_trans (ext_trans hB1 hB2) hB3
  · have hl' : ¬ (40 : Int) < ls.length := by omega
    simp [go_sem, IntWalk.iteOmega, IntWalk.toNatUp, hl']
    have hb0 : b ≠ 0 := by have := hC.pos; omega
    have hz1 := hB1.size
    have hz2 := hB2.size
    have hbw := hBk.lt
    have hs2 : StateAt w2 b [] := ⟨hb0, by simp, .slice none 0 0, hBk.keep hB2, World.ownsRow_nil _ _ _ _⟩
    have k2 := ext_trans hB1 hB2
    clear hBk
    refine W_loop (fun s wr => ∃ (i : Nat) (va : Value), i ≤ ls.length ∧ s 0 = .slice A ls.length c ∧ s 1 = .int .u8 at_ ∧ s 5 = .pointer (some ⟨b, 0, none⟩) ∧ s 28 = .slice A ls.length c ∧ s 29 = .int .i64 ls.length ∧ s 30 = .int .i64 i ∧ s 6 = va ∧
      wr.ownsRow w2.heap.size 5 1 va (joinTo ls i).length (bl (joinTo ls i)) ∧ (joinTo ls i).length ≤ 300 * i ∧ StateAt wr b (joinTo ls i) ∧ w2.heap.size ≤ wr.heap.size ∧ Below w.heap.size w wr) (fun s _ => ls.length - (intOf (s 30)).toNat) ?_ ?_
    · exact ⟨0, .slice none 0 0, by omega, by simp [go_sem], by simp [go_sem], by simp [go_sem], by simp [go_sem], by simp [go_sem], by simp [go_sem], by simp [go_sem], by simpa [joinTo, bl] using World.ownsRow_nil _ _ _ _, by simp [joinTo], hs2, Nat.le_refl _, k2⟩
    · clear hs2 k2
      rintro s wr ⟨i, va, hi, e0, e1, e5, e28, e29, e30, e6, hown, hlen, hst, hsz, hB⟩
      by_cases hlt : i < ls.length
      · obtain ⟨g, o, rfl, hglt, hgc⟩ := (hrd.keep hB).cells (by omega)
        have hvi : i < vs.length := by omega
        have x0 := hgc i vs[i] (List.getElem?_eq_getElem hvi)
        obtain ⟨A1, c1, hv1, h1, hn1, hc1', hc2'⟩ := hRBs.2 i vs[i] ls[i] (List.getElem?_eq_getElem hvi) (List.getElem?_eq_getElem hlt)
        rw [hv1] at x0
        have hj := joinTo_succ ls i ls[i] (List.getElem?_eq_getElem hlt)
        generalize ls[i] = p at *
        generalize joinTo ls i = L at *
        have hlt' : (i : Int) < ls.length := by omega
        by_cases hbig : 300 < p.length
        · have hbig' : (300 : Int) < p.length := by omega
          simp [go_sem, IntWalk.iteOmega, IntWalk.toNatUp, e0, e1, e5, e28, e29, e30, e6, hlt', x0, hbig']
          exact hB
        · have hbig' : ¬ (300 : Int) < p.length := by omega
          simp [go_sem, IntWalk.iteOmega, IntWalk.toNatUp, e0, e1, e5, e28, e29, e30, e6, hlt', x0, hbig']
          refine callE_at fun W1 hW1 => ?_
          obtain ⟨bp, hBW1, hSW1⟩ := news1 hW1
          clear hW1
          have hwrb : b < w2.heap.size := by omega
          have kW1 := ext_trans hB hBW1
          have hzW := hBW1.size
          have hoffr : Off b W1 fun w' => Rd w' 1 A1 p.length (bl p) := fun w' hw' => h1.keep (kW1.trans (below_else hw' hb (by have := kW1.size; omega)))
          have hoff2 : Off b W1 fun w' => Blk w' wr.heap.size 29 #[.slice A1 p.length c1] := fun w' hw' => bp.off hw' (by omega)
          refine callE_of (write_any b 1 1 _ L [p] [.slice A1 p.length c1] W1 (hst.keep hBW1) (hC.keep kW1) (fun w' hw' => ⟨⟨rfl, fun _ => ⟨_, 0, rfl, (hoff2 w' hw').lt, fun j u hu => by rw [(hoff2 w' hw').cell]; simpa using hu⟩⟩, rfl, ?_⟩) (by omega) (by simp; omega)) ?_
          · intro j v m hv hm
            match j, hv, hm with
            | 0, hv, hm => injection hv with hv; injection hm with hm; subst hv hm; exact ⟨A1, c1, rfl, hoffr w' hw', hn1, hc1', hc2'⟩
            | n + 1, hv, hm => simp at hv
          rintro v w3 ⟨rfl, hs3, hg3, hin3⟩
          have hin := hin3 (by omega)
          rw [show [p].flatten = p by simp] at hin
          have hown3 := own_off2 (own_keep hown hBW1) hwrb hg3
          have hblk := own_block hown
          have hRp := hoffr w3 hg3
          have hz3 := hg3.size
          have k3 : Below w.heap.size w w3 := kW1.trans (below_else hg3 hb (by have := kW1.size; omega))
          have hMl : (L ++ p).length = L.length + p.length := List.length_append
          clear hoffr hoff2 hin3 hs3 hst bp hown
          simp [go_sem, IntWalk.iteOmega, IntWalk.toNatUp, e6]
          refine appendE w2.heap.size 5 1 1 Tryd.underlying29 el5 hown3 hRp (bl_one p) (by unfold maxLen; omega) (by omega) (by omega) ?_
          intro v4 w4 hown4 hgr4 hor4
          have hs4 : StateAt w4 b (L ++ p) := StateAt.of_in (hin.grown hgr4 fun g hg => by have := hblk g hg; omega) (by omega) hb0 (by omega)
          have k4 : Below w.heap.size w w4 := k3.grown hgr4 k3.size fun g hg => by have := hblk g hg; omega
          have hz4 := hgr4.size
          rw [← bl_append, ← hMl] at hown4
          clear hin hgr4 hor4 hown3 hRp k3 hblk hg3 kW1 hBW1 h1 hn1 hc1' hc2'
          have hM : (L ++ p).length ≤ 300 * (i + 1) := by omega
          clear hMl
          generalize L ++ p = M at *
          obtain ⟨A3, c3, rfl, hr31, hr32, hr33, hr34⟩ := own_rdB hown4
          have I := id_eq0 (sha M) (sha M) (sha_length M) (sha_length M)
          have hwat : IntKind.i64.wrap at_ = at_ := IntWalk.i64_in _ (by omega)
          by_cases hia : (i : Int) = at_
          · have hia' : ((i : Int) == at_) = true := by simpa using hia
            simp [go_sem, IntWalk.iteOmega, IntWalk.toNatUp, e0, e1, e5, e28, e29, e30, hwat, hia']
            refine callE_of (stateClone_any b M w4 hs4) ?_
            rintro v w5 ⟨b5, hb5, rfl, hs5, hB5⟩
            have hb5w : b5 < w5.heap.size := by obtain ⟨_, _, rv, h3, _⟩ := hs5; exact h3.lt
            simp [go_sem, IntWalk.iteOmega, IntWalk.toNatUp]
            refine callE_of (stateSum_any b5 M w5 hs5 (hC.keep (ext_trans k4 hB5))) ?_
            rintro v w6 ⟨rfl, hB6⟩
            have K6 := ext_trans hB5 hB6
            simp [go_sem, IntWalk.iteOmega, IntWalk.toNatUp]
            refine callE_of (shaSumOwn _ M w6 (own_keep hown4 K6) (hC.keep (ext_trans k4 K6)) (by omega)) ?_
            rintro v w7 ⟨rfl, hB7⟩
            have K7 := ext_trans K6 hB7
            simp [go_sem, IntWalk.iteOmega, IntWalk.toNatUp, I]
            refine callE_at fun W8 hW8 => ?_
            obtain ⟨p1, p2, p3, hB8, hS8⟩ := news3 hW8
            clear hW8
            have K8 := ext_trans K7 hB8
            have z5 := hB5.size
            have z6 := hB6.size
            have z7 := hB7.size
            have z8 := hB8.size
            refine callE_of (write_any b5 3 3 _ M [[1], [], [2, 3]] [.slice (some ⟨w7.heap.size, 0, none⟩) 1 1, .slice none 0 0, .slice (some ⟨w7.heap.size + 1, 0, none⟩) 2 2] W8 (((hs5.keep hB6).keep hB7).keep hB8) (hC.keep (ext_trans k4 K8)) (fun w' hw' => ?_) (by omega) (by simp; omega)) ?_
            · have q1 := p1.off hw' (by omega)
              have q2 := p2.off hw' (by omega)
              have q3 := p3.off hw' (by omega)
              refine ⟨⟨rfl, fun _ => ⟨_, 0, rfl, q3.lt, fun j u hu => by rw [q3.cell]; simpa using hu⟩⟩, rfl, ?_⟩
              intro j v m hv hm
              match j, hv, hm with
              | 0, hv, hm =>
                injection hv with hv; injection hm with hm; subst hv hm
                exact ⟨_, 1, rfl, ⟨rfl, fun _ => ⟨_, 0, rfl, q1.lt, fun j u hu => by rw [q1.cell]; simpa [bl] using hu⟩⟩, (fun h => nomatch h), by simp, by omega⟩
              | 1, hv, hm =>
                injection hv with hv; injection hm with hm; subst hv hm
                exact ⟨none, 0, rfl, Rd.nil_ _ _ _, fun _ => rfl, by simp, by omega⟩
              | 2, hv, hm =>
                injection hv with hv; injection hm with hm; subst hv hm
                exact ⟨_, 2, rfl, ⟨rfl, fun _ => ⟨_, 0, rfl, q2.lt, fun j u hu => by rw [q2.cell]; simpa [bl] using hu⟩⟩, (fun h => nomatch h), by simp, by omega⟩
              | n + 3, hv, hm => simp at hv
            rintro v w9 ⟨rfl, hs9, hg9, _⟩
            rw [show [[1], [], [2, 3]].flatten = ([1, 2, 3] : List UInt8) by simp] at hs9
            have K9 : Below w4.heap.size w4 w9 := K8.trans (below_else hg9 hb5 K8.size)
            have z9 := hg9.size
            clear p1 p2 p3 hS8 K6 K7 K8 hB8 hg9 hs5 hB6 hB7 hB5
            simp [go_sem, IntWalk.iteOmega, IntWalk.toNatUp]
            refine callE_of (stateSum_any b5 _ w9 hs9 (hC.keep (ext_trans k4 K9))) ?_
            rintro v w10 ⟨rfl, hB10⟩
            have K10 := ext_trans K9 hB10
            simp [go_sem, IntWalk.iteOmega, IntWalk.toNatUp]
            refine callE_of (clone_any A3 M.length c3 M w10 (hr31.keep K10) hr32 (by omega)) ?_
            rintro v w11 ⟨hown11, hB11⟩
            simp [go_sem, IntWalk.iteOmega, IntWalk.toNatUp]
            refine append_bytes (w0 := w10) (w1 := w11) (news := [1, 2, 3]) hown11 (Nat.le_refl _) hB11.size hB11 (ext_alloc _ _) (Blk.self_ rfl) 3 rfl (by omega) ?_
            clear hown11 hB11
            intro v w12 hown12 hz12 hB12
            rw [show M.length + 3 = (M ++ [1, 2, 3]).length by simp] at hown12
            simp [go_sem, IntWalk.iteOmega, IntWalk.toNatUp]
            refine callE_of (shaSumOwn _ (M ++ [1, 2, 3]) w12 hown12 (hC.keep (ext_trans k4 (ext_trans K10 hB12))) (by simp; omega)) ?_
            rintro v wN ⟨rfl, hB13⟩
            have KN := ext_trans (ext_trans K10 hB12) hB13
            have kN := ext_trans k4 KN
            have hNs := hs4.keep KN
            have hNo := own_keep hown4 KN
            have hszN : w2.heap.size ≤ wN.heap.size := by have := KN.size; omega
            have I2 := id_eq0 (sha (M ++ [1, 2, 3])) (sha (M ++ [1, 2, 3])) (sha_length _) (sha_length _)
            clear hs9 hown12 hB13 hB12 hB10 K9 K10 KN hown4 hs4
            simp [go_sem, IntWalk.iteOmega, IntWalk.toNatUp, I2, e5]
            refine callE_of (stateSum_any b M wN hNs (hC.keep kN)) ?_
            rintro v wA ⟨rfl, hBA⟩
            simp [go_sem, IntWalk.iteOmega, IntWalk.toNatUp]
            refine callE_of (shaSumOwn _ M wA (own_keep hNo hBA) (hC.keep (ext_trans kN hBA)) (by omega)) ?_
            rintro v wB ⟨rfl, hBB⟩
            simp [go_sem, IntWalk.iteOmega, IntWalk.toNatUp, I, e5]
            refine callE_of (stateLen_any b M wB ((hNs.keep hBA).keep hBB)) ?_
            rintro v wC ⟨rfl, hBC⟩
            have hABC := ext_trans (ext_trans hBA hBB) hBC
            simp [go_sem, IntWalk.iteOmega, IntWalk.toNatUp, e30]
            refine roundEnd.mk ⟨i + 1, .slice A3 M.length c3, by omega, by simp [go_sem, e0], by simp [go_sem, e1], by simp [go_sem, e5], by simp [go_sem, e28], by simp [go_sem, e29], by simp [go_sem], by simp [go_sem], ?_, ?_, ?_, Nat.le_trans hszN hABC.size, ext_trans kN hABC⟩ ?_
            · rw [hj]; exact own_keep hNo hABC
            · rw [hj]; omega
            · rw [hj]; exact hNs.keep hABC
            · simp [go_sem, intOf]; omega
          · have hia' : ((i : Int) == at_) = false := by simpa using hia
            have hNs := hs4
            have hNo := hown4
            have kN := k4
            have hszN : w2.heap.size ≤ w4.heap.size := by omega
            simp [go_sem, IntWalk.iteOmega, IntWalk.toNatUp, e0, e1, e5, e28, e29, e30, hwat, hia']
            refine callE_of (stateSum_any b M w4 hNs (hC.keep kN)) ?_
            rintro v wA ⟨rfl, hBA⟩
            simp [go_sem, IntWalk.iteOmega, IntWalk.toNatUp]
            refine callE_of (shaSumOwn _ M wA (own_keep hNo hBA) (hC.keep (ext_trans kN hBA)) (by omega)) ?_
            rintro v wB ⟨rfl, hBB⟩
            simp [go_sem, IntWalk.iteOmega, IntWalk.toNatUp, I, e5]
            refine callE_of (stateLen_any b M wB ((hNs.keep hBA).keep hBB)) ?_
            rintro v wC ⟨rfl, hBC⟩
            have hABC := ext_trans (ext_trans hBA hBB) hBC
            simp [go_sem, IntWalk.iteOmega, IntWalk.toNatUp, e30]
            refine roundEnd.mk ⟨i + 1, .slice A3 M.length c3, by omega, by simp [go_sem, e0], by simp [go_sem, e1], by simp [go_sem, e5], by simp [go_sem, e28], by simp [go_sem, e29], by simp [go_sem], by simp [go_sem], ?_, ?_, ?_, Nat.le_trans hszN hABC.size, ext_trans kN hABC⟩ ?_
            · rw [hj]; exact own_keep hNo hABC
            · rw [hj]; omega
            · rw [hj]; exact hNs.keep hABC
            · simp [go_sem, intOf]; omega
      · obtain rfl : i = ls.length := by omega
        rw [joinTo_all] at hown hlen hst
        have hFl : ls.flatten.length ≤ 12000 := by omega
        generalize hF : ls.flatten = F at *
        obtain ⟨A3, c3, rfl, hr31, hr32, hr33, hr34⟩ := own_rdB hown
        simp [go_sem, IntWalk.iteOmega, IntWalk.toNatUp, e0, e1, e5, e28, e29, e30, e6]
        refine callE_of (new_any wr) ?_
        rintro v w3 ⟨t, ht, rfl, hBt, hB3⟩
        have k3 := ext_trans hB hB3
        have z3 := hB3.size
        have zB := hB.size
        simp [go_sem, IntWalk.iteOmega, IntWalk.toNatUp, e0, e1, e5, e6]
        have hst3 : StateAt w3 t [] := ⟨by omega, by simp, .slice none 0 0, hBt, World.ownsRow_nil _ _ _ _⟩
        refine callE_of (write_any t ls.length c A [] ls vs w3 hst3 (hC.keep k3) (fun w' hw' => ?_) (by omega) (by rw [List.nil_append, hF]; omega)) ?_
        · have kk : Below w.heap.size w w' := k3.trans (below_else hw' (by omega) (by omega))
          exact ⟨hrd.keep kk, hRBs.keep kk⟩
        rintro v w4 ⟨rfl, hs4, hg4, _⟩
        rw [List.nil_append, hF] at hs4
        have K4 : Below wr.heap.size wr w4 := hB3.trans (below_else hg4 ht z3)
        have k4 := ext_trans hB K4
        have hso := hst.keep K4
        have hoo := own_keep hown K4
        have I := id_eq0 (sha F) (sha F) (sha_length F) (sha_length F)
        clear hst hown hB3 hg4 hBt hst3 K4 k3 hr31 hr32 hr33 hr34
        simp [go_sem, IntWalk.iteOmega, IntWalk.toNatUp, e5, e6]
        refine callE_of (stateSum_any t F w4 hs4 (hC.keep k4)) ?_
        rintro v w5 ⟨rfl, hB5⟩
        simp [go_sem, IntWalk.iteOmega, IntWalk.toNatUp, e5, e6]
        refine callE_of (stateSum_any b F w5 (hso.keep hB5) (hC.keep (ext_trans k4 hB5))) ?_
        rintro v w6 ⟨rfl, hB6⟩
        have K6 := ext_trans hB5 hB6
        simp [go_sem, IntWalk.iteOmega, IntWalk.toNatUp, e5, e6, I]
        refine callE_of (stateSum_any b F w6 (hso.keep K6) (hC.keep (ext_trans k4 K6))) ?_
        rintro v w7 ⟨rfl, hB7⟩
        have K7 := ext_trans K6 hB7
        simp [go_sem, IntWalk.iteOmega, IntWalk.toNatUp, e5, e6]
        refine callE_of (shaSumOwn _ F w7 (own_keep hoo K7) (hC.keep (ext_trans k4 K7)) (by omega)) ?_
        rintro v w8 ⟨rfl, hB8⟩
        simp [go_sem, IntWalk.iteOmega, IntWalk.toNatUp, I]
        exact ext_trans (ext_trans k4 K7) hB8
end Go.Proofs.YtlhlfodmcffeoaaDoor
