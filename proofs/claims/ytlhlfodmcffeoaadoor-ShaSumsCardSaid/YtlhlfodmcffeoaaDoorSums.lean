/-
  'ShaSums' answers yes at any bytes.
-/
import Derived.Test.YtlhlfodmcffeoaaDoorRefSum2
import Derived.Test.YtlhlfodmcffeoaaDoorNone
namespace Go.Proofs.YtlhlfodmcffeoaaDoor
open Go.RowKit
set_option linter.unusedVariables false
set_option linter.unusedSimpArgs false
set_option maxRecDepth 10000
theorem stateLen_any (b : Nat) (l : List UInt8) (w : World) (hs : StateAt w b l) : callE Tryd.prog 21 #[.pointer (some ⟨b, 0, none⟩)] w fun v w' => v = .int .i64 l.length ∧ Below w.heap.size w w' := by
  have hn := callE_eq noinit_none hs.none_
  obtain ⟨_, _, rv, h3, _⟩ := hs
  have y9 : w.cell? ⟨b, 9, none⟩ = some (.int .i64 l.length) := by rw [h3.cell]; simp [St8.vals]
  refine calls_E Tryd.func21 rfl rfl rfl (Nat.le_of_ble_eq_true rfl) ?_
  simp [go_sem, IntWalk.iteOmega, IntWalk.toNatUp, hn, y9]
  exact Below.refl _ _
/-- A state is left alone by writes below its block. -/
theorem StateAt.grown {w w' : World} {b : Nat} {l : List UInt8} {row : Option Nat} (h : StateAt w b l) (hw : w.grownBy w' row) (hr : ∀ g, row = some g → g < b) : StateAt w' b l := by
  obtain ⟨h1, h2, rv, h3, h4⟩ := h
  refine ⟨h1, h2, rv, (hw.block b h3.lt (fun e => by have := hr b e.symm; omega)).trans h3, h4.1, h4.2.imp id fun ⟨g, cap, cur, a1, a2, a3, a4⟩ => ⟨g, cap, cur, a1, a2, ?_, a4⟩⟩
  rw [hw.block g (by rcases Nat.lt_or_ge g w.heap.size with h | h; exact h; rw [Array.getElem?_eq_none h] at a3; cases a3) (fun e => by have := hr g e.symm; omega)]
  exact a3
theorem grown_cell {w w' : World} {row : Option Nat} (h : w.grownBy w' row) (g o : Nat) (v : Value) (hr : row = some g) : w.grownBy (w'.setCell ⟨g, o, none⟩ v) row :=
  ⟨h.os, h.tape, h.output, by rw [sz_set]; exact h.size, fun k hk hne => by rw [hp_set, if_neg (fun e => hne (by rw [e, hr]))]; exact h.block k hk hne⟩
/-- Bytes that may be written: a slice's n cells, its block from B to below C. -/
def Bytesy (B C : Nat) (w : World) (v : Value) (n : Nat) : Prop := ∀ j, j < n → ∃ g cap x, v = .slice (some ⟨g, 0, none⟩) n cap ∧ n ≤ cap ∧ cap ≤ 9223372036854775807 ∧ B ≤ g ∧ g < C ∧ w.cell? ⟨g, j, none⟩ = some (.int .u8 x) ∧ w.frozen? ⟨g, j, none⟩ = false
theorem Bytesy.of_own {w : World} {B : Nat} {v : Value} {l : List UInt8} (h : w.ownsRow B 5 1 v l.length (bl l)) : Bytesy B w.heap.size w v l.length := by
  intro j hj
  rcases h.2 with ⟨rfl, h0⟩ | ⟨g, cap, cur, rfl, hb, hg, h1, h2, h3, h4⟩
  · omega
  · have hB : Blk w g 5 cur := hg
    refine ⟨g, cap, (byteAt l j : Nat), rfl, h1, by unfold maxLen at h2; omega, hb, hB.lt, ?_, hB.frozen j⟩
    have := (Rd.of_own h).cells (by omega)
    obtain ⟨b, o, e, _, hc⟩ := this
    injection e with e
    injection e with e1 e2
    subst e1 e2
    have := hc j _ (bl_at l j hj)
    simpa using this
theorem Bytesy.keep {B C : Nat} {w w' : World} {v : Value} {n : Nat} (h : Bytesy B C w v n) (hw : ∀ g, B ≤ g → g < C → w'.heap[g]? = w.heap[g]?) : Bytesy B C w' v n := fun j hj => by
  obtain ⟨g, cap, x, e, a1, a2, hb, hc, h1, h2⟩ := h j hj
  have hblk := hw g hb hc
  refine ⟨g, cap, x, e, a1, a2, hb, hc, ?_, ?_⟩
  · rw [← h1]; unfold World.cell?; simp [hblk]
  · rw [← h2]; unfold World.frozen?; simp [hblk]
theorem Bytesy.set {B C : Nat} {w : World} {v : Value} {n g cap i : Nat} {y : Int} (h : Bytesy B C w v n) (hv : v = .slice (some ⟨g, 0, none⟩) n cap) (hi : i < n) : Bytesy B C (w.setCell ⟨g, i, none⟩ (.int .u8 y)) v n := fun j hj => by
  obtain ⟨g', cap', x, e, a1, a2, hb, hc, h1, h2⟩ := h j hj
  rw [hv] at e
  injection e with e _ e3
  injection e with e
  injection e with e
  subst e e3
  by_cases hji : j = i
  · subst hji
    exact ⟨g, cap, y, hv, a1, a2, hb, hc, World.cell?_setCell_same' _ _ _ (by rw [h1]; rfl), by rw [World.frozen?_setCell]; exact h2⟩
  · exact ⟨g, cap, x, hv, a1, a2, hb, hc, by rw [World.cell?_setCell_other _ _ _ _ (by simp [hji])]; exact h1, by rw [World.frozen?_setCell]; exact h2⟩
theorem own_block {w : World} {B e size n : Nat} {v : Value} {xs : List Value} (h : w.ownsRow B e size v n xs) : ∀ g, v.ownBlock = some g → B ≤ g ∧ g < w.heap.size := fun g hg => h.lt g hg
set_option maxHeartbeats 3200000 in
theorem shaSums_law (v : Value) (l : List UInt8) (w : World) (hs : Sl w 1 v l.length (bl l)) (hC : Cubes w) : callE Tryd.prog 5 #[v] w fun v w' => v = .bool true ∧ Below w.heap.size w w' := by
  obtain ⟨A, c, rfl, hrd, hA, hc1, hc2⟩ := hs
  have hRB : RdB w (.slice A l.length c) l := ⟨A, c, rfl, hrd, fun e => (hA e).1, hc1, hc2⟩
  have x5 : (bl (sha l)).length = 32 := by rw [bl_length, sha_length]
  refine calls_E Tryd.func5 rfl rfl rfl (Nat.le_of_ble_eq_true rfl) ?_
  simp [go_sem, IntWalk.iteOmega, IntWalk.toNatUp]
  refine callE_of (begun_any w hC) ?_
  rintro v w1 ⟨rfl, hB1⟩
  by_cases hlong : 2000 < l.length
  · have hl' : (2000 : Int) < l.length := by omega
    simp [go_sem, IntWalk.iteOmega, IntWalk.toNatUp, hl']
    refine callE_of (begun_any w1 (hC.keep hB1)) ?_
    rintro v w2 ⟨rfl, hB2⟩
    simp [go_sem, IntWalk.iteOmega, IntWalk.toNatUp]
    exact ext_trans hB1 hB2
  · have hl' : ¬ (2000 : Int) < l.length := by omega
    simp [go_sem, IntWalk.iteOmega, IntWalk.toNatUp, hl']
    refine callE_of (clone_any A _ c l w1 (hrd.keep hB1) (fun e => (hA e).1) (by omega)) ?_
    rintro v w2 ⟨hown, hB2⟩
    have hby := Bytesy.of_own hown
    have hblk := own_block hown
    have hkown := hown
    obtain ⟨A2, c2, rfl, hr21, hr22, hr23, hr24⟩ := own_rdB hown
    simp [go_sem, IntWalk.iteOmega, IntWalk.toNatUp]
    have k2 := ext_trans hB1 hB2
    refine callE_of (refSum_any A c l w2 (hrd.keep k2) (fun e => (hA e).1) (by omega)) ?_
    rintro v w3 ⟨rfl, hB3⟩
    simp [go_sem, IntWalk.iteOmega, IntWalk.toNatUp, idz_fold, can_new, store_new _ _ (sha_length l), x5, bl_one]
    refine callE_at fun W4 hW4 => ?_
    obtain ⟨b4, hB4, hS4⟩ := news1 hW4
    clear hW4
    have k4 := ext_trans (ext_trans k2 hB3) hB4
    refine callE_of (new_any W4) ?_
    rintro v w5 ⟨b, hb, rfl, hBk, hB5⟩
    simp [go_sem, IntWalk.iteOmega, IntWalk.toNatUp]
    refine callE_at fun W6 hW6 => ?_
    obtain ⟨b6, hB6, hS6⟩ := news1 hW6
    clear hW6
    have hs6 : StateAt W6 b [] := ⟨by have := hC.pos; have := k4.size; omega, by simp, .slice none 0 0, hBk.keep hB6, World.ownsRow_nil _ _ _ _⟩
    have K : Below w2.heap.size w2 W6 := ext_trans (ext_trans (ext_trans hB3 hB4) hB5) hB6
    have k6 := ext_trans (ext_trans k4 hB5) hB6
    have hz4 := hB4.size
    have hz3 := hB3.size
    have hz2 := hB2.size
    have hz1 := hB1.size
    have hz5 := hB5.size
    have hz6 := hB6.size
    have hoff : Off b W6 fun w' => RdB w' (.slice A2 l.length c2) l := fun w' hw' => RdB.keep ⟨A2, c2, rfl, hr21, hr22, hr23, hr24⟩ (K.trans (below_else hw' (by omega) (by omega)))
    have hoff2 : Off b W6 fun w' => Blk w' w5.heap.size 29 #[.slice A2 l.length c2] := fun w' hw' => b6.off hw' (by have := hBk.lt; omega)
    refine callE_of (write_any b 1 1 _ [] [l] [.slice A2 l.length c2] W6 hs6 (hC.keep k6) (fun w' hw' => ⟨⟨rfl, fun _ => ⟨_, 0, rfl, (hoff2 w' hw').lt, fun j u hu => by rw [(hoff2 w' hw').cell]; simpa using hu⟩⟩, rfl, ?_⟩) (by omega) (by simp; omega)) ?_
    · intro j v m hv hm
      match j, hv, hm with
      | 0, hv, hm => injection hv with hv; injection hm with hm; subst hv hm; exact hoff w' hw'
      | n + 1, hv, hm => simp at hv
    rintro v w7 ⟨rfl, hs7, hg7, _⟩
    rw [show [] ++ [l].flatten = l by simp] at hs7
    have k7 : Below w.heap.size w w7 := k6.trans (below_else hg7 (by omega) (by omega))
    have b47 : Blk w7 w3.heap.size 23 (bl (sha l)).toArray := ((b4.keep hB5).keep hB6).off hg7 (by omega)
    have hby7 : Bytesy w1.heap.size w2.heap.size w7 (.slice A2 l.length c2) l.length := hby.keep fun g h1 h2 => (hg7.block g (by omega) (fun e => by injection e; omega)).trans (K.block g h2)
    clear hoff hoff2 hs6 b6 hBk hS6 hS4 b4 hkown hr21 hown hby
    simp [go_sem, IntWalk.iteOmega, IntWalk.toNatUp]
    refine W_loop (fun s wr => ∃ i : Nat, i ≤ l.length ∧ s 0 = .slice A l.length c ∧ s 3 = .slice A2 l.length c2 ∧ s 4 = .pointer (some ⟨w3.heap.size, 0, none⟩) ∧ s 5 = .pointer (some ⟨b, 0, none⟩) ∧ s 30 = .int .i64 l.length ∧ s 31 = .int .i64 i ∧
      w7.grownBy wr (Value.slice A2 l.length c2).ownBlock ∧ Bytesy w1.heap.size w2.heap.size wr (.slice A2 l.length c2) l.length) (fun s _ => l.length - (intOf (s 31)).toNat) ?_ ?_
    · exact ⟨0, by omega, by simp [go_sem], by simp [go_sem], by simp [go_sem], by simp [go_sem], by simp [go_sem], by simp [go_sem], World.grownBy.refl _ _, hby7⟩
    · clear hby7
      rintro s wr ⟨i, hi, e0, e3, e4, e5, e30, e31, hgr, hby⟩
      by_cases hlt : i < l.length
      · obtain ⟨g, cap, x, ev, hcap1, hcap2, hg1, hg2, hcell, hfr⟩ := hby i hlt
        injection ev with ev1 ev2 ev3
        subst ev1 ev3
        simp [go_sem, IntWalk.iteOmega, IntWalk.toNatUp, e0, e3, e4, e5, e30, e31, hlt, hcell, hfr]
        refine roundEnd.mk ⟨i + 1, by omega, by simp [go_sem, e0], by simp [go_sem, e3], by simp [go_sem, e4], by simp [go_sem, e5], by simp [go_sem, e30], by simp [go_sem], grown_cell hgr g i _ rfl, hby.set rfl hlt⟩ ?_
        simp [go_sem, intOf]; omega
      · obtain rfl : i = l.length := by omega
        have hsr := hs7.grown hgr (fun g hg => by have := hblk g hg; omega)
        have b4r : Blk wr w3.heap.size 23 (bl (sha l)).toArray := (hgr.block _ b47.lt (fun e => by have := hblk _ e.symm; omega)).trans b47
        have kr : Below w.heap.size w wr := k7.grown hgr k7.size (fun g hg => by have := hblk g hg; omega)
        have hCr := hC.keep kr
        have r4 := readCells_all b4r 32 (by simpa using x5)
        have l4 := b4r.lt
        have Su : ∀ k, anyCall Tryd.prog 19 #[.slice A l.length c] wr k = k (.agg (bl (sha l)).toArray) := fun k => anyCall_eq (by kernel_rfl) (fun w hw => shaSum_any _ l w ((hRB.keep kr).keep hw) (hCr.keep hw) (by omega)) k
        have St : ∀ k, anyCall Tryd.prog 20 #[.pointer (some ⟨b, 0, none⟩)] wr k = k (.agg (bl (sha l)).toArray) := fun k => anyCall_eq (by kernel_rfl) (fun w hw => stateSum_any b l w (hsr.keep hw) (hCr.keep hw)) k
        have Le : ∀ k, anyCall Tryd.prog 21 #[.pointer (some ⟨b, 0, none⟩)] wr k = k (.int .i64 l.length) := fun k => anyCall_eq (by kernel_rfl) (fun w hw => stateLen_any b l w (hsr.keep hw)) k
        have I := id_eq0 (sha l) (sha l) (sha_length l) (sha_length l)
        clear hby hgr hs7 hg7 hsr b4r b47 K k2 k4 k6 k7 hB1 hB2 hB3 hB4 hB5 hB6
        simp [go_sem, IntWalk.iteOmega, IntWalk.toNatUp, e0, e3, e4, e5, e30, e31]
        refine W_below follows (by kernel_rfl) ?_
        simp [go_sem, IntWalk.iteOmega, IntWalk.toNatUp, e0, e3, e4, e5, r4, Su, St, Le, I]
        intro w8 hB8
        exact ext_trans kr hB8
end Go.Proofs.YtlhlfodmcffeoaaDoor
