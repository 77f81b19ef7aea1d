/-
  ScriptWords: its walk.
-/
import Derived.Test.YtmdkkhogldklnaaDoorRRRRSMove
namespace Go.Proofs.YtmdkkhogldklnaaDoorRRRR
open Go.RowKit
open Go.Lib (strCells byteCells decDigits)
set_option linter.unusedVariables false
set_option linter.unusedSimpArgs false
set_option maxRecDepth 10000
set_option maxHeartbeats 6400000 in
theorem live_any (w : World) : callE Tryd.prog 4 #[] w fun v w' => v = .bool true ∧ Below w.heap.size w w' := by
  refine calls_E Tryd.func4 rfl rfl rfl (Nat.le_of_ble_eq_true rfl) ?_
  simp [go_sem, IntWalk.iteOmega, IntWalk.toNatUp]
  have k1 := ext_alloc w (.cells #[.int .u64 7, .int .u64 0] 27)
  have hD : Blk (w.alloc (.cells #[.int .u64 7, .int .u64 0] 27)) w.heap.size 27 #[.int .u64 7, .int .u64 0] := Blk.self_ rfl
  generalize w.alloc (.cells #[.int .u64 7, .int .u64 0] 27) = w1 at *
  refine callE_of (line_tick (fun j u hu => by rw [hD.cell, Nat.zero_add]; simpa using hu) hD.lt) ?_
  rintro _ w2 ⟨rfl, k2⟩
  have kk := ext_trans k1 k2
  simp [go_sem, IntWalk.iteOmega, IntWalk.toNatUp]
  refine callE_of line_build ?_
  rintro _ w3 ⟨rfl, k3⟩
  have kk := ext_trans kk k3
  simp [go_sem, IntWalk.iteOmega, IntWalk.toNatUp]
  refine callE_of move_tick ?_
  rintro _ w4 ⟨⟨a, c, rfl⟩, k4⟩
  have kk := ext_trans kk k4
  have hM : Blk (w4.alloc (.cells #[.int .i64 3, .int .i64 1, .int .i64 0, .int .i64 30, .slice none 0 0, .slice a 2 c] 40)) w4.heap.size 40 #[.int .i64 3, .int .i64 1, .int .i64 0, .int .i64 30, .slice none 0 0, .slice a 2 c] := Blk.self_ rfl
  have kk := kk.alloc kk.size (.cells #[.int .i64 3, .int .i64 1, .int .i64 0, .int .i64 30, .slice none 0 0, .slice a 2 c] 40)
  simp [go_sem, IntWalk.iteOmega, IntWalk.toNatUp]
  generalize w4.alloc (.cells #[.int .i64 3, .int .i64 1, .int .i64 0, .int .i64 30, .slice none 0 0, .slice a 2 c] 40) = w5 at *
  have ct : (⟨#[97, 32, 32, 98]⟩ : ByteArray) = strOf [97, 32, 32, 98] := rfl
  simp [go_sem, IntWalk.iteOmega, IntWalk.toNatUp, hM.cell, ct]
  refine callE_of (words_any [97, 32, 32, 98] (by simp) w5) ?_
  rintro v6 w6 ⟨o6, k6⟩
  have hws : wordsV [97, 32, 32, 98] = [[97], [], [98]] := by decide +kernel
  rw [hws] at o6
  obtain ⟨g, c6, rfl, -⟩ := own_slice o6 (by simp)
  simp [go_sem, IntWalk.iteOmega, IntWalk.toNatUp]
  exact ext_trans kk k6
set_option maxHeartbeats 1600000 in
theorem equalS_same (xs : List (List UInt8)) (vx vy : Value) (w : World) (hx : Sl w 1 vx xs.length (strs xs)) (hy : Sl w 1 vy xs.length (strs xs)) :
    callE Tryd.prog 9 #[vx, vy] w fun v w' => v = .bool true ∧ Below w.heap.size w w' := by
  obtain ⟨A, cap, rfl, hrx, hA, hc1, hc2⟩ := id hx
  obtain ⟨B, cap2, rfl, hry, hB, hd1, hd2⟩ := id hy
  refine calls_E Tryd.func9 rfl rfl rfl (Nat.le_of_ble_eq_true rfl) ?_
  simp [go_sem, IntWalk.iteOmega, IntWalk.toNatUp]
  refine W_loop (fun st wr => ∃ i : Nat, i ≤ xs.length ∧ st 0 = .slice A xs.length cap ∧ st 1 = .slice B xs.length cap2 ∧ st 12 = .int .i64 xs.length ∧ st 13 = .int .i64 i ∧ Below w.heap.size w wr) (fun st _ => xs.length - (intOf (st 13)).toNat) ?_ ?_
  · exact ⟨0, by omega, by simp [go_sem], by simp [go_sem], by simp [go_sem], by simp [go_sem], Below.refl _ _⟩
  · rintro st wr ⟨i, hi, e0, e1, e12, e13, hbw⟩
    by_cases hlt : i < xs.length
    · obtain ⟨b, o, rfl, hb, hcx⟩ := hrx.cells (by omega)
      obtain ⟨b2, o2, rfl, hb2, hcy⟩ := hry.cells (by omega)
      have a0 : (strs xs)[i]? = some (.string (strOf xs[i])) := by simp [strs, hlt]
      have x0 := hcx _ _ a0
      have y0 := hcy _ _ a0
      rw [← hbw.cell hb] at x0
      rw [← hbw.cell hb2] at y0
      have hlt' : (i : Int) < xs.length := by omega
      generalize xs[i] = x at *
      have x0' : wr.drew.cell? ⟨b, o + i, none⟩ = some (.string (strOf x)) := x0
      have y0' : wr.drew.cell? ⟨b2, o2 + i, none⟩ = some (.string (strOf x)) := y0
      simp [go_sem, IntWalk.iteOmega, IntWalk.toNatUp, e0, e1, e12, e13, hlt, hlt']
      refine W_still follows (by kernel_rfl) ?_
      simp [go_sem, IntWalk.iteOmega, IntWalk.toNatUp, e0, e1, e12, e13, hlt, hlt', x0', y0']
      refine roundEnd.mk ⟨i + 1, by omega, by simp [go_sem, e0], by simp [go_sem, e1], by simp [go_sem, e12], by simp [go_sem], hbw.drew⟩ ?_
      simp [go_sem, intOf]; omega
    · obtain rfl : i = xs.length := by omega
      simp [go_sem, IntWalk.iteOmega, IntWalk.toNatUp, e0, e1, e12, e13]
      exact hbw
theorem conv_own {w : World} {base : Nat} {v : Value} {l : List UInt8} (h : w.ownsRow base 5 1 v l.length (byteCells l)) : (convert 22 9 v).run Tryd.prog w = .ok (.string (strOf l)) w := by
  rcases h.2 with ⟨rfl, h0⟩ | ⟨g, cap, cur, rfl, hb, hg, hnc, _⟩
  · have hl : l = [] := List.length_eq_zero_iff.1 h0
    subst hl
    exact run_convert_bytes_nil w 22 5 Tryd.underlying22 Tryd.underlying5 0 0 9 Tryd.underlying9
  · rw [run_convert_bytes_arg w 22 5 Tryd.underlying22 Tryd.underlying5 g 0 l.length cap (l.map fun x => (x.toNat : Int)) (by simp) (fun i hi => ?_) 9 Tryd.underlying9]
    · simp [strOfNums, strOf, Function.comp_def]
    · have := h.cells (g := g) rfl i _ (bl_at l i hi)
      rw [add_none] at this
      rw [this]
      simp [List.getElem?_eq_getElem hi]
theorem equalB_same {w : World} {base base' : Nat} {v v' : Value} {l : List UInt8} (h : w.ownsRow base 5 1 v l.length (byteCells l)) (h' : w.ownsRow base' 5 1 v' l.length (byteCells l)) :
    callE Tryd.prog 14 #[v, v'] w fun u w' => u = .bool true ∧ w' = w := by
  refine (Tryd.bytes_Equal_strs v v' (strOf l) (strOf l) w (conv_own h) (conv_own h')).mono ?_
  rintro e w' ⟨rfl, rfl⟩
  exact ⟨_, rfl, by simp, rfl⟩
set_option maxHeartbeats 6400000 in
theorem scriptwords_any (s : List UInt8) (hs : s.length ≤ 9223372036854775807) (l : List UInt8) (vl : Value) (w : World) (hl : Sl w 1 vl l.length (byteCells l)) :
    callE Tryd.prog 3 #[.string (strOf s), vl] w fun v w' => v = .bool true ∧ Below w.heap.size w w' := by
  obtain ⟨A, cap, rfl, hrd, hA, hc1, hc2⟩ := id hl
  refine calls_E Tryd.func3 rfl rfl rfl (Nat.le_of_ble_eq_true rfl) ?_
  simp [go_sem, IntWalk.iteOmega, IntWalk.toNatUp]
  refine callE_of (live_any w) ?_
  rintro _ w1 ⟨rfl, k1⟩
  by_cases q1 : 3000 < s.length
  · have q1' : (3000 : Int) < s.length := by omega
    simp [go_sem, IntWalk.iteOmega, IntWalk.toNatUp, strOf_size, q1']
    refine callE_of (live_any w1) ?_
    rintro _ w2 ⟨rfl, k2⟩
    simp [go_sem, IntWalk.iteOmega, IntWalk.toNatUp]
    exact ext_trans k1 k2
  · have q1' : ¬ (3000 : Int) < s.length := by omega
    by_cases q2 : 1000 < l.length
    · have q2' : (1000 : Int) < l.length := by omega
      simp [go_sem, IntWalk.iteOmega, IntWalk.toNatUp, strOf_size, q1', q2']
      refine callE_of (live_any w1) ?_
      rintro _ w2 ⟨rfl, k2⟩
      simp [go_sem, IntWalk.iteOmega, IntWalk.toNatUp]
      exact ext_trans k1 k2
    · have q2' : ¬ (1000 : Int) < l.length := by omega
      simp [go_sem, IntWalk.iteOmega, IntWalk.toNatUp, strOf_size, q1', q2']
      refine callE_of (bytes_any s (by omega) w1) ?_
      rintro _ w2 ⟨⟨u2, rfl, o2⟩, k2⟩
      have kk := ext_trans k1 k2
      simp [go_sem, IntWalk.iteOmega, IntWalk.toNatUp]
      refine callE_of (rbytes_any s (by omega) w2) ?_
      rintro _ w3 ⟨⟨u3, rfl, o3⟩, k3⟩
      have kk := ext_trans kk k3
      have o2 := own_keep o2 k3
      simp [go_sem, IntWalk.iteOmega, IntWalk.toNatUp]
      refine callE_of (number_any s (by omega) w3) ?_
      rintro _ w4 ⟨rfl, k4⟩
      have kk := ext_trans kk k4
      have o2 := own_keep o2 k4
      have o3 := own_keep o3 k4
      obtain ⟨na, nb, hnum⟩ : ∃ na nb, numR s = .tuple #[.int .u64 na, .int .i64 nb] := by
        unfold numR; split
        · exact ⟨_, _, rfl⟩
        · exact ⟨_, _, rfl⟩
      simp [go_sem, IntWalk.iteOmega, IntWalk.toNatUp, hnum]
      refine callE_of (rnumber_any s (by omega) w4) ?_
      rintro _ w5 ⟨rfl, k5⟩
      have kk := ext_trans kk k5
      have o2 := own_keep o2 k5
      have o3 := own_keep o3 k5
      simp [go_sem, IntWalk.iteOmega, IntWalk.toNatUp, hnum]
      refine callE_of (words_any s (by omega) w5) ?_
      rintro v6 w6 ⟨o6, k6⟩
      have kk := ext_trans kk k6
      have o2 := own_keep o2 k6
      have o3 := own_keep o3 k6
      simp [go_sem, IntWalk.iteOmega, IntWalk.toNatUp]
      refine callE_of (rwords_any s (by omega) w6) ?_
      rintro v7 w7 ⟨o7, k7⟩
      have kk := ext_trans kk k7
      have o2 := own_keep o2 k7
      have o3 := own_keep o3 k7
      have o6 := own_keep o6 k7
      simp [go_sem, IntWalk.iteOmega, IntWalk.toNatUp]
      refine callE_of (equalS_same (wordsV s) v6 v7 w7 (own_sl o6).1 (own_sl o7).1) ?_
      rintro _ w8 ⟨rfl, k8⟩
      have kk := ext_trans kk k8
      have o2 := own_keep o2 k8
      have o3 := own_keep o3 k8
      simp [go_sem, IntWalk.iteOmega, IntWalk.toNatUp]
      refine callE_of (hex_any l (by omega) _ w8 (Sl_on hl kk)) ?_
      rintro _ w9 ⟨rfl, k9⟩
      have kk := ext_trans kk k9
      have o2 := own_keep o2 k9
      have o3 := own_keep o3 k9
      simp [go_sem, IntWalk.iteOmega, IntWalk.toNatUp]
      refine callE_of (rhex_any l (by omega) _ w9 (Sl_on hl kk)) ?_
      rintro _ w10 ⟨rfl, k10⟩
      have kk := ext_trans kk k10
      have o2 := own_keep o2 k10
      have o3 := own_keep o3 k10
      simp [go_sem, IntWalk.iteOmega, IntWalk.toNatUp]
      refine callE_of (equalB_same o2 o3) ?_
      rintro _ _ ⟨rfl, rfl⟩
      simp [go_sem, IntWalk.iteOmega, IntWalk.toNatUp]
      exact kk
theorem scriptwords_any' (s : ByteArray) (hs : s.size ≤ 9223372036854775807) (l : List UInt8) (vl : Value) (w : World) (hl : Sl w 1 vl l.length (byteCells l)) :
    callE Tryd.prog 3 #[.string s, vl] w fun v w' => v = .bool true ∧ Below w.heap.size w w' := by
  have := scriptwords_any s.data.toList (by rw [Array.length_toList]; exact hs) l vl w hl
  rw [strOf_self] at this
  exact this
end Go.Proofs.YtmdkkhogldklnaaDoorRRRR
