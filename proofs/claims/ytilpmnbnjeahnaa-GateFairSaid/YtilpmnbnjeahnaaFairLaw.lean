/-
  The law GateFair: its walk.
-/
import Derived.Test.YtilpmnbnjeahnaaGBegun
import Derived.Test.YtilpmnbnjeahnaaGFairPlain
namespace Go.Proofs.Ytilpmnbnjeahnaa
open Go.RowKit
set_option linter.unusedVariables false
set_option linter.unusedSimpArgs false
set_option maxRecDepth 10000
set_option maxHeartbeats 6400000 in
theorem fair_any (own : Int) (l : List Int) (a b : Nat) (ha : a < 256) (hb : b < 256) (vl : Value) (w : World) (hs : Sl w 1 vl l.length (ints .i64 l)) :
    callE Try.prog 5 #[.int .i64 own, vl, .int .u8 a, .int .u8 b] w fun u w' => u = .bool true ∧ Below w.heap.size w w' := by
  obtain ⟨A, cap, rfl, hrd, hA, hc1, hc2⟩ := id hs
  have hsum := fun k => callE_eq noinit_rsum (rsum_runs l _ w hs) k
  refine calls_E Try.func5 rfl rfl rfl (Nat.le_of_ble_eq_true rfl) ?_
  simp [go_sem, IntWalk.iteOmega, IntWalk.toNatUp, hsum]
  refine callE_of (begun_any _) ?_
  rintro _ w1 ⟨rfl, k1⟩
  by_cases hk : okW l = true
  · by_cases h1 : own < 0
    · simp [go_sem, IntWalk.iteOmega, IntWalk.toNatUp, hk, h1]
      refine callE_of (begun_any _) ?_
      rintro _ w2 ⟨rfl, k2⟩
      simp [go_sem, IntWalk.iteOmega, IntWalk.toNatUp]
      exact ext_trans k1 k2
    · by_cases h2 : 1073741824 < own
      · simp [go_sem, IntWalk.iteOmega, IntWalk.toNatUp, hk, h1, h2]
        refine callE_of (begun_any _) ?_
        rintro _ w2 ⟨rfl, k2⟩
        simp [go_sem, IntWalk.iteOmega, IntWalk.toNatUp]
        exact ext_trans k1 k2
      · have hw := okW_of hk
        have ho : 0 ≤ own := by omega
        have ho2 : own ≤ 1073741824 := by omega
        simp [go_sem, IntWalk.iteOmega, IntWalk.toNatUp, hk, h1, h2]
        refine W_loop (fun s wr => ∃ (i : Nat) (sv : Value), i ≤ l.length ∧ s 0 = .int .i64 own ∧ s 1 = .slice A l.length cap ∧ s 2 = .int .u8 a ∧ s 3 = .int .u8 b ∧ s 11 = .int .i64 (allTo own l i) ∧ s 12 = sv ∧ s 39 = .int .i64 l.length ∧ s 40 = .int .i64 i ∧
          wr.ownsRow w.heap.size 2 1 sv i (ints .i64 (sharesTo own l i)) ∧ Below w.heap.size w wr) (fun s _ => l.length - (intOf (s 40)).toNat) ?_ ?_
        · exact ⟨0, .slice none 0 0, by omega, by simp [go_sem], by simp [go_sem], by simp [go_sem], by simp [go_sem], by simp [go_sem, allTo], by simp [go_sem], by simp [go_sem], by simp [go_sem], World.ownsRow_nil _ _ _ _, k1⟩
        · rintro s wr ⟨i, sv, hi, e0, e1, e2, e3, e11, e12, e39, e40, hown, hbw⟩
          by_cases hlt : i < l.length
          · obtain ⟨q0, q1⟩ := shareOf_at ho ho2 hk hlt
            have hx0 := (all_le ho ho2 hk (show i + 1 ≤ l.length from hlt))
            have hx1 := (all_le ho ho2 hk (show i ≤ l.length by omega))
            have hxx : 0 ≤ shareOf own l i := by
              rw [q0]
              have hp := okW_pos hk
              have := okTo_at hw.2.2 hlt
              exact (share_bounds ho (by omega) (by omega)).1
            have hstep : allTo own l (i + 1) = allTo own l i + shareOf own l i := rfl
            rw [hstep] at hx0
            simp [go_sem, IntWalk.iteOmega, IntWalk.toNatUp, e0, e1, e2, e3, e11, e12, e39, e40, hlt]
            refine callE_of (gshare_any own i l _ wr (Sl_keep hs hbw)) ?_
            rintro _ w3 ⟨rfl, hB3⟩
            rw [q1]
            generalize hx : shareOf own l i = x at *
            generalize allTo own l i = T at *
            simp [go_sem, IntWalk.iteOmega, IntWalk.toNatUp, e0, e1, e2, e3, e11, e12, e39, e40, show ¬ x < 0 by omega]
            have hown3 := own_far hown fun k cs hk => hB3.block _ (Blk.lt (t := 2) hk)
            have hNew : Blk (w3.alloc (.cells #[.int .i64 x] 2)) w3.heap.size 2 #[.int .i64 x] := Blk.self_ rfl
            have kN := ext_alloc w3 (.cells #[.int .i64 x] 2)
            have hB4 := ext_trans hB3 kN
            have hown4 := own_far hown3 fun k cs hk => kN.block _ (Blk.lt (t := 2) hk)
            have hbase : w.heap.size ≤ (w3.alloc (.cells #[.int .i64 x] 2)).heap.size := Nat.le_trans hbw.size hB4.size
            have hRd : Rd (w3.alloc (.cells #[.int .i64 x] 2)) 1 (some ⟨w3.heap.size, 0, none⟩) 1 [.int .i64 x] := ⟨by simp, fun _ => ⟨_, 0, rfl, hNew.lt, fun j u hu => by rw [hNew.cell]; simpa using hu⟩⟩
            refine appendE w.heap.size 2 1 8 und24 el2 hown4 hRd rfl (by unfold maxLen; omega) (by omega) hbase ?_
            intro v' w5 hown5 hgr5 hor
            have hbw5 : Below w.heap.size w w5 := (hbw.trans (hB4.mono hbw.size)).grown hgr5 hbase fun k hk => (hown4.lt k hk).1
            simp [go_sem, IntWalk.iteOmega, IntWalk.toNatUp, e0, e1, e2, e3, e11, e12, e39, e40]
            refine roundEnd.mk ⟨i + 1, v', by omega, by simp [go_sem, e0], by simp [go_sem, e1], by simp [go_sem, e2], by simp [go_sem, e3], ?_, by simp [go_sem], by simp [go_sem, e39], by simp [go_sem], ?_, hbw5⟩ ?_
            · rw [hstep]; simp [go_sem]
            · rw [sharesTo_succ, hx]; simpa [ints] using hown5
            · simp [go_sem, intOf]; omega
          · obtain rfl : i = l.length := by omega
            have hn1 := hw.1
            obtain ⟨sb, scap, rfl, hsB, hslt, hslen, hsc⟩ := own_cells hown (show 0 < l.length by omega)
            have fa : (a : Int).tmod l.length = ((a % l.length : Nat) : Int) := rfl
            have fb : (b : Int).tmod l.length = ((b % l.length : Nat) : Int) := rfl
            have hxl : a % l.length < l.length := Nat.mod_lt _ (by omega)
            have hyl : b % l.length < l.length := Nat.mod_lt _ (by omega)
            have ga : IntKind.i64.wrap (a : Int) = a := by rw [IntKind.wrap_i64]; omega
            have gb : IntKind.i64.wrap (b : Int) = b := by rw [IntKind.wrap_i64]; omega
            have hn0 : ¬ ((l.length : Int) = 0) := by omega
            have hnil : ¬ l = [] := by rintro rfl; simp at hn1
            have hsl := Sl_keep hs hbw
            obtain ⟨A', cap', e', hrd', _⟩ := hsl
            injection e' with e1' e2' e3'
            subst e1'; subst e3'
            obtain ⟨bb, oo, rfl, hbb, hcc⟩ := hrd'.cells (by omega)
            have cx := hcc (a % l.length) _ (ints_at hxl)
            have cy := hcc (b % l.length) _ (ints_at hyl)
            have sx := hsc (a % l.length) hxl
            have sy := hsc (b % l.length) hyl
            have shx : (sharesTo own l l.length).getD (a % l.length) 0 = shareOf own l ((a % l.length : Nat) : Int) := by simp [sharesTo, List.getD, hxl]
            have shy : (sharesTo own l l.length).getD (b % l.length) 0 = shareOf own l ((b % l.length : Nat) : Int) := by simp [sharesTo, List.getD, hyl]
            rw [shx] at sx
            rw [shy] at sy
            have hmono := share_mono ho ho2 hk hxl hyl
            have hle := (all_le ho ho2 hk (Nat.le_refl l.length)).2
            have hnear := all_near ho ho2 hk
            generalize a % l.length = x at *
            generalize b % l.length = y at *
            generalize allTo own l l.length = T at *
            generalize l.getD x 0 = wx at *
            generalize l.getD y 0 = wy at *
            generalize shareOf own l (x : Nat) = px at *
            generalize shareOf own l (y : Nat) = py at *
            have h32 := hw.2.1
            simp [go_sem, IntWalk.iteOmega, IntWalk.toNatUp, e0, e1, e2, e3, e11, e12, e39, e40]
            refine W_still follows (by kernel_rfl) ?_
            simp [go_sem, IntWalk.iteOmega, IntWalk.toNatUp, e0, e1, e2, e3, e11, e12, fa, fb, ga, gb, hn0, hnil]
            refine W_still follows (by kernel_rfl) ?_
            by_cases hwxy : wy < wx
            · simp [go_sem, IntWalk.iteOmega, IntWalk.toNatUp, e0, e1, e2, e3, e11, e12, cx, cy, sx, sy, hxl, hyl, hle, hnear, hwxy]
              exact hbw.drew.drew
            · have hp : px ≤ py := hmono (by omega)
              simp [go_sem, IntWalk.iteOmega, IntWalk.toNatUp, e0, e1, e2, e3, e11, e12, cx, cy, sx, sy, hxl, hyl, hle, hnear, hwxy, hp]
              exact hbw.drew.drew
  · have hk' : okW l = false := by simpa using hk
    simp [go_sem, IntWalk.iteOmega, IntWalk.toNatUp, hk']
    refine callE_of (begun_any _) ?_
    rintro _ w2 ⟨rfl, k2⟩
    simp [go_sem, IntWalk.iteOmega, IntWalk.toNatUp]
    exact ext_trans k1 k2
end Go.Proofs.Ytilpmnbnjeahnaa
