/-
  The law SampleCounts: its walk.
-/
import Derived.Test.YtmoafaaeeanofaaSPairs
import Derived.Test.YtmoafaaeeanofaaSBegun
import Derived.Test.YtmoafaaeeanofaaSRest
namespace Go.Proofs.Ytmoafaaeeanofaa
open Go.RowKit
set_option linter.unusedVariables false
set_option linter.unusedSimpArgs false
set_option maxRecDepth 10000
set_option maxHeartbeats 12800000 in
theorem lawCounts_any (m : Int) (hm : InI m) (s : List Int) (hI : AllI s) (most : Nat) (hmo : most ≤ 255) (vs : Value) (w : World) (hs : Sl w 1 vs s.length (intsK .i64 s)) :
    callE Try.prog 7 #[.int .i64 m, vs, .int .u8 most] w fun v w' => v = .bool true ∧ Below w.heap.size w w' := by
  obtain ⟨A, cap, rfl, hrd, hA, hc1, hc2⟩ := id hs
  refine calls_E Try.func7 rfl rfl rfl (Nat.le_of_ble_eq_true rfl) ?_
  simp [go_sem, IntWalk.iteOmega, IntWalk.toNatUp]
  refine callE_of (begun_any w) ?_
  rintro _ w1 ⟨rfl, k1⟩
  by_cases hlen : (300 : Int) < s.length
  · simp [go_sem, IntWalk.iteOmega, IntWalk.toNatUp, hlen]
    refine callE_of (begun_any w1) ?_
    rintro _ w2 ⟨rfl, k2⟩
    simp [go_sem, IntWalk.iteOmega, IntWalk.toNatUp]
    exact ext_trans k1 k2
  simp [go_sem, IntWalk.iteOmega, IntWalk.toNatUp, hlen]
  refine callE_of (vCount_any m hm s hI (by omega) _ w1 (Sl_kept hs k1)) ?_
  rintro _ w2 ⟨⟨u, rfl, hu⟩, k2⟩
  have kk2 := ext_trans k1 k2
  simp [go_sem, IntWalk.iteOmega, IntWalk.toNatUp]
  refine callE_of (rCount_any m hm s hI (by omega) _ w2 (Sl_kept hs kk2)) ?_
  rintro _ w3 ⟨⟨y, rfl, hy⟩, k3⟩
  have kk3 := ext_trans kk2 k3
  have hcl := count_len m s
  have htl := told_len m s
  have hT : toldL m s = posP (enumP (countV m s).2) := rfl
  replace hu := Sl_kept hu k3
  generalize (countV m s).1 = c1 at *
  generalize (countV m s).2 = cs at *
  obtain ⟨B, capB, rfl, hrB, hB, hb1, hb2⟩ := id hy
  simp [go_sem, IntWalk.iteOmega, IntWalk.toNatUp]
  refine W_loop (fun st wr => ∃ (i : Nat) (out : Value), i ≤ cs.length ∧ st 0 = .int .i64 m ∧ st 1 = .slice A s.length cap ∧ st 2 = .int .u8 most ∧ st 7 = u ∧ st 8 = .int .i64 c1 ∧ st 9 = .slice B cs.length capB ∧ st 10 = .int .i64 c1 ∧
    st 11 = out ∧ st 34 = .slice B cs.length capB ∧ st 35 = .int .i64 cs.length ∧ st 36 = .int .i64 i ∧
    wr.ownsRow w3.heap.size 51 2 out (posP ((enumP cs).take i)).length (prs (posP ((enumP cs).take i))) ∧ Below w3.heap.size w3 wr) (fun st _ => cs.length - (intOf (st 36)).toNat) ?_ ?_
  · exact ⟨0, .slice none 0 0, by omega, by simp [go_sem], by simp [go_sem], by simp [go_sem], by simp [go_sem], by simp [go_sem], by simp [go_sem], by simp [go_sem], by simp [go_sem], by simp [go_sem], by simp [go_sem], by simp [go_sem], World.ownsRow_nil _ _ _ _, Below.refl _ _⟩
  rintro st wr ⟨i, out, hi, e0, e1, e2, e7, e8, e9, e10, e11, e34, e35, e36, hout, hb3⟩
  have hpl : (posP ((enumP cs).take i)).length ≤ 32 := by
    have h1 : (posP ((enumP cs).take i)).length ≤ ((enumP cs).take i).length := List.length_filter_le _ _
    rw [List.length_take, enumP_length] at h1; omega
  by_cases hlt : i < cs.length
  · obtain ⟨b, o, rfl, hb, hc⟩ := hrB.cells (by omega)
    have y0 := hc _ _ (intsK_at hlt)
    rw [← hb3.cell hb] at y0
    have hlt' : (i : Int) < cs.length := by omega
    have htk := enumP_step hlt
    have hsn := posP_snoc ((enumP cs).take i) ((i : Int), cs.getD i 0)
    rw [← htk] at hsn
    generalize cs.getD i 0 = x at *
    by_cases hq : 0 < x
    · rw [if_pos hq] at hsn
      simp [go_sem, IntWalk.iteOmega, IntWalk.toNatUp, e0, e1, e2, e7, e8, e9, e10, e11, e34, e35, e36, hlt, hlt', y0, hq]
      have eA := ext_alloc wr (.cells #[.int .i64 i, .int .i64 x] 51)
      have hxb : Blk (wr.alloc (.cells #[.int .i64 i, .int .i64 x] 51)) wr.heap.size 51 #[.int .i64 i, .int .i64 x] := Blk.self_ rfl
      have hnew : Rd (wr.alloc (.cells #[.int .i64 i, .int .i64 x] 51)) 2 (some ⟨wr.heap.size, 0, none⟩) 1 (prs [((i : Int), x)]) :=
        ⟨rfl, fun _ => ⟨_, _, rfl, by simp, fun j u hu => by rw [hxb.cell, Nat.zero_add, List.getElem?_toArray]; exact hu⟩⟩
      have hout2 := own_below hout eA
      have hB2 := hb3.trans (eA.mono hb3.size)
      generalize wr.alloc (.cells #[.int .i64 i, .int .i64 x] 51) = w5 at *
      refine appendE w3.heap.size 51 2 16 Try.underlying49 el51 hout2 hnew rfl (by unfold maxLen; omega) (by omega) hB2.size ?_
      intro out' w6 hout6 hgr6 hblk6
      have hb6 := hB2.grown hgr6 hB2.size (fun k hk => (hout2.lt k hk).1)
      rw [← prs_append, ← hsn] at hout6
      have hl6 : (posP ((enumP cs).take i)).length + 1 = (posP ((enumP cs).take (i + 1))).length := by rw [hsn]; simp
      rw [hl6] at hout6
      simp [go_sem, IntWalk.iteOmega, IntWalk.toNatUp, e0, e1, e2, e7, e8, e9, e10, e34, e35, e36]
      refine roundEnd.mk ⟨i + 1, out', by omega, by simp [go_sem, e0], by simp [go_sem, e1], by simp [go_sem, e2], by simp [go_sem, e7], by simp [go_sem, e8], by simp [go_sem, e9], by simp [go_sem, e10], by simp [go_sem], by simp [go_sem, e34], by simp [go_sem, e35], by simp [go_sem], hout6, hb6⟩ ?_
      simp [go_sem, intOf, e36]; omega
    · rw [if_neg hq, List.append_nil] at hsn
      simp [go_sem, IntWalk.iteOmega, IntWalk.toNatUp, e0, e1, e2, e7, e8, e9, e10, e11, e34, e35, e36, hlt, hlt', y0, hq]
      refine roundEnd.mk ⟨i + 1, out, by omega, by simp [go_sem, e0], by simp [go_sem, e1], by simp [go_sem, e2], by simp [go_sem, e7], by simp [go_sem, e8], by simp [go_sem, e9], by simp [go_sem, e10], by simp [go_sem, e11], by simp [go_sem, e34], by simp [go_sem, e35], by simp [go_sem], by rw [hsn]; exact hout, hb3⟩ ?_
      simp [go_sem, intOf, e36]; omega
  obtain rfl : i = cs.length := by omega
  have hall : (enumP cs).take cs.length = enumP cs := List.take_of_length_le (by rw [enumP_length]; omega)
  rw [hall, ← hT] at hout
  clear hpl
  obtain ⟨hslw, A2, c2, rfl⟩ := own_sl hout
  have hc2w : (toldL m s).length ≤ c2 := by
    obtain ⟨_, _, e, _, _, h, _⟩ := hslw
    injection e with _ _ e3
    omega
  have hTD : ∀ (k : Nat) (v : Value) (w' : World), Sl w' 2 v ((toldL m s).take k).length (prs ((toldL m s).take k)) → Sl w' 2 v ((toldL m s).take k).length (prs ((toldL m s).take k)) := fun _ _ _ h => h
  obtain ⟨T, hTe⟩ : ∃ T, toldL m s = T := ⟨_, rfl⟩
  rw [hTe] at hout hslw hc2w htl e11
  clear hTD
  simp [go_sem, IntWalk.iteOmega, IntWalk.toNatUp, e0, e1, e2, e7, e8, e9, e10, e11, e34, e35, e36]
  refine W_tree (.pure 0 (.pure 1 (.one 2 (.pure 3 (.pure 4 (.pure 5 (.pure 6 (.pure 7 (.pure 8 (.pure 9 (.pure 10 (.pure 12 (.one 11 (.one 13 (.pure 14 (.pure 15 (.pure 16 (.pure 17 (.pure 18 (.pure 19 (.pure 21 (.pure 22 (.pure 23 (.pure 24 (.pure 25 (.pure 26 (.pure 27 (.one 20 (.one 28 (.pure 29 (.pure 30 (.done)))))))))))))))))))))))))))))))) follows (by kernel_rfl) ?_
  have kk3 : Below w.heap.size w wr.drew := (kk3.trans (hb3.mono kk3.size)).drew
  have kd : Below w3.heap.size w3 wr.drew := hb3.drew
  have kdw : Below wr.heap.size wr wr.drew := (Below.refl _ _).drew
  have hu4 := Sl_kept hu kd
  have hy4 := Sl_kept hy kd
  obtain ⟨Aw, cw, ew, rw1, rw2, rw3, rw4⟩ := id hslw
  have hslw2 : Sl wr.drew 2 (.slice A2 T.length c2) T.length (prs T) := ⟨Aw, cw, ew, rw1.keep kdw, rw2, rw3, rw4⟩
  generalize wr.drew = w4 at *
  simp [go_sem, IntWalk.iteOmega, IntWalk.toNatUp, e0, e1, e2, e7, e8, e9, e10, e11]
  refine callE_of (equalI_any cs cs _ _ w4 hu4 hy4) ?_
  rintro _ w5 ⟨rfl, k5⟩
  rw [decide_eq_true (rfl : cs = cs)]
  have kk5 := ext_trans kk3 k5
  simp [go_sem, IntWalk.iteOmega, IntWalk.toNatUp, e0, e1, e2, e7, e8, e9, e10, e11]
  refine callE_of (told_any m hm s hI (by omega) 1048576 _ w5 (Sl_kept hs kk5) (by omega)) ?_
  rintro v6 w6 ⟨s6, k6⟩
  have kk6 := ext_trans kk5 k6
  have kw6 := ext_trans k5 k6
  rw [hTe, List.take_of_length_le (by omega)] at s6
  have hslw6 : Sl w6 2 (.slice A2 T.length c2) T.length (prs T) := by
    obtain ⟨A9, c9, e9', r1, r2, r3, r4⟩ := hslw2
    exact ⟨A9, c9, e9', r1.keep kw6, r2, r3, r4⟩
  simp [go_sem, IntWalk.iteOmega, IntWalk.toNatUp, e0, e1, e2, e7, e8, e9, e10, e11]
  refine callE_of (equalP_same T _ _ w6 s6 hslw6) ?_
  rintro _ w7 ⟨rfl, k7⟩
  have kk7 := ext_trans kk6 k7
  have hmn : min (T.length : Int) (most : Int) = ((min T.length most : Nat) : Int) := by omega
  have hmc : ((min T.length most : Nat) : Int) ≤ c2 := by omega
  have hmc' : min T.length most ≤ c2 := by omega
  have htk : T.take (min T.length most) = T.take most := by
    rcases Nat.le_total T.length most with h | h
    · rw [Nat.min_eq_left h, List.take_length, List.take_of_length_le h]
    · rw [Nat.min_eq_right h]
  have hfront := Sl_frontP hslw6 (k := min T.length most) (by omega)
  rw [htk] at hfront
  have hE1 : (if most < T.length then (most : Int) else (T.length : Int)) = ((min T.length most : Nat) : Int) := by
    by_cases h : most < T.length
    · rw [if_pos h]; omega
    · rw [if_neg h]; omega
  have fw1 : IntKind.i64.wrap (most : Int) = most := by rw [IntKind.wrap_i64]; omega
  simp [go_sem, IntWalk.iteOmega, IntWalk.toNatUp, e0, e1, e2, e7, e8, e9, e10, e11, fw1, hE1, hmn, hmc, hmc']
  refine callE_of (told_any m hm s hI (by omega) most _ w7 (Sl_kept hs kk7) (by omega)) ?_
  rintro v8 w8 ⟨s8, k8⟩
  have kk8 := ext_trans kk7 k8
  rw [hTe] at s8
  have hf8 : Sl w8 2 (.slice A2 (min T.length most) c2) (T.take most).length (prs (T.take most)) := by
    obtain ⟨A9, c9, e9', r1, r2, r3, r4⟩ := hfront
    exact ⟨A9, c9, e9', r1.keep (ext_trans k7 k8), r2, r3, r4⟩
  simp [go_sem, IntWalk.iteOmega, IntWalk.toNatUp, e0, e1, e2, e7, e8, e9, e10, e11]
  refine callE_of (equalP_same (T.take most) _ _ w8 s8 hf8) ?_
  rintro _ w9 ⟨rfl, k9⟩
  simp [go_sem, IntWalk.iteOmega, IntWalk.toNatUp]
  exact ext_trans kk8 k9
theorem lawCounts_any' (m : Int) (hm : InI m) (s : List Int) (hI : AllI s) (most : Int) (hmo : 0 ≤ most ∧ most ≤ 255) (vs : Value) (w : World) (hs : Sl w 1 vs s.length (intsK .i64 s)) :
    callE Try.prog 7 #[.int .i64 m, vs, .int .u8 most] w fun v w' => v = .bool true ∧ Below w.heap.size w w' := by
  obtain ⟨k, rfl⟩ : ∃ k : Nat, most = k := ⟨most.toNat, by omega⟩
  exact lawCounts_any m hm s hI k (by omega) vs w hs
end Go.Proofs.Ytmoafaaeeanofaa
