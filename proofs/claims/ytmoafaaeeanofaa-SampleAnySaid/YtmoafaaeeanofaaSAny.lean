/-
  The law SampleAny: its walk.
-/
import Derived.Test.YtmoafaaeeanofaaSAnyLaw
import Derived.Test.YtmoafaaeeanofaaSBegun
import Derived.Test.YtmoafaaeeanofaaSRest
namespace Go.Proofs.Ytmoafaaeeanofaa
open Go.RowKit
set_option linter.unusedVariables false
set_option linter.unusedSimpArgs false
set_option maxRecDepth 10000
theorem Sl_take {w : World} {A : Option Addr} {n c : Nat} {xs : List Value} (h : Sl w 1 (.slice A n c) n xs) (m : Nat) (hm : m ≤ n) : Sl w 1 (.slice A m c) m (xs.take m) := by
  obtain ⟨A', c', e, hrd, hA, hc1, hc2⟩ := h
  obtain ⟨rfl, rfl⟩ : A = A' ∧ c = c' := by simpa using e
  refine ⟨_, _, rfl, ⟨?_, ?_⟩, ?_, by omega, by omega⟩
  · rw [List.length_take_of_le (by have := hrd.len; omega)]; omega
  · intro h0
    obtain ⟨b, o, rfl, hb, hc⟩ := hrd.cells (by omega)
    refine ⟨b, o, rfl, hb, fun j u hu => hc j u ?_⟩
    rw [List.getElem?_take] at hu
    split at hu
    · exact hu
    · cases hu
  · intro he
    obtain ⟨h1, h2⟩ := hA he
    exact ⟨by omega, h2⟩
theorem wf_U32 {l : List Int} (h : ∀ a ∈ l, (Lit.int .u32 a).wf = true) : ∀ x ∈ l, 0 ≤ x ∧ x ≤ 4294967295 := fun x hx => by
  have := h x hx
  simp only [Lit.wf, Bool.and_eq_true, decide_eq_true_eq, show IntKind.u32.min = 0 from rfl, show IntKind.u32.max = 4294967295 from rfl] at this
  exact this
theorem intsK_take (k : IntKind) (l : List Int) (m : Nat) : (intsK k l).take m = intsK k (l.take m) := by unfold intsK; rw [List.map_take]
theorem cnt_step {W : List Int} {j i : Nat} {x : Int} (hj : i < j) (hl : j ≤ W.length) : cnt ((W.take j).take (i + 1)) x = cnt ((W.take j).take i) x + if W.getD i 0 < x then 1 else 0 := by
  have hg : (W.take j).getD i 0 = W.getD i 0 := by
    rw [List.getD_eq_getElem?_getD, List.getD_eq_getElem?_getD, List.getElem?_take, if_pos hj]
  rw [take_succ_at (by rw [List.length_take_of_le hl]; exact hj), cnt_append, cnt_cons, hg]
  rw [show cnt [] x = 0 from rfl, Int.zero_add]
def anyI (total : Int) (n i : Nat) (A : Option Addr) (c : Nat) (w0 : World) (st : Slots) (wr : World) : Prop :=
  ∃ (W : List Int) (v : Value), W.Nodup ∧ (∀ y ∈ W, 0 ≤ y ∧ y < total) ∧ W.length ≤ i ∧ st 5 = v ∧ wr.ownsRow w0.heap.size 2 1 v W.length (intsK .i64 W) ∧ Below w0.heap.size w0 wr
set_option maxHeartbeats 6400000 in
theorem lawAny_any (total : Int) (ht : InI total) (wish : List Int) (hU : ∀ x ∈ wish, 0 ≤ x ∧ x ≤ 4294967295) (vw : Value) (w : World) (hs : Sl w 1 vw wish.length (intsK .u32 wish)) :
    callE Try.prog 4 #[.int .i64 total, vw] w fun v w' => v = .bool true ∧ Below w.heap.size w w' := by
  obtain ⟨A, cap, rfl, hrd, hA, hc1, hc2⟩ := id hs
  refine calls_E Try.func4 rfl rfl rfl (Nat.le_of_ble_eq_true rfl) ?_
  simp [go_sem, IntWalk.iteOmega, IntWalk.toNatUp]
  refine callE_of (begun_any w) ?_
  rintro _ w1 ⟨rfl, k1⟩
  by_cases h1 : total < 1
  · simp [go_sem, IntWalk.iteOmega, IntWalk.toNatUp, h1]
    refine callE_of (begun_any w1) ?_
    rintro _ w2 ⟨rfl, k2⟩
    simp [go_sem, IntWalk.iteOmega, IntWalk.toNatUp]
    exact ext_trans k1 k2
  by_cases h2 : 4611686018427387903 < total
  · simp [go_sem, IntWalk.iteOmega, IntWalk.toNatUp, h1, h2]
    refine callE_of (begun_any w1) ?_
    rintro _ w2 ⟨rfl, k2⟩
    simp [go_sem, IntWalk.iteOmega, IntWalk.toNatUp]
    exact ext_trans k1 k2
  obtain ⟨n, hn, hnl, hn64⟩ : ∃ n : Nat, min (wish.length : Int) 64 = n ∧ n ≤ wish.length ∧ n ≤ 64 := ⟨(min (wish.length : Int) 64).toNat, by omega, by omega, by omega⟩
  have hE : (if (64 : Int) < wish.length then (64 : Int) else wish.length) = n := by rw [minN]; exact hn
  simp [go_sem, IntWalk.iteOmega, IntWalk.toNatUp, h1, h2, hE]
  have hcut := Sl_take (Sl_kept hs k1) n hnl
  rw [intsK_take] at hcut
  generalize hT : wish.take n = T at *
  have hTl : T.length = n := by rw [← hT, List.length_take_of_le hnl]
  have hTU : ∀ x ∈ T, 0 ≤ x ∧ x ≤ 4294967295 := fun x hx => hU x (List.mem_of_mem_take (hT ▸ hx))
  obtain ⟨A1, c1, e1, hrd1, hA1, _, _⟩ := id hcut
  obtain ⟨rfl, rfl⟩ : A = A1 ∧ cap = c1 := by simpa using e1
  refine W_loop (fun st wr => ∃ i : Nat, i ≤ n ∧ st 0 = .int .i64 total ∧ st 32 = .slice A n cap ∧ st 33 = .int .i64 n ∧ st 34 = .int .i64 i ∧ anyI total n i A cap w1 st wr) (fun st _ => n - (intOf (st 34)).toNat) ?_ ?_
  · exact ⟨0, by omega, by simp [go_sem], by simp [go_sem], by simp [go_sem], by simp [go_sem], [], .slice none 0 0, List.nodup_nil, (fun y hy => by cases hy), Nat.le_refl _, by simp [go_sem], World.ownsRow_nil _ _ _ _, Below.refl _ _⟩
  · rintro st wr ⟨i, hi, e0, e32, e33, e34, W, v, hnd, hin, hWl, e5, hout, hbw⟩
    by_cases hlt : i < n
    · obtain ⟨b, o, rfl, hb, hc⟩ := hrd1.cells (by omega)
      have y0 := hc _ _ (intsK_at (l := T) (i := i) (by omega))
      rw [← hbw.cell hb] at y0
      have hlt' : (i : Int) < n := by omega
      have hx := hTU _ (getD_mem (l := T) (i := i) (by omega))
      generalize T.getD i 0 = x at *
      have f1 : IntKind.i64.wrap x = x := by rw [IntKind.wrap_i64]; omega
      have f2 : x.tmod total = x % total := Int.tmod_eq_emod_of_nonneg hx.1
      have hm := emod_in (d := x) (m := total) (by omega)
      have f3 : IntKind.i64.wrap (x % total) = x % total := by rw [IntKind.wrap_i64]; omega
      have f4 : (total == 0) = false := beq_eq_false_iff_ne.2 (by omega)
      generalize hy : x % total = y at *
      obtain ⟨hsl1, A2, c2, rfl⟩ := own_sl hout
      simp [go_sem, IntWalk.iteOmega, IntWalk.toNatUp, e0, e5, e32, e33, e34, hlt, hlt', y0, f1, f2, f3, f4]
      refine callE_of (contains_any W y _ wr hsl1) ?_
      rintro _ w4 ⟨rfl, k4⟩
      have hout4 := own_below hout k4
      have hb4 := hbw.trans (k4.mono hbw.size)
      by_cases hmem : y ∈ W
      · rw [decide_eq_true hmem]
        simp [go_sem, IntWalk.iteOmega, IntWalk.toNatUp, e0, e5, e32, e33, e34]
        refine roundEnd.mk ⟨i + 1, by omega, by simp [go_sem, e0], by simp [go_sem, e32], by simp [go_sem, e33], by simp [go_sem], W, _, hnd, hin, by omega, by simp [go_sem, e5], hout4, hb4⟩ ?_
        simp [go_sem, intOf, e34]; omega
      · rw [decide_eq_false hmem]
        simp [go_sem, IntWalk.iteOmega, IntWalk.toNatUp, e0, e5, e32, e33, e34]
        have kB := ext_alloc w4 (.cells #[.int .i64 y] 2)
        have hxb3 : Blk (w4.alloc (.cells #[.int .i64 y] 2)) w4.heap.size 2 #[.int .i64 y] := Blk.self_ rfl
        have hrx : Rd (w4.alloc (.cells #[.int .i64 y] 2)) 1 (some ⟨w4.heap.size, 0, none⟩) 1 (intsK .i64 [y]) := ⟨rfl, fun _ => ⟨_, 0, rfl, hxb3.lt, fun q u hu => by rw [hxb3.cell, Nat.zero_add, List.getElem?_toArray]; exact hu⟩⟩
        have houtB := own_below hout4 kB
        have hbB := hb4.trans (kB.mono hb4.size)
        generalize w4.alloc (.cells #[.int .i64 y] 2) = w5 at *
        refine appendE w1.heap.size 2 1 8 Try.underlying22 el2 houtB hrx rfl (by unfold maxLen; omega) (by omega) hbB.size ?_
        intro out' w6 hout6 hgr6 hblk6
        have hcat : intsK .i64 W ++ intsK .i64 [y] = intsK .i64 (W ++ [y]) := by simp [intsK]
        rw [hcat] at hout6
        have hb6 := hbB.grown hgr6 hbB.size (fun k hk => (houtB.lt k hk).1)
        have hlen6 : W.length + 1 = (W ++ [y]).length := by simp
        rw [hlen6] at hout6
        simp [go_sem, IntWalk.iteOmega, IntWalk.toNatUp, e0, e5, e32, e33, e34]
        refine roundEnd.mk ⟨i + 1, by omega, by simp [go_sem, e0], by simp [go_sem, e32], by simp [go_sem, e33], by simp [go_sem], W ++ [y], out', ?_, ?_, by rw [← hlen6]; omega, by simp [go_sem], hout6, hb6⟩ ?_
        · rw [List.nodup_append]
          refine ⟨hnd, by simp, fun a ha b' hb' => ?_⟩
          rw [List.mem_singleton.1 hb']
          intro e
          exact hmem (e ▸ ha)
        · intro z hz
          rcases List.mem_append.1 hz with hz | hz
          · exact hin z hz
          · rw [List.mem_singleton.1 hz]; exact hm
        · simp [go_sem, intOf, e34]; omega
    · obtain rfl : i = n := by omega
      obtain ⟨hsl1, A2, c2, rfl⟩ := own_sl hout
      simp [go_sem, IntWalk.iteOmega, IntWalk.toNatUp, e0, e5, e32, e33, e34]
      clear hout
      have hWl64 : W.length ≤ 64 := by omega
      refine W_loop (fun st2 wr2 => ∃ (j : Nat) (dv : Value), j ≤ W.length ∧ st2 0 = .int .i64 total ∧ st2 5 = .slice A2 W.length c2 ∧ st2 51 = .slice A2 W.length c2 ∧ st2 52 = .int .i64 W.length ∧ st2 53 = .int .i64 j ∧ st2 9 = dv ∧
        wr2.ownsRow wr.heap.size 37 1 dv j (intsK .u64 (drawsFor W j)) ∧ Below wr.heap.size wr wr2) (fun st2 _ => W.length - (intOf (st2 53)).toNat) ?_ ?_
      · exact ⟨0, .slice none 0 0, by omega, by simp [go_sem, e0], by simp [go_sem, e5], by simp [go_sem, e5], by simp [go_sem], by simp [go_sem], by simp [go_sem], World.ownsRow_nil _ _ _ _, Below.refl _ _⟩
      · rintro st2 wr2 ⟨j, dv, hj, g0, g5, g51, g52, g53, g9, hdr, hb2⟩
        have hslW := Sl_kept hsl1 hb2
        by_cases hjl : j < W.length
        · obtain ⟨A3, c3, e3, hrd3, _, _, _⟩ := id hslW
          obtain ⟨rfl, rfl⟩ : A2 = A3 ∧ c2 = c3 := by simpa using e3
          obtain ⟨b, o, rfl, hb, hc⟩ := hrd3.cells (by omega)
          have y0 := hc _ _ (intsK_at hjl)
          have hjl' : (j : Int) < W.length := by omega
          have hrk := rank_at hnd hin hjl
          have hsu := drawsFor_succ W j
          have hzin := hin _ (getD_mem hjl)
          generalize W.getD j 0 = z at *
          simp [go_sem, IntWalk.iteOmega, IntWalk.toNatUp, g0, g5, g51, g52, g53, g9, hjl, hjl', y0]
          refine W_loop (fun st3 wr3 => ∃ q : Nat, q ≤ j ∧ st3 0 = .int .i64 total ∧ st3 5 = .slice (some ⟨b, o, none⟩) W.length c2 ∧ st3 51 = .slice (some ⟨b, o, none⟩) W.length c2 ∧ st3 52 = .int .i64 W.length ∧ st3 53 = .int .i64 j ∧ st3 9 = dv ∧
            st3 11 = .int .i64 z ∧ st3 12 = .int .i64 (cnt ((W.take j).take q) z) ∧ st3 60 = .slice (some ⟨b, o, none⟩) j c2 ∧ st3 61 = .int .i64 j ∧ st3 62 = .int .i64 q ∧ wr3 = wr2) (fun st3 _ => j - (intOf (st3 62)).toNat) ?_ ?_
          · exact ⟨0, by omega, by simp [go_sem, g0], by simp [go_sem, g5], by simp [go_sem, g51], by simp [go_sem, g52], by simp [go_sem, g53], by simp [go_sem, g9], by simp [go_sem], by simp [go_sem, cnt], by simp [go_sem], by simp [go_sem], by simp [go_sem], rfl⟩
          · rintro st3 wr3 ⟨q, hq, i0, i5, i51, i52, i53, i9, i11, i12, i60, i61, i62, rfl⟩
            by_cases hql : q < j
            · have y1 := hc _ _ (intsK_at (l := W) (i := q) (by omega))
              have hql' : (q : Int) < j := by omega
              have hst := cnt_step (x := z) hql (show j ≤ W.length by omega)
              have hcn := cnt_nn ((W.take j).take q) z
              have hcl : ((W.take j).take q).length ≤ 64 := by rw [List.length_take, List.length_take]; omega
              have fw : IntKind.i64.wrap (cnt ((W.take j).take q) z + 1) = cnt ((W.take j).take q) z + 1 := by rw [IntKind.wrap_i64]; omega
              generalize W.getD q 0 = y at *
              by_cases hyz : y < z
              · rw [if_pos hyz] at hst
                simp [go_sem, IntWalk.iteOmega, IntWalk.toNatUp, i0, i5, i51, i52, i53, i9, i11, i12, i60, i61, i62, hql, hql', y1, hyz, fw]
                refine roundEnd.mk ⟨q + 1, by omega, by simp [go_sem, i0], by simp [go_sem, i5], by simp [go_sem, i51], by simp [go_sem, i52], by simp [go_sem, i53], by simp [go_sem, i9], by simp [go_sem, i11], by simp [go_sem, hst], by simp [go_sem, i60], by simp [go_sem, i61], by simp [go_sem], rfl⟩ ?_
                simp [go_sem, intOf, i62]; omega
              · rw [if_neg hyz, Int.add_zero] at hst
                simp [go_sem, IntWalk.iteOmega, IntWalk.toNatUp, i0, i5, i51, i52, i53, i9, i11, i12, i60, i61, i62, hql, hql', y1, hyz]
                refine roundEnd.mk ⟨q + 1, by omega, by simp [go_sem, i0], by simp [go_sem, i5], by simp [go_sem, i51], by simp [go_sem, i52], by simp [go_sem, i53], by simp [go_sem, i9], by simp [go_sem, i11], by simp [go_sem, hst, i12], by simp [go_sem, i60], by simp [go_sem, i61], by simp [go_sem], rfl⟩ ?_
                simp [go_sem, intOf, i62]; omega
            · obtain rfl : q = j := by omega
              have htt : (W.take q).take q = W.take q := by rw [List.take_take, Nat.min_self]
              rw [htt] at i12
              have hcn := cnt_nn (W.take q) z
              have hcl : (W.take q).length ≤ 64 := by rw [List.length_take]; omega
              have f1 : IntKind.i64.wrap (z - cnt (W.take q) z) = z - cnt (W.take q) z := by rw [IntKind.wrap_i64]; omega
              have f2 : IntKind.u64.wrap (z - cnt (W.take q) z) = z - cnt (W.take q) z := by rw [IntKind.wrap_u64]; omega
              simp [go_sem, IntWalk.iteOmega, IntWalk.toNatUp, i0, i5, i51, i52, i53, i9, i11, i12, i60, i61, i62, f1, f2]
              generalize z - cnt (W.take q) z = d at *
              have kB := ext_alloc wr3 (.cells #[.int .u64 d] 37)
              have hxb3 : Blk (wr3.alloc (.cells #[.int .u64 d] 37)) wr3.heap.size 37 #[.int .u64 d] := Blk.self_ rfl
              have hrx : Rd (wr3.alloc (.cells #[.int .u64 d] 37)) 1 (some ⟨wr3.heap.size, 0, none⟩) 1 (intsK .u64 [d]) := ⟨rfl, fun _ => ⟨_, 0, rfl, hxb3.lt, fun q u hu => by rw [hxb3.cell, Nat.zero_add, List.getElem?_toArray]; exact hu⟩⟩
              have hdrB := own_below hdr kB
              have hbB := hb2.trans (kB.mono hb2.size)
              generalize wr3.alloc (.cells #[.int .u64 d] 37) = w5 at *
              refine appendE wr.heap.size 37 1 8 Try.underlying23 el37 hdrB hrx rfl (by unfold maxLen; omega) (by omega) hbB.size ?_
              intro out' w6 hout6 hgr6 hblk6
              have hcat : intsK .u64 (drawsFor W q) ++ intsK .u64 [d] = intsK .u64 (drawsFor W (q + 1)) := by rw [hsu]; simp [intsK]
              rw [hcat] at hout6
              have hb6 := hbB.grown hgr6 hbB.size (fun k hk => (hdrB.lt k hk).1)
              simp [go_sem, IntWalk.iteOmega, IntWalk.toNatUp, i0, i5, i51, i52, i53, i9]
              refine roundEnd.mk ⟨q + 1, out', by omega, by simp [go_sem, i0], by simp [go_sem, i5], by simp [go_sem, i51], by simp [go_sem, i52], by simp [go_sem], by simp [go_sem], hout6, hb6⟩ ?_
              simp [go_sem, intOf, i53]; omega
        · obtain rfl : j = W.length := by omega
          obtain ⟨hslD, A3, c3, rfl⟩ := own_sl hdr
          have hlaw := any_law hnd hin (by omega) (by omega)
          simp [go_sem, IntWalk.iteOmega, IntWalk.toNatUp, g0, g5, g51, g52, g53, g9]
          have hdl : W.length = (drawsFor W W.length).length := (drawsFor_length _ _).symm
          have hslD2 : Sl wr2 1 (.slice A3 W.length c3) (drawsFor W W.length).length (intsK .u64 (drawsFor W W.length)) := by rw [← hdl]; exact hslD
          refine callE_of (vUnits_any total W.length (by omega) (by omega) (drawsFor W W.length) (drawsFor_U64 hnd hin (by omega)) _ wr2 hslD2) ?_
          rintro _ w7 ⟨⟨u, rfl, hu⟩, k7⟩
          rw [hlaw] at hu ⊢
          simp [go_sem, IntWalk.iteOmega, IntWalk.toNatUp, g0, g5, g51, g52, g53, g9]
          refine callE_of (equalL_any _ _ _ _ w7 hu (Sl_kept hslW k7)) ?_
          rintro _ w8 ⟨rfl, k8⟩
          rw [decide_eq_true (rfl : W = W)]
          simp [go_sem, IntWalk.iteOmega, IntWalk.toNatUp, g0, g5, g51, g52, g53, g9]
          exact ext_trans (k1.trans ((hbw.trans (hb2.mono hbw.size)).mono k1.size)) (ext_trans k7 k8)
end Go.Proofs.Ytmoafaaeeanofaa
