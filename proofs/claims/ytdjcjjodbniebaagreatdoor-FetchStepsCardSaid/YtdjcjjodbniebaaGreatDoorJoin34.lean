/-
  Texts joined: FTurns, FNones.
-/
import Derived.Test.YtdjcjjodbniebaaGreatDoorJoin33
namespace Go.Proofs.YtdjcjjodbniebaaGreatDoor
open Go.RowKit
set_option linter.unusedVariables false
set_option linter.unusedSimpArgs false
set_option maxRecDepth 10000
set_option maxHeartbeats 12800000 in
theorem turns_any {w : World} (hC : Cubes w) {id : List UInt8} (hid : id.length = 32) {v1 v2 : Value} {l1 l2 : List UInt8} (h1 : RdB w v1 l1) (h2 : RdB w v2 l2) :
    callE Tryz.prog 7 #[.agg (bl id).toArray, v1, v2] w fun r w' => r = .bool true ∧ Below w.heap.size w w' := by
  have hpos := hC.pos
  have l32 : (bl id).length = 32 := by rw [bl_length]; exact hid
  have kA := ext_alloc w (.cells (bl id).toArray 27)
  have hI : Blk (w.alloc (.cells (bl id).toArray 27)) w.heap.size 27 (bl id).toArray := Blk.self_ rfl
  have hsA : w.heap.size < (w.alloc (.cells (bl id).toArray 27)).heap.size := by simp
  obtain ⟨A1, c1, rfl, hr1, hA1, hc11, hc12⟩ := h1
  obtain ⟨A2, c2, rfl, hr2, hA2, hc21, hc22⟩ := h2
  refine calls_E Tryz.func7 rfl rfl rfl (Nat.le_of_ble_eq_true rfl) ?_
  simp [go_sem, IntWalk.iteOmega, IntWalk.toNatUp]
  generalize w.alloc (.cells (bl id).toArray 27) = w1 at *
  refine callE_of (lfirst_any w1) ?_
  rintro _ w2 ⟨rfl, hd2, k2⟩
  simp [go_sem, IntWalk.iteOmega, IntWalk.toNatUp]
  refine callE_of (named_any firstB_ok hd2) ?_
  rintro _ w3 ⟨rfl, k3⟩
  rw [idB_eq firstB_check nm0_eq]
  have k13 : Below w1.heap.size w1 w3 := k2.trans (k3.mono k2.size)
  have k03 := kA.trans (k13.mono kA.size)
  simp [go_sem, IntWalk.iteOmega, IntWalk.toNatUp]
  refine callE_of (fat_new nm0_len (by have := k03.size; omega)) ?_
  rintro _ w4 ⟨(⟨hbad, _⟩ | ⟨_, f, O, rfl, hF4, hO4⟩), k4⟩
  · exact absurd hbad (by decide)
  have k04 := k03.trans (k4.mono k03.size)
  have hI4 := (hI.keep k13).keep k4
  have kd4 := ext_drew w4
  simp [go_sem, IntWalk.iteOmega, IntWalk.toNatUp]
  refine W_flow (fun g => g = w.heap.size) (.one 0 (.pure 1 (.pure 2 (.pure 3 (.pure 4 (.pure 5 (.pure 6 (.pure 7 (.pure 8 (.pure 9 (.pure 10 (.pure 11 (.pure 12 (.pure 13 (.pure 14 (.pure 15 (.pure 16 (.pure 17 (.pure 18 (.pure 19 (.pure 20 (.pure 21 (.one 22 (.one 23 (.pure 24 (.pure 25 (.done))))))))))))))))))))))))))) follows (by kernel_rfl) ?_
  have hq := held_refl (fun g => g = w.heap.size) w4.drew
  have k04d := k04.drew
  have hF4d := hF4.keep kd4
  have hI4d := hI4.drew
  have hsd : w4.heap.size = w4.drew.heap.size := rfl
  generalize w4.drew = v4 at *
  simp [go_sem, IntWalk.iteOmega, IntWalk.toNatUp, hq]
  refine callE_of (begun_any (hC.keep k04d)) ?_
  rintro _ w5 ⟨rfl, k5⟩
  have k05 := k04d.trans (k5.mono k04d.size)
  have hq5 := hq.below k5
  have hI5 := hI4d.keep k5
  have hF5 := hF4d.keep k5
  by_cases hb1 : 100 < l1.length
  · have hb1' : (100 : Int) < l1.length := by omega
    simp [go_sem, IntWalk.iteOmega, IntWalk.toNatUp, hq5, hb1']
    refine callE_of (begun_any (hC.keep k05)) ?_
    rintro _ w6 ⟨rfl, k6⟩
    simp [go_sem, IntWalk.iteOmega, IntWalk.toNatUp]
    exact k05.trans (k6.mono k05.size)
  · have hb1' : ¬ (100 : Int) < l1.length := by omega
    by_cases hb2 : 100 < l2.length
    · have hb2' : (100 : Int) < l2.length := by omega
      simp [go_sem, IntWalk.iteOmega, IntWalk.toNatUp, hq5, hb1', hb2']
      refine callE_of (begun_any (hC.keep k05)) ?_
      rintro _ w6 ⟨rfl, k6⟩
      simp [go_sem, IntWalk.iteOmega, IntWalk.toNatUp]
      exact k05.trans (k6.mono k05.size)
    · have hb2' : ¬ (100 : Int) < l2.length := by omega
      have x5 := readCells_all hI4d 32 (by simpa using l32)
      have hIl := hI4d.lt
      simp [go_sem, IntWalk.iteOmega, IntWalk.toNatUp, hq5, hb1', hb2', x5, hIl]
      refine callE_of (lfirst_any w5) ?_
      rintro _ w6 ⟨rfl, hd6, k6⟩
      have k46 : Below v4.heap.size v4 w6 := k5.trans (k6.mono k5.size)
      have hq6 := hq.below k46
      simp [go_sem, IntWalk.iteOmega, IntWalk.toNatUp, hq6]
      refine callE_of (named_any firstB_ok hd6) ?_
      rintro _ w7 ⟨rfl, k7⟩
      rw [idB_eq firstB_check nm0_eq]
      have k47 : Below v4.heap.size v4 w7 := k46.trans (k7.mono k46.size)
      have hq7 := hq.below k47
      have hqe := fun W => id_eq id nm0 hid nm0_len W
      have k07 := k04d.trans (k47.mono k04d.size)
      by_cases hid0 : id = nm0
      · have hid0' : (id == nm0) = true := by simpa using hid0
        simp [go_sem, IntWalk.iteOmega, IntWalk.toNatUp, hq7, hqe, hid0']
        refine callE_of (begun_any (hC.keep k07)) ?_
        rintro _ w8 ⟨rfl, k8⟩
        simp [go_sem, IntWalk.iteOmega, IntWalk.toNatUp]
        exact k07.trans (k8.mono k07.size)
      · have hid0' : (id == nm0) = false := by simpa using hid0
        have hI7 := hI4d.keep k47
        have hF7 := hF4d.keep k47
        have hr1' : RdB w7 (.slice A1 l1.length c1) l1 := ⟨A1, c1, rfl, hr1.keep k07, hA1, hc11, hc12⟩
        have hr27 := hr2.keep k07
        simp [go_sem, IntWalk.iteOmega, IntWalk.toNatUp, hq7, hqe, hid0']
        refine callE_of (cloneU_any hr1' (by omega)) ?_
        rintro cv w8 ⟨hcv, k8⟩
        have k08 := k07.trans (k8.mono k07.size)
        obtain ⟨-, cA, cc, rfl⟩ := own_sl hcv
        simp [go_sem, IntWalk.iteOmega, IntWalk.toNatUp]
        have hbl : allOne (bl l2) = true := bl_one l2
        refine appendE w7.heap.size 5 1 1 Tryz.underlying22 el5 hcv (hr27.keep k8) hbl (by unfold maxLen; omega) (by omega) k8.size ?_
        intro av w9 hav hg9 hbk9
        have hs7 : w.heap.size ≤ w7.heap.size := k07.size
        have k79 : Below w7.heap.size w7 w9 := k8.grown hg9 k8.size (fun k hk => (hcv.lt k hk).1)
        have k09 := k07.trans (k79.mono k07.size)
        have hI9 := hI7.keep k79
        have hF9 := hF7.keep k79
        have hall : bl l1 ++ bl l2 = bl (l1 ++ l2) := by simp [bl]
        rw [hall, show l1.length + l2.length = (l1 ++ l2).length by simp] at hav
        have hr19 := hr1.keep k09
        have hr29 := hr2.keep k09
        have hln : (l1 ++ l2).length ≤ 200 := by simp; omega
        have hlen12 : l1.length + l2.length = (l1 ++ l2).length := by simp
        generalize hal : l1 ++ l2 = al at *
        obtain ⟨-, aA, ac, rfl⟩ := own_sl hav
        simp [go_sem, IntWalk.iteOmega, IntWalk.toNatUp, hlen12]
        have hFlt := hF9.lt
        refine W_loop (fun st wr => ∃ i wv, i ≤ al.length ∧ st 1 = .slice A1 l1.length c1 ∧ st 2 = .slice A2 l2.length c2 ∧ st 3 = .pointer (some ⟨w.heap.size, 0, none⟩) ∧ st 7 = .pointer (some ⟨f, 0, none⟩) ∧ st 9 = wv ∧ st 59 = .slice aA al.length ac ∧ st 60 = .int .i64 al.length ∧ st 61 = .int .i64 i ∧ wr.ownsRow w9.heap.size 3 1 wv (whoL ((al.take i).map plc)).length (intsK .i64 (whoL ((al.take i).map plc))) ∧ Below w9.heap.size w9 wr) (fun st _ => al.length - (intOf (st 61)).toNat) ?_ ?_
        · exact ⟨0, .slice none 0 0, by omega, by simp [go_sem], by simp [go_sem], by simp [go_sem], by simp [go_sem], by simp [go_sem], by simp [go_sem], by simp [go_sem], by simp [go_sem], World.ownsRow_nil _ _ _ _, Below.refl _ _⟩
        · rintro st wr ⟨i, wv, hi, d1, d2, d3, d7, d9, d59, d60, d61, hwv, hB⟩
          obtain ⟨-, wA, wc, rfl⟩ := own_sl hwv
          have hwn : (whoL ((al.take i).map plc)).length ≤ i := by
            have := who_len ((al.take i).map plc)
            rw [List.length_map, List.length_take] at this
            omega
          by_cases hlt : i < al.length
          · have hlt' : (i : Int) < al.length := by omega
            obtain ⟨gb, go, rfl, hgb, hgc⟩ := ((Rd.of_own hav).keep hB).cells (by omega)
            have x0 := hgc i _ (bl_at2 al i hlt)
            have hstep : whoL ((al.take (i + 1)).map plc) = addW (whoL ((al.take i).map plc)) (plc al[i]) := by
              rw [take_snoc hlt, List.map_append]
              unfold whoL
              rw [List.foldl_append]
              rfl
            have hcp := plc_range al[i]
            have hE1 : IntKind.i64.wrap ((al[i]).toNat : Int) = (al[i]).toNat := by rw [wrap_i64_if, if_pos (by have := (al[i]).toNat_lt; omega)]
            have hE2 : (((al[i]).toNat : Nat) : Int).tmod 32 = plc al[i] := by rw [Int.tmod_eq_emod_of_nonneg (by omega)]; unfold plc; omega
            generalize whoL ((al.take i).map plc) = wl at *
            generalize plc al[i] = k at *
            simp [go_sem, IntWalk.iteOmega, IntWalk.toNatUp, d1, d2, d3, d7, d9, d59, d60, d61, hlt, hlt', x0, hE1, hE2]
            refine callE_of (containsI_any (Rd.of_own hwv) (by omega) k) ?_
            rintro _ w10 ⟨rfl, rfl⟩
            by_cases hk : k ∈ wl
            · have hst2 : whoL ((al.take (i + 1)).map plc) = wl := by rw [hstep]; unfold addW; rw [if_pos hk]
              have hkd : decide (k ∈ wl) = true := by simpa using hk
              simp [go_sem, IntWalk.iteOmega, IntWalk.toNatUp, d1, d2, d3, d7, d9, d59, d60, d61, hkd, hk]
              refine roundEnd.mk ⟨i + 1, .slice wA wl.length wc, by omega, by simp [go_sem, d1], by simp [go_sem, d2], by simp [go_sem, d3], by simp [go_sem, d7], by simp [go_sem, d9], by simp [go_sem, d59], by simp [go_sem, d60], by simp [go_sem], by rw [hst2]; exact hwv, hB⟩ ?_
              simp [go_sem, intOf, d61]; omega
            · have hst2 : whoL ((al.take (i + 1)).map plc) = wl ++ [k] := by rw [hstep]; unfold addW; rw [if_neg hk]
              simp [go_sem, IntWalk.iteOmega, IntWalk.toNatUp, d1, d2, d3, d7, d9, d59, d60, d61, hk]
              have kW := ext_alloc w10 (.cells #[.int .i64 k] 3)
              have hrd : Rd (w10.alloc (.cells #[.int .i64 k] 3)) 1 (some ⟨w10.heap.size, 0, none⟩) 1 [.int .i64 k] := rd_one (Blk.self_ rfl) rfl
              have hwvW := row_below hwv kW
              have kBW := hB.trans (kW.mono hB.size)
              generalize w10.alloc (.cells #[.int .i64 k] 3) = wB at *
              refine appendE w9.heap.size 3 1 8 Tryz.underlying50 el3 hwvW hrd rfl (by unfold maxLen; omega) (by omega) kBW.size ?_
              intro v' w11 hr11 hg11 hbk11
              have hB11 := kBW.grown hg11 kBW.size (fun k hk => (hwvW.lt k hk).1)
              simp [go_sem, IntWalk.iteOmega, IntWalk.toNatUp, d1, d2, d3, d7, d9, d59, d60, d61]
              refine roundEnd.mk ⟨i + 1, v', by omega, by simp [go_sem, d1], by simp [go_sem, d2], by simp [go_sem, d3], by simp [go_sem, d7], by simp [go_sem], by simp [go_sem, d59], by simp [go_sem, d60], by simp [go_sem], ?_, hB11⟩ ?_
              · rw [hst2]
                have e : intsK .i64 wl ++ [.int .i64 k] = intsK .i64 (wl ++ [k]) := by simp [intsK]
                rw [e] at hr11
                rw [List.length_append]
                exact hr11
              · simp [go_sem, intOf, d61]; omega
          · obtain rfl : i = al.length := by omega
            have hlt' : ¬ (al.length : Int) < al.length := by omega
            rw [List.take_of_length_le (Nat.le_refl _)] at hwv hwn d9
            simp [go_sem, IntWalk.iteOmega, IntWalk.toNatUp, d1, d2, d3, d7, d9, d59, d60, d61, hlt']
            refine callE_of (sort_any _ (by omega) w9.heap.size _ wr hwv) ?_
            rintro u w10 ⟨hsort, hg10⟩
            rw [who_sorted] at hsort
            have hwL : (whoL (al.map plc)).length = ((al.map plc).foldl putL []).length := by rw [← who_sorted]; simp
            rw [hwL] at hsort hwn
            have k910 := hB.grown hg10 hB.size (fun k hk => (hwv.lt k hk).1)
            have k010 := k09.trans (k910.mono k09.size)
            have hI10 := hI9.keep k910
            have hF10 := hF9.keep k910
            have kW := ext_alloc w10 (.cells #[.slice A1 l1.length c1, .slice A2 l2.length c2] 22)
            have hpair : Blk (w10.alloc (.cells #[.slice A1 l1.length c1, .slice A2 l2.length c2] 22)) w10.heap.size 22 #[.slice A1 l1.length c1, .slice A2 l2.length c2] := Blk.self_ rfl
            rw [hwL] at d9
            generalize wA = uA at *
            generalize wc = uc at *
            have hplc := plc_places al
            have hLn := hplc.len
            generalize hLdef : (al.map plc).foldl putL [] = L at *
            simp [go_sem, IntWalk.iteOmega, IntWalk.toNatUp, d1, d2, d3, d7, d9, d59, d60, d61]
            have hsW := row_below hsort kW
            have hpairW := hpair
            have hIW := hI10.keep kW
            have hFW := hF10.keep kW
            have k0W := k010.trans (kW.mono k010.size)
            have hszW : w10.heap.size < (w10.alloc (.cells #[.slice A1 l1.length c1, .slice A2 l2.length c2] 22)).heap.size := by simp
            have hs10 : w9.heap.size ≤ w10.heap.size := k910.size
            have hs9 : w7.heap.size ≤ w9.heap.size := k79.size
            have hs4 : v4.heap.size ≤ w7.heap.size := k47.size
            have hs3 : w.heap.size < w3.heap.size := by have := k13.size; omega
            generalize w10.alloc (.cells #[.slice A1 l1.length c1, .slice A2 l2.length c2] 22) = wb at *
            have hO : ∀ j, O j → w3.heap.size ≤ j ∧ j < w4.heap.size := fun j hj => ⟨hO4 j hj, hF4.lt j hj⟩
            obtain ⟨N0, hN0⟩ : ∃ N0 : Nat → Prop, N0 = fun j => ¬ O j ∧ j < wb.heap.size := ⟨_, rfl⟩
            have hN1 : ∀ j, j < wb.heap.size → ¬ O j → N0 j := fun j h1 h2 => by rw [hN0]; exact ⟨h2, h1⟩
            have hNlow : ∀ j, j < w3.heap.size → N0 j := fun j h => hN1 j (by have := k4.size; omega) (fun h' => by have := (hO j h').1; omega)
            have hNhi : ∀ j, w4.heap.size ≤ j → j < wb.heap.size → N0 j := fun j h1 h2 => hN1 j h2 (fun h' => by have := (hO j h').2; omega)
            have step : ∀ {O1 O2 : Nat → Prop} {wa wc : World}, Keeps N0 wb wa → (∀ j, O1 j → O j ∨ wb.heap.size ≤ j) → Mine O1 O2 wa wc → Keeps N0 wb wc ∧ (∀ j, O2 j → O j ∨ wb.heap.size ≤ j) := fun {O1 O2 wa wc} g1 g2 g3 => ⟨g1.trans (g3.2.2.mono fun j _ hj hO' => by
              rw [hN0] at hj
              rcases g2 j hO' with h | h
              · exact hj.1 h
              · omega), fun j hj => by
              rcases g3.1 j hj with h | h
              · exact g2 j h
              · exact .inr (Nat.le_trans g1.size h)⟩
            have cub : ∀ {wa : World}, Keeps N0 wb wa → Cubes wa := fun {wa} g t ht => (((Keeps.of_ext (O := N0) k0W).trans g).cell (p := ⟨0, t, none⟩) hpos (hNlow 0 (by omega))).trans (hC t ht)
            have bel : ∀ {wa : World}, Keeps N0 wb wa → Below w.heap.size w wa := fun {wa} g => k0W.trans (g.below (by omega) fun k hk => hNlow k (by omega))
            have idb : ∀ {wa : World}, Keeps N0 wb wa → Blk wa w.heap.size 27 (bl id).toArray := fun {wa} g => g.blk hIW (hNlow _ hs3)
            have ws : ∀ {wa : World}, Keeps N0 wb wa → wa.ownsRow w9.heap.size 3 1 (.slice uA L.length uc) L.length (intsK .i64 L) := fun {wa} g => row_keeps hsW g fun j hj => hNhi j (by have := (hsW.lt j hj).1; omega) (hsW.lt j hj).2
            have rdl : ∀ {wa : World} {n : Nat} {A : Option Addr} {us : List Value}, Rd w 1 A n us → Keeps N0 wb wa → Rd wa 1 A n us := fun {wa n A us} hr g => Rd_on hr ((Keeps.of_ext (O := N0) k0W).trans g) fun j hj => hNlow j (by have := atB_lt hr hj; omega)
            have hT0 : FAt wb O f (TS id []) := hFW
            refine W_loop (fun st wr => ∃ (i : Nat) (Oi : Nat → Prop), i ≤ 2 ∧ st 3 = .pointer (some ⟨w.heap.size, 0, none⟩) ∧ st 7 = .pointer (some ⟨f, 0, none⟩) ∧ st 9 = .slice uA L.length uc ∧ st 81 = .slice (some ⟨w10.heap.size, 0, none⟩) 2 2 ∧ st 82 = .int .i64 2 ∧ st 83 = .int .i64 i ∧ FAt wr Oi f (TS id (((([l1, l2].take i).flatten).map plc).foldl putL [])) ∧ (∀ j, Oi j → O j ∨ wb.heap.size ≤ j) ∧ Keeps N0 wb wr) (fun st _ => 2 - (intOf (st 83)).toNat) ?_ ?_
            · exact ⟨0, O, by omega, by simp [go_sem, d3], by simp [go_sem, d7], by simp [go_sem, d9], by simp [go_sem], by simp [go_sem], by simp [go_sem], hT0, fun j hj => .inl hj, Keeps.refl _ _⟩
            · rintro s2 wr2 ⟨i2, Oi, hi2, f3, f7, f9, f81, f82, f83, hFi, hOi, hKi⟩
              by_cases hlt2 : i2 < 2
              · have hlt2' : (i2 : Int) < 2 := by omega
                obtain ⟨A, c, l, hcell, hrl, hl100, hfl⟩ : ∃ (A : Option Addr) (c : Nat) (l : List UInt8), (#[Value.slice A1 l1.length c1, Value.slice A2 l2.length c2] : Array Value)[i2]? = some (Value.slice A l.length c) ∧ Rd w 1 A l.length (bl l) ∧ l.length ≤ 100 ∧ (([l1, l2].take (i2 + 1)).flatten) = ([l1, l2].take i2).flatten ++ l := by
                  match i2, hlt2 with
                  | 0, _ => exact ⟨A1, c1, l1, rfl, hr1, by omega, by simp⟩
                  | 1, _ => exact ⟨A2, c2, l2, rfl, hr2, by omega, by simp⟩
                have hpc := hKi.blk hpairW (hNhi _ (by omega) hszW)
                have x2 : wr2.cell? ⟨w10.heap.size, i2, none⟩ = some (.slice A l.length c) := by rw [hpc.cell]; exact hcell
                simp [go_sem, IntWalk.iteOmega, IntWalk.toNatUp, f3, f7, f9, f81, f82, f83, hlt2, hlt2', x2]
                refine W_loop (fun st w3' => ∃ j sv, j ≤ l.length ∧ st 3 = .pointer (some ⟨w.heap.size, 0, none⟩) ∧ st 7 = .pointer (some ⟨f, 0, none⟩) ∧ st 9 = .slice uA L.length uc ∧ st 81 = .slice (some ⟨w10.heap.size, 0, none⟩) 2 2 ∧ st 82 = .int .i64 2 ∧ st 83 = .int .i64 i2 ∧ st 15 = sv ∧ st 87 = .slice A l.length c ∧ st 88 = .int .i64 l.length ∧ st 89 = .int .i64 j ∧ w3'.ownsRow wr2.heap.size 3 1 sv j (intsK .i64 ((l.take j).map plc)) ∧ Below wr2.heap.size wr2 w3') (fun st _ => l.length - (intOf (st 89)).toNat) ?_ ?_
                · exact ⟨0, .slice none 0 0, by omega, by simp [go_sem, f3], by simp [go_sem, f7], by simp [go_sem, f9], by simp [go_sem, f81], by simp [go_sem, f82], by simp [go_sem, f83], by simp [go_sem], by simp [go_sem], by simp [go_sem], by simp [go_sem], World.ownsRow_nil _ _ _ _, Below.refl _ _⟩
                · rintro s3 wr3 ⟨j, sv, hj, q3, q7, q9, q81, q82, q83, q15, q87, q88, q89, hsv, hB3⟩
                  by_cases hjl : j < l.length
                  · have hjl' : (j : Int) < l.length := by omega
                    obtain ⟨gb, go, rfl, hgb, hgc⟩ := ((rdl hrl hKi).keep hB3).cells (by omega)
                    have x0 := hgc j _ (bl_at2 l j hjl)
                    have hE1 : IntKind.i64.wrap ((l[j]).toNat : Int) = (l[j]).toNat := by rw [wrap_i64_if, if_pos (by have := (l[j]).toNat_lt; omega)]
                    have hE2 : (((l[j]).toNat : Nat) : Int).tmod 32 = plc l[j] := by rw [Int.tmod_eq_emod_of_nonneg (by omega)]; unfold plc; omega
                    have htk : (l.take (j + 1)).map plc = (l.take j).map plc ++ [plc l[j]] := by rw [take_snoc hjl, List.map_append]; rfl
                    generalize plc l[j] = k at *
                    obtain ⟨-, sA, sc, rfl⟩ := own_sl hsv
                    simp [go_sem, IntWalk.iteOmega, IntWalk.toNatUp, q3, q7, q9, q81, q82, q83, q15, q87, q88, q89, hjl, hjl', x0, hE1, hE2]
                    have kW3 := ext_alloc wr3 (.cells #[.int .i64 k] 3)
                    have hrd : Rd (wr3.alloc (.cells #[.int .i64 k] 3)) 1 (some ⟨wr3.heap.size, 0, none⟩) 1 [.int .i64 k] := rd_one (Blk.self_ rfl) rfl
                    have hsvW := row_below hsv kW3
                    have kBW3 := hB3.trans (kW3.mono hB3.size)
                    generalize wr3.alloc (.cells #[.int .i64 k] 3) = wB at *
                    refine appendE wr2.heap.size 3 1 8 Tryz.underlying50 el3 hsvW hrd rfl (by unfold maxLen; omega) (by omega) kBW3.size ?_
                    intro v' w11 hr11 hg11 hbk11
                    have hB11 := kBW3.grown hg11 kBW3.size (fun k hk => (hsvW.lt k hk).1)
                    simp [go_sem, IntWalk.iteOmega, IntWalk.toNatUp, q3, q7, q9, q81, q82, q83, q87, q88, q89]
                    refine roundEnd.mk ⟨j + 1, v', by omega, by simp [go_sem, q3], by simp [go_sem, q7], by simp [go_sem, q9], by simp [go_sem, q81], by simp [go_sem, q82], by simp [go_sem, q83], by simp [go_sem], by simp [go_sem, q87], by simp [go_sem, q88], by simp [go_sem], ?_, hB11⟩ ?_
                    · rw [htk]
                      have e : intsK .i64 ((l.take j).map plc) ++ [.int .i64 k] = intsK .i64 ((l.take j).map plc ++ [k]) := by simp [intsK]
                      rw [e] at hr11
                      exact hr11
                    · simp [go_sem, intOf, q89]; omega
                  · obtain rfl : j = l.length := by omega
                    have hjl' : ¬ (l.length : Int) < l.length := by omega
                    rw [List.take_of_length_le (Nat.le_refl _)] at hsv
                    have hK3 : Keeps N0 wb wr3 := hKi.trans (Keeps.of_ext hB3)
                    have hF3 := hFi.keep hB3
                    have xid := readCells_all (idb hK3) 32 (by simpa using l32)
                    have hml : (l.map plc).length = l.length := by simp
                    have hsv2 := hsv
                    obtain ⟨-, sA, sc, rfl⟩ := own_sl hsv
                    rw [← hml] at hsv2
                    have hT := TS_target (id := id) (P := (([l1, l2].take i2).flatten.map plc).foldl putL []) (plc_wrong l)
                    have hPl : Places ((([l1, l2].take i2).flatten.map plc).foldl putL []) := plc_places _
                    have hstepF : ((([l1, l2].take (i2 + 1)).flatten).map plc).foldl putL [] = (l.map plc).foldl putL (((([l1, l2].take i2).flatten).map plc).foldl putL []) := by rw [hfl, List.map_append, List.foldl_append]
                    rw [← hstepF] at hT
                    generalize ((([l1, l2].take i2).flatten).map plc).foldl putL [] = P at *
                    have hokP : FOk (TS id P) := by
                      unfold TS
                      refine T_ok hid ?_ _ _
                      by_cases hP0 : P = []
                      · exact .inl (by rw [if_pos hP0])
                      · exact .inr ⟨P, by rw [if_neg hP0], hPl⟩
                    simp [go_sem, IntWalk.iteOmega, IntWalk.toNatUp, q3, q7, q9, q81, q82, q83, q15, q87, q88, q89, hjl', xid]
                    have hOlt := hF3.lt
                    have hOi2 := hFi.lt
                    rw [← hml]
                    refine callE_of (fat_target (us := l.map plc) hF3 hokP hid (Rd.of_own hsv2) (by omega) (fun j hj hO' => by
                      have h1 := (hsv2.lt j (atB_row hsv2 hj)).1
                      have h2 := hOi2 j hO'
                      omega)) ?_
                    rintro _ w12 ⟨rfl, O', hF12, hM12⟩
                    rw [hT] at hF12 ⊢
                    obtain ⟨hK12, hO12⟩ := step hK3 hOi hM12
                    dsimp only at hF12
                    by_cases hl0 : l = []
                    · subst hl0
                      simp [go_sem, IntWalk.iteOmega, IntWalk.toNatUp, q3, q7, q9, q81, q82, q83, q15]
                      refine roundEnd.mk ⟨i2 + 1, O', by omega, by simp [go_sem, q3], by simp [go_sem, q7], by simp [go_sem, q9], by simp [go_sem, q81], by simp [go_sem, q82], by simp [go_sem], hF12, hO12, hK12⟩ ?_
                      simp [go_sem, intOf]; omega
                    · have hl0' : (0 : Int) < l.length := by have := List.length_pos_iff.2 hl0; omega
                      have hl0n : 0 < l.length := List.length_pos_iff.2 hl0
                      have hm0 : l.map plc ≠ [] := by simpa using hl0
                      simp [go_sem, IntWalk.iteOmega, IntWalk.toNatUp, q3, q7, q9, q81, q82, q83, q15, hl0, hl0', hl0n, hm0]
                      refine roundEnd.mk ⟨i2 + 1, O', by omega, by simp [go_sem, q3], by simp [go_sem, q7], by simp [go_sem, q9], by simp [go_sem, q81], by simp [go_sem, q82], by simp [go_sem], hF12, hO12, hK12⟩ ?_
                      simp [go_sem, intOf]; omega
              · obtain rfl : i2 = 2 := by omega
                have e2 : ((([l1, l2].take 2).flatten).map plc).foldl putL [] = L := by
                  rw [← hLdef, ← hal]
                  simp
                rw [e2] at hFi
                simp [go_sem, IntWalk.iteOmega, IntWalk.toNatUp, f3, f7, f9, f81, f82, f83]
                by_cases hL0 : L = []
                · refine W_loop (fun st wr => st 112 = .int .i64 (2 * (L.length : Int)) ∧ st 113 = .int .i64 0 ∧ wr = wr2) (fun st _ => 0) ?_ ?_
                  · exact ⟨by simp [go_sem], by simp [go_sem], rfl⟩
                  · rintro s4 wr4 ⟨g112, g113, rfl⟩
                    have hz : ¬ ((0 : Int) < 2 * (L.length : Int)) := by rw [hL0]; decide
                    simp [go_sem, IntWalk.iteOmega, IntWalk.toNatUp, g112, g113, hz]
                    exact bel hKi
                · have hpos2 : 0 < L.length := List.length_pos_iff.2 hL0
                  rw [TS_TO hL0] at hFi
                  refine W_loop (fun st wr => ∃ (i : Nat) (Oi : Nat → Prop), i ≤ 2 * L.length ∧ st 3 = .pointer (some ⟨w.heap.size, 0, none⟩) ∧ st 7 = .pointer (some ⟨f, 0, none⟩) ∧ st 9 = .slice uA L.length uc ∧ st 112 = .int .i64 (2 * (L.length : Int)) ∧ st 113 = .int .i64 i ∧ FAt wr Oi f (TO id L i) ∧ (∀ j, Oi j → O j ∨ wb.heap.size ≤ j) ∧ Keeps N0 wb wr) (fun st _ => 2 * L.length - (intOf (st 113)).toNat) ?_ ?_
                  · exact ⟨0, Oi, by omega, by simp [go_sem, f3], by simp [go_sem, f7], by simp [go_sem, f9], by simp [go_sem], by simp [go_sem], hFi, hOi, hKi⟩
                  · rintro s4 wr4 ⟨i, O4', hi4, g3, g7, g9, g112, g113, hF4', hO4', hK4⟩
                    by_cases hlt4 : i < 2 * L.length
                    · have hlt4' : (i : Int) < 2 * (L.length : Int) := by omega
                      have hTok : ∀ asked often, FOk (bS nm0 [(id, L)] [] asked often) := fun asked often => T_ok hid (.inr ⟨L, rfl, hplc⟩) asked often
                      have hoft : OftenOk 64 (TO id L i) := by
                        intro x hx
                        by_cases h0 : i = 0
                        · subst h0; simp [TO, bS] at hx
                        · obtain rfl : x = (id, (i : Int)) := by simpa [TO, bS, h0] using hx
                          exact ⟨by show (0:Int) ≤ (i:Int); omega, by show (i:Int) ≤ ((64:Nat):Int); omega⟩
                      have hoft2 : OftenOk 65 (TA id L (i + 1)) := by
                        intro x hx
                        obtain rfl : x = (id, ((i + 1 : Nat) : Int)) := by simpa [TA, bS] using hx
                        exact ⟨by show (0:Int) ≤ ((i + 1 : Nat):Int); omega, by show ((i + 1 : Nat):Int) ≤ ((65:Nat):Int); omega⟩
                      have y0 := readCells_all (idb hK4) 32 (by simpa using l32)
                      simp [go_sem, IntWalk.iteOmega, IntWalk.toNatUp, g3, g7, g9, g112, g113, hlt4, hlt4', y0]
                      refine callE_of (fat_ask hF4' (hTok _ _) (cub hK4) hoft (by decide) hid) ?_
                      rintro _ w20 ⟨rfl, O20, hF20, hM20⟩
                      have hTOa := TO_ask (i := i) hid0 hplc.1 hL0
                      have hml : i % L.length < L.length := Nat.mod_lt _ hpos2
                      have hE : (i : Int).tmod ↑L.length = ((i % L.length : Nat) : Int) := by rw [Int.tmod_eq_emod_of_nonneg (by omega), Int.natCast_emod]
                      generalize hmd : i % L.length = md at hTOa hml hE
                      have hvc : (intsK .i64 L)[md]? = some (.int .i64 (L.getD md 0)) := by simp [intsK, hml]
                      generalize hvv : L.getD md 0 = vv at hTOa hvc
                      rw [hTOa] at hF20 ⊢
                      obtain ⟨hK20, hO20⟩ := step hK4 hO4' hM20
                      dsimp only at hF20
                      have y1 := readCells_all (idb hK20) 32 (by simpa using l32)
                      simp [go_sem, IntWalk.iteOmega, IntWalk.toNatUp, g3, g7, g9, g112, g113, y1]
                      refine callE_of (fat_ask hF20 (hTok _ _) (cub hK20) hoft2 (by decide) hid) ?_
                      rintro _ w21 ⟨rfl, O21, hF21, hM21⟩
                      rw [TA_ask hid0 hplc.1 hL0] at hF21 ⊢
                      obtain ⟨hK21, hO21⟩ := step hK20 hO20 hM21
                      dsimp only at hF21
                      have y2 := readCells_all (idb hK21) 32 (by simpa using l32)
                      have hml' : (md : Int) < L.length := by omega
                      obtain ⟨gb, go, eG, hgb, hgc⟩ := (Rd.of_own (ws hK21)).cells (by omega)
                      have y3 : w21.cell? ⟨gb, go + md, none⟩ = some (.int .i64 vv) := hgc _ _ hvc
                      simp [go_sem, IntWalk.iteOmega, IntWalk.toNatUp, g3, g7, g9, g112, g113, hE, hml, hml', hL0, eG, y2, y3]
                      refine callE_of (fat_fail hF21 (hTok _ _) hid) ?_
                      rintro _ w22 ⟨rfl, O22, hF22, hM22⟩
                      rw [TA_fail] at hF22 ⊢
                      obtain ⟨hK22, hO22⟩ := step hK21 hO21 hM22
                      dsimp only at hF22
                      have y4 := readCells_all (idb hK22) 32 (by simpa using l32)
                      simp [go_sem, IntWalk.iteOmega, IntWalk.toNatUp, g3, g7, g9, g112, g113, y4]
                      refine callE_of (fat_fail hF22 (hTok _ _) hid) ?_
                      rintro _ w23 ⟨rfl, O23, hF23, hM23⟩
                      rw [TO_fail] at hF23 ⊢
                      obtain ⟨hK23, hO23⟩ := step hK22 hO22 hM23
                      dsimp only at hF23
                      simp [go_sem, IntWalk.iteOmega, IntWalk.toNatUp, g3, g7, g9, g112, g113]
                      refine roundEnd.mk ⟨i + 1, O23, by omega, by simp [go_sem, g3], by simp [go_sem, g7], by simp [go_sem, g9, eG], by simp [go_sem, g112], by simp [go_sem], hF23, hO23, hK23⟩ ?_
                      simp [go_sem, intOf, g113]; omega
                    · have hlt4' : ¬ (i : Int) < 2 * (L.length : Int) := by omega
                      simp [go_sem, IntWalk.iteOmega, IntWalk.toNatUp, g3, g7, g9, g112, g113, hlt4']
                      exact bel hK4
end Go.Proofs.YtdjcjjodbniebaaGreatDoor
namespace Go.Proofs.YtdjcjjodbniebaaGreatDoor
open Go.RowKit
set_option linter.unusedVariables false
set_option linter.unusedSimpArgs false
set_option maxRecDepth 10000
def NoF (w : World) (p : Value) : Prop := p = .pointer none ∨ ∃ f cs, p = .pointer (some ⟨f, 0, none⟩) ∧ Blk w f 72 cs ∧ cs[35]? = some (.map none)
theorem NoF.keep {w w' : World} {p : Value} (h : NoF w p) (hk : Below w.heap.size w w') : NoF w' p := by
  rcases h with h | ⟨f, cs, h1, h2, h3⟩
  · exact .inl h
  · exact .inr ⟨f, cs, h1, h2.keep hk, h3⟩
theorem nof_runs {w : World} {p : Value} (h : NoF w p) : Runs Tryz.prog 43 #[p] w (.bool true) w := by
  rcases h with rfl | ⟨f, cs, rfl, h2, h3⟩
  · exact fnone_nil w
  · exact fnone_zero h2 h3
section
variable {w : World} {p : Value}
theorem none_ask (h : NoF w p) (v : Value) (hv : ∃ id : List UInt8, id.length = 32 ∧ v = .agg (bl id).toArray) : callE Tryz.prog 17 #[p, v] w fun r w' => r = .tuple #[.int .i64 0, .int .i64 2] ∧ Below w.heap.size w w' := by
  obtain ⟨id, hid, rfl⟩ := hv
  have kA := ext_alloc w (.cells (bl id).toArray 27)
  have r0 := fun k => callE_eq noinit_fnone (nof_runs (h.keep kA)) k
  refine calls_E Tryz.func17 rfl rfl rfl (Nat.le_of_ble_eq_true rfl) ?_
  simp [go_sem, IntWalk.iteOmega, IntWalk.toNatUp, r0]
  exact kA
theorem none_fail (h : NoF w p) (v : Value) (hv : ∃ id : List UInt8, id.length = 32 ∧ v = .agg (bl id).toArray) : callE Tryz.prog 18 #[p, v] w fun r w' => r = .int .i64 2 ∧ Below w.heap.size w w' := by
  obtain ⟨id, hid, rfl⟩ := hv
  have kA := ext_alloc w (.cells (bl id).toArray 27)
  have r0 := fun k => callE_eq noinit_fnone (nof_runs (h.keep kA)) k
  refine calls_E Tryz.func18 rfl rfl rfl (Nat.le_of_ble_eq_true rfl) ?_
  simp [go_sem, IntWalk.iteOmega, IntWalk.toNatUp, r0]
  exact kA
theorem none_got (h : NoF w p) (v u : Value) (hv : ∃ id : List UInt8, id.length = 32 ∧ v = .agg (bl id).toArray) : callE Tryz.prog 21 #[p, v, u] w fun r w' => r = .tuple #[.int .i64 0, .int .i64 2] ∧ Below w.heap.size w w' := by
  have hv' := hv
  obtain ⟨id, hid, rfl⟩ := hv
  have l32 : (bl id).length = 32 := by rw [bl_length]; exact hid
  have kA := ext_alloc w (.cells (bl id).toArray 27)
  have x1 := readCells_all (cs := (bl id).toArray) (t := 27) (w := w.alloc (.cells (bl id).toArray 27)) (g := w.heap.size) (Blk.self_ rfl) 32 (by simpa using l32)
  refine calls_E Tryz.func21 rfl rfl rfl (Nat.le_of_ble_eq_true rfl) ?_
  simp [go_sem, IntWalk.iteOmega, IntWalk.toNatUp, x1]
  refine callE_of (none_fail (h.keep kA) _ hv') ?_
  rintro _ w2 ⟨rfl, k2⟩
  simp [go_sem, IntWalk.iteOmega, IntWalk.toNatUp]
  exact kA.trans (k2.mono kA.size)
theorem none_state (h : NoF w p) (v : Value) (hv : ∃ id : List UInt8, id.length = 32 ∧ v = .agg (bl id).toArray) : callE Tryz.prog 30 #[p, v] w fun r w' => r = .tuple #[.int .i64 0, .int .i64 2] ∧ Below w.heap.size w w' := by
  obtain ⟨id, hid, rfl⟩ := hv
  have kA := ext_alloc w (.cells (bl id).toArray 27)
  have r0 := fun k => callE_eq noinit_fnone (nof_runs (h.keep kA)) k
  refine calls_E Tryz.func30 rfl rfl rfl (Nat.le_of_ble_eq_true rfl) ?_
  simp [go_sem, IntWalk.iteOmega, IntWalk.toNatUp, r0]
  exact kA
theorem none_chain (h : NoF w p) : callE Tryz.prog 23 #[p] w fun r w' => r = .tuple #[.slice none 0 0, .int .i64 2] ∧ w' = w := by
  have r0 := fun k => callE_eq noinit_fnone (nof_runs h) k
  refine calls_M Tryz.func23 rfl rfl rfl (Nat.le_of_ble_eq_true rfl) ?_
  simp [go_sem, IntWalk.iteOmega, IntWalk.toNatUp, r0]
theorem none_target (h : NoF w p) (v u : Value) (hv : ∃ id : List UInt8, id.length = 32 ∧ v = .agg (bl id).toArray) : callE Tryz.prog 13 #[p, v, u] w fun r w' => r = .int .i64 2 ∧ Below w.heap.size w w' := by
  obtain ⟨id, hid, rfl⟩ := hv
  have kA := ext_alloc w (.cells (bl id).toArray 27)
  have r0 := fun k => callE_eq noinit_fnone (nof_runs (h.keep kA)) k
  refine calls_E Tryz.func13 rfl rfl rfl (Nat.le_of_ble_eq_true rfl) ?_
  simp [go_sem, IntWalk.iteOmega, IntWalk.toNatUp, r0]
  exact kA
theorem none_len (h : NoF w p) : callE Tryz.prog 31 #[p] w fun r w' => r = .int .i64 0 ∧ w' = w := by
  have r0 := fun k => callE_eq noinit_fnone (nof_runs h) k
  refine calls_E Tryz.func31 rfl rfl rfl (Nat.le_of_ble_eq_true rfl) ?_
  simp [go_sem, IntWalk.iteOmega, IntWalk.toNatUp, r0]
theorem none_done (h : NoF w p) : callE Tryz.prog 16 #[p] w fun r w' => r = .bool false ∧ w' = w := by
  have r0 := fun k => callE_eq noinit_fnone (nof_runs h) k
  refine calls_E Tryz.func16 rfl rfl rfl (Nat.le_of_ble_eq_true rfl) ?_
  simp [go_sem, IntWalk.iteOmega, IntWalk.toNatUp, r0]
theorem none_clone (h : NoF w p) : callE Tryz.prog 32 #[p] w fun r w' => r = .pointer none ∧ w' = w := by
  have r0 := fun k => callE_eq noinit_fnone (nof_runs h) k
  refine calls_E Tryz.func32 rfl rfl rfl (Nat.le_of_ble_eq_true rfl) ?_
  simp [go_sem, IntWalk.iteOmega, IntWalk.toNatUp, r0]
theorem none_wants (h : NoF w p) : callE Tryz.prog 15 #[p] w fun r w' => r = .func (.func 51) #[] #[.pointer (some ⟨w.heap.size + 1, 0, none⟩)] ∧ Blk w' (w.heap.size + 1) 37 #[.slice none 0 0] ∧ Below w.heap.size w w' := by
  obtain ⟨pa, rfl⟩ : ∃ pa, p = .pointer pa := by
    rcases h with rfl | ⟨f, cs, rfl, _⟩
    · exact ⟨_, rfl⟩
    · exact ⟨_, rfl⟩
  have kA := ext_alloc w (.cells #[.pointer pa] 31)
  have kB := kA.alloc kA.size (.cells #[.slice none 0 0] 37)
  have r0 := fun k => callE_eq noinit_fnone (nof_runs (h.keep kB)) k
  have hpb : Blk ((w.alloc (.cells #[.pointer pa] 31)).alloc (.cells #[.slice none 0 0] 37)) w.heap.size 31 #[.pointer pa] := (Blk.self_ rfl).more _
  have hlb : Blk ((w.alloc (.cells #[.pointer pa] 31)).alloc (.cells #[.slice none 0 0] 37)) (w.heap.size + 1) 37 #[.slice none 0 0] := Blk.self_ (by simp)
  have hpc := hpb.cell
  refine calls_E Tryz.func15 rfl rfl rfl (Nat.le_of_ble_eq_true rfl) ?_
  simp [go_sem, IntWalk.iteOmega, IntWalk.toNatUp, hpc, r0]
  exact kB
end
end Go.Proofs.YtdjcjjodbniebaaGreatDoor
