/-
  The laws SampleUnits and SampleSlots: their walks.
-/
import Derived.Test.YtmoafaaeeanofaaSBegun
import Derived.Test.YtmoafaaeeanofaaSSlots2
import Derived.Test.YtmoafaaeeanofaaSRest
namespace Go.Proofs.Ytmoafaaeeanofaa
open Go.RowKit
set_option linter.unusedVariables false
set_option linter.unusedSimpArgs false
set_option maxRecDepth 10000
set_option maxHeartbeats 3200000 in
theorem lawUnits_any (total k : Int) (ht : -9223372036854775808 ≤ total ∧ total ≤ 9223372036854775807) (hk : -9223372036854775808 ≤ k ∧ k ≤ 9223372036854775807) (ds : List Int) (hds : U64 ds) (vd : Value) (w : World) (hs : Sl w 1 vd ds.length (intsK .u64 ds)) :
    callE Try.prog 5 #[.int .i64 total, .int .i64 k, vd] w fun v w' => v = .bool true ∧ Below w.heap.size w w' := by
  obtain ⟨A, cap, rfl, hrd, hA, hc1, hc2⟩ := id hs
  refine calls_E Try.func5 rfl rfl rfl (Nat.le_of_ble_eq_true rfl) ?_
  simp [go_sem, IntWalk.iteOmega, IntWalk.toNatUp]
  refine callE_of (begun_any w) ?_
  rintro _ w1 ⟨rfl, k1⟩
  by_cases hlen : (300 : Int) < ds.length
  · simp [go_sem, IntWalk.iteOmega, IntWalk.toNatUp, hlen]
    refine callE_of (begun_any w1) ?_
    rintro _ w2 ⟨rfl, k2⟩
    simp [go_sem, IntWalk.iteOmega, IntWalk.toNatUp]
    exact ext_trans k1 k2
  simp [go_sem, IntWalk.iteOmega, IntWalk.toNatUp, hlen]
  refine callE_of (vUnits_any total k ht hk ds hds _ w1 (Sl_kept hs k1)) ?_
  rintro _ w2 ⟨⟨u, rfl, hu⟩, k2⟩
  have kk2 := ext_trans k1 k2
  simp [go_sem, IntWalk.iteOmega, IntWalk.toNatUp]
  refine callE_of (rUnits_any total k ht hk ds hds _ w2 (Sl_kept hs kk2)) ?_
  rintro _ w3 ⟨⟨u3, rfl, hu3⟩, k3⟩
  have kk3 := ext_trans kk2 k3
  simp [go_sem, IntWalk.iteOmega, IntWalk.toNatUp]
  refine callE_of (equalL_any _ _ _ _ w3 (Sl_kept hu k3) hu3) ?_
  rintro _ w4 ⟨rfl, k4⟩
  rw [decide_eq_true (rfl : (unitsV total k ds).2 = (unitsV total k ds).2)]
  have kk4 := ext_trans kk3 k4
  simp [go_sem, IntWalk.iteOmega, IntWalk.toNatUp]
  refine callE_of (vRest_any k hk ds (by omega) _ w4 (Sl_kept hs kk4)) ?_
  rintro v5 w5 ⟨s5, k5⟩
  have kk5 := ext_trans kk4 k5
  simp [go_sem, IntWalk.iteOmega, IntWalk.toNatUp]
  refine callE_of (rRest_any k hk ds (by omega) _ w5 (Sl_kept hs kk5)) ?_
  rintro v6 w6 ⟨s6, k6⟩
  have kk6 := ext_trans kk5 k6
  simp [go_sem, IntWalk.iteOmega, IntWalk.toNatUp]
  refine callE_of (equalU_any _ _ _ _ w6 (Sl_kept s5 k6) s6) ?_
  rintro _ w7 ⟨rfl, k7⟩
  rw [decide_eq_true (rfl : ds.drop (max k 0).toNat = ds.drop (max k 0).toNat)]
  simp [go_sem, IntWalk.iteOmega, IntWalk.toNatUp]
  exact ext_trans kk6 k7
set_option maxHeartbeats 3200000 in
theorem lawSlots_any (l : List Int) (unit k : Int) (hun : InI unit) (hk : -9223372036854775808 ≤ k ∧ k ≤ 9223372036854775807) (ds : List Int) (hds : U64 ds) (hI : AllI l) (vl vd : Value) (w : World) (hl : Sl w 1 vl l.length (intsK .i64 l)) (hs : Sl w 1 vd ds.length (intsK .u64 ds)) :
    callE Try.prog 3 #[vl, .int .i64 unit, .int .i64 k, vd] w fun v w' => v = .bool true ∧ Below w.heap.size w w' := by
  obtain ⟨A, cap, rfl, hrd, hA, hc1, hc2⟩ := id hs
  obtain ⟨A', cap', rfl, hrd', hA', hc1', hc2'⟩ := id hl
  refine calls_E Try.func3 rfl rfl rfl (Nat.le_of_ble_eq_true rfl) ?_
  simp [go_sem, IntWalk.iteOmega, IntWalk.toNatUp]
  refine callE_of (begun_any w) ?_
  rintro _ w1 ⟨rfl, k1⟩
  by_cases hlen' : (200 : Int) < l.length
  · simp [go_sem, IntWalk.iteOmega, IntWalk.toNatUp, hlen']
    refine callE_of (begun_any w1) ?_
    rintro _ w2 ⟨rfl, k2⟩
    simp [go_sem, IntWalk.iteOmega, IntWalk.toNatUp]
    exact ext_trans k1 k2
  by_cases hlen : (300 : Int) < ds.length
  · simp [go_sem, IntWalk.iteOmega, IntWalk.toNatUp, hlen, hlen']
    refine callE_of (begun_any w1) ?_
    rintro _ w2 ⟨rfl, k2⟩
    simp [go_sem, IntWalk.iteOmega, IntWalk.toNatUp]
    exact ext_trans k1 k2
  simp [go_sem, IntWalk.iteOmega, IntWalk.toNatUp, hlen, hlen']
  refine callE_of (Owner_any l unit hun _ w1 (Sl_kept hl k1) hI) ?_
  rintro _ w2 ⟨rfl, k2⟩
  have kk2 := ext_trans k1 k2
  obtain ⟨o1, o2, hR⟩ : ∃ o1 o2, ownerR l unit = .tuple #[.int .i64 o1, .int .i64 o2] := ⟨_, _, rfl⟩
  rw [hR]
  simp [go_sem, IntWalk.iteOmega, IntWalk.toNatUp]
  refine callE_of (rOwner_any l unit hun _ w2 (Sl_kept hl kk2) hI) ?_
  rintro _ w3 ⟨rfl, k3⟩
  have kk3 := ext_trans kk2 k3
  rw [hR]
  simp [go_sem, IntWalk.iteOmega, IntWalk.toNatUp]
  refine callE_of (vSlots_any l k hk ds hds _ _ w3 (Sl_kept hl kk3) hI (Sl_kept hs kk3)) ?_
  rintro _ w4 ⟨⟨u4, rfl, hu4⟩, k4⟩
  have kk4 := ext_trans kk3 k4
  simp [go_sem, IntWalk.iteOmega, IntWalk.toNatUp]
  refine callE_of (rSlots_any l k hk ds hds _ _ w4 (Sl_kept hl kk4) hI (Sl_kept hs kk4)) ?_
  rintro _ w5 ⟨⟨u5, rfl, hu5⟩, k5⟩
  have kk5 := ext_trans kk4 k5
  simp [go_sem, IntWalk.iteOmega, IntWalk.toNatUp]
  refine callE_of (equalI_any _ _ _ _ w5 (Sl_kept hu4 k5) hu5) ?_
  rintro _ w6 ⟨rfl, k6⟩
  rw [decide_eq_true (rfl : (slotsV l k ds).2 = (slotsV l k ds).2)]
  simp [go_sem, IntWalk.iteOmega, IntWalk.toNatUp]
  exact ext_trans kk5 k6
end Go.Proofs.Ytmoafaaeeanofaa
