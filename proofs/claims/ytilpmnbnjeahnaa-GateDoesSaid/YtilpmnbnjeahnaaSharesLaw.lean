/-
  The law GateShares: its walk.
-/
import Derived.Test.YtilpmnbnjeahnaaGBegun
namespace Go.Proofs.Ytilpmnbnjeahnaa
open Go.RowKit
set_option linter.unusedVariables false
set_option linter.unusedSimpArgs false
set_option maxRecDepth 10000
theorem noinit_rshare : Try.prog.inits.idxOf? 12 = none := by kernel_rfl
set_option maxHeartbeats 3200000 in
theorem shares_any (c : GCfg) (own : Int) (l : List Int) (v : Int) (vl : Value) (w : World) (hs : Sl w 1 vl l.length (ints .i64 l)) :
    callE Try.prog 3 #[c.val, .int .i64 own, vl, .int .i64 v] w fun u w' => u = .bool true ∧ Below w.heap.size w w' := by
  have k0 := ext_alloc w (.cells #[.int .i64 c.large, .int .i64 c.each, .int .i64 c.own, .int .i64 c.many, .int .i64 c.size] 23)
  have hb0 : Blk (w.alloc (.cells #[.int .i64 c.large, .int .i64 c.each, .int .i64 c.own, .int .i64 c.many, .int .i64 c.size] 23)) w.heap.size 23 #[.int .i64 c.large, .int .i64 c.each, .int .i64 c.own, .int .i64 c.many, .int .i64 c.size] := Blk.self_ rfl
  obtain ⟨A, cap, rfl, hrd, hA, hc1, hc2⟩ := id hs
  unfold GCfg.val
  refine calls_E Try.func3 rfl rfl rfl (Nat.le_of_ble_eq_true rfl) ?_
  simp [go_sem, IntWalk.iteOmega, IntWalk.toNatUp]
  refine callE_of (begun_any _) ?_
  rintro _ w1 ⟨rfl, k1⟩
  by_cases h2 : 200 < l.length
  · have h2' : (200 : Int) < l.length := by omega
    simp [go_sem, IntWalk.iteOmega, IntWalk.toNatUp, h2']
    refine callE_of (begun_any _) ?_
    rintro _ w2 ⟨rfl, k2⟩
    simp [go_sem, IntWalk.iteOmega, IntWalk.toNatUp]
    exact ext_trans (ext_trans k0 k1) k2
  · have h2' : ¬ (200 : Int) < l.length := by omega
    simp [go_sem, IntWalk.iteOmega, IntWalk.toNatUp, h2']
    have kw := ext_trans k0 k1
    refine callE_of (gshare_any own v l _ w1 (Sl_keep hs kw)) ?_
    rintro _ w2 ⟨rfl, k2⟩
    have kw2 := ext_trans kw k2
    have hrs := fun k => callE_eq noinit_rshare (rshare_runs own v l _ w2 (Sl_keep hs kw2)) k
    simp [go_sem, IntWalk.iteOmega, IntWalk.toNatUp, hrs]
    have hb2 := (hb0.keep k1).keep k2
    have hb2l := hb2.lt
    have hb2c := hb2.cell
    refine W_below follows (by kernel_rfl) ?_
    have hch := fun k => anyCall_eq (W := w2) (k := k) noinit_check (fun w hw => check_any c w)
    have hrch := fun k => anyCall_eq (W := w2) (k := k) noinit_rcheck (fun w hw => rcheck_any c w)
    unfold GCfg.val at hch hrch
    simp [go_sem, IntWalk.iteOmega, IntWalk.toNatUp, hch, hrch, hb2l, hb2c]
    exact fun w' h => ext_trans kw2 h

end Go.Proofs.Ytilpmnbnjeahnaa
