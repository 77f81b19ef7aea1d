/-
  The law VdrNames: its walk.
-/
import Derived.Test.YtoabdejoabfbeaaVLive
namespace Go.Proofs.Ytoabdejoabfbeaa
open Go.RowKit
set_option linter.unusedVariables false
set_option linter.unusedSimpArgs false
set_option maxRecDepth 10000
set_option maxHeartbeats 1600000 in
theorem names_any (s : ByteArray) (hs : s.size ≤ 9223372036854775807) (w : World) : callE Try.prog 3 #[.string s] w fun v w' => v = .bool true ∧ Below w.heap.size w w' := by
  refine calls_E Try.func3 rfl rfl rfl (Nat.le_of_ble_eq_true rfl) ?_
  simp [go_sem, IntWalk.iteOmega, IntWalk.toNatUp]
  refine callE_of (live_any w) ?_
  rintro _ w1 ⟨rfl, k1⟩
  by_cases h : 10000 < s.size
  · have h' : (10000 : Int) < s.size := by omega
    simp [go_sem, IntWalk.iteOmega, IntWalk.toNatUp, h']
    refine callE_of (live_any w1) ?_
    rintro _ w2 ⟨rfl, k2⟩
    simp [go_sem, IntWalk.iteOmega, IntWalk.toNatUp]
    exact ext_trans k1 k2
  · have h' : ¬ (10000 : Int) < s.size := by omega
    simp [go_sem, IntWalk.iteOmega, IntWalk.toNatUp, h']
    refine callE_of (vrunes_any s hs w1) ?_
    rintro _ w2 ⟨rfl, k2⟩
    simp [go_sem, IntWalk.iteOmega, IntWalk.toNatUp]
    refine callE_of (rrunes_any s hs w2) ?_
    rintro _ w3 ⟨rfl, k3⟩
    simp [go_sem, IntWalk.iteOmega, IntWalk.toNatUp]
    refine callE_of (vname_any s hs w3) ?_
    rintro _ w4 ⟨rfl, k4⟩
    simp [go_sem, IntWalk.iteOmega, IntWalk.toNatUp]
    refine callE_of (rname_any s hs w4) ?_
    rintro _ w5 ⟨rfl, k5⟩
    simp [go_sem, IntWalk.iteOmega, IntWalk.toNatUp]
    exact ext_trans (ext_trans (ext_trans (ext_trans k1 k2) k3) k4) k5
end Go.Proofs.Ytoabdejoabfbeaa
