/-
  The program's state: made, cloned, asked.
-/
import Derived.Test.YtlhlfodmcffeoaaDoorGoes
namespace Go.Proofs.YtlhlfodmcffeoaaDoor
open Go.RowKit
set_option linter.unusedVariables false
set_option linter.unusedSimpArgs false
set_option maxRecDepth 10000
/-- bytes as cells -/
def bl (l : List UInt8) : List Value := l.map fun c => .int .u8 c.toNat
theorem bl_length (l : List UInt8) : (bl l).length = l.length := by simp [bl]
theorem bl_append (l m : List UInt8) : bl (l ++ m) = bl l ++ bl m := by simp [bl]
theorem bl_one (l : List UInt8) : allOne (bl l) = true := allOne_of (by simp [bl, Value.oneCell'])
theorem clone_any (A : Option Addr) (n c : Nat) (l : List UInt8) (w : World) (h : Rd w 1 A n (bl l)) (hA : A = none → n = 0) (hm : n ≤ 70368744177664) :
    callE Tryd.prog 15 #[.slice A n c] w fun v w' => w'.ownsRow w.heap.size 5 1 v n (bl l) ∧ Below w.heap.size w w' := by
  have hq := fun w => Lib.run_eql_slice_nil (P := Tryd.prog) w 29 5 A n c 0 0 Tryd.underlying29
  refine calls_E Tryd.func15 rfl rfl rfl (Nat.le_of_ble_eq_true rfl) ?_
  rcases A with _ | a
  · obtain rfl := hA rfl
    have hl : bl l = [] := List.length_eq_zero_iff.1 (by simpa using h.len)
    simp [go_sem, IntWalk.iteOmega, IntWalk.toNatUp, hq]
    rw [hl]
    exact ⟨World.ownsRow_nil _ _ _ _, Below.refl _ _⟩
  · simp [go_sem, IntWalk.iteOmega, IntWalk.toNatUp, hq]
    refine appendE w.heap.size 5 1 1 Tryd.underlying29 el5 (World.ownsRow_made w #[] 0 (Nat.le_refl _) (by unfold maxLen; omega) rfl) (h.keep (ext_alloc _ _)) (bl_one l) (by unfold maxLen; omega) (by omega) (by simp) ?_
    intro v' w' hown hgr _
    simp only [Nat.zero_add, List.nil_append] at hown
    simp [go_sem, IntWalk.iteOmega, IntWalk.toNatUp]
    exact ⟨hown, (ext_alloc w _).grown hgr (by simp) (by intro k hk; simp [Value.ownBlock] at hk; omega)⟩
theorem none_true (b : Nat) (w : World) (h : w.cell? ⟨b, 10, none⟩ = some (.bool true)) : Runs Tryd.prog 30 #[.pointer (some ⟨b, 0, none⟩)] w (.bool false) w := by
  refine runs_of_callE (calls_E Tryd.func30 rfl rfl rfl (Nat.le_of_ble_eq_true rfl) ?_)
  simp [go_sem, IntWalk.iteOmega, IntWalk.toNatUp, h]
theorem noinit_none : Tryd.prog.inits.idxOf? 30 = none := by kernel_rfl
theorem new_any (w : World) : callE Tryd.prog 17 #[] w fun v w' => ∃ b, w.heap.size ≤ b ∧ v = .pointer (some ⟨b, 0, none⟩) ∧ Blk w' b 44 (firstWords.vals ++ #[.slice none 0 0, .int .i64 0, .bool true]) ∧ Below w.heap.size w w' := by
  refine calls_E Tryd.func17 rfl rfl rfl (Nat.le_of_ble_eq_true rfl) ?_
  simp [go_sem, IntWalk.iteOmega, IntWalk.toNatUp]
  refine callE_of (first_any w) ?_
  rintro v w1 ⟨rfl, hb⟩
  simp only [St8.vals]
  simp [go_sem, IntWalk.iteOmega, IntWalk.toNatUp]
  exact ⟨w1.heap.size, hb.size, rfl, by simp [go_sem, St8.vals], hb.alloc hb.size _⟩
theorem grow_nil (n : Nat) (w : World) (hn : n ≤ 70368744177664) : callE Tryd.prog 39 #[.slice none 0 0, .int .i64 n] w fun v w' => w'.ownsRow w.heap.size 5 1 v 0 [] ∧ Below w.heap.size w w' := by
  refine calls_E Tryd.func39 rfl rfl rfl (Nat.le_of_ble_eq_true rfl) ?_
  by_cases h0 : 0 < n
  · obtain ⟨i, z, hi, hz, hsz, hby, hzs, hpos⟩ := el5
    have hr := Lib.run_append_nil_zeros (P := Tryd.prog) w 29 3 29 5 i z .i64 .i64 Tryd.underlying29 Tryd.underlying3 hi hz n h0 (by omega) (by omega) (by rw [hby]; omega)
    generalize hcs : Builtin.zeroCells z.cells n ++ Builtin.zeroCells z.cells (grownCap w n 0 5 - n) = cs at hr
    have hge := grownCap_ge w n 0 5
    have hle := grownCap_le_maxLen w n 0 5 (by unfold maxLen; omega)
    generalize hcap : grownCap w n 0 5 = cap at hr hcs hge hle
    have hcsz : cs.size = cap := by rw [← hcs, Array.size_append, size_zeroCells, size_zeroCells, hzs]; omega
    have hr2 : appendR Tryd.prog 29 3 29 (.slice none 0 0) (.int .i64 n) w = .ok (.value (.slice (some ⟨w.heap.size, 0, none⟩) n cap)) (w.drew.alloc (.cells cs 5)) := by rw [appendR, hr]; rfl
    clear hr hi hz hcs hcap hzs hby hsz
    unfold maxLen at hle
    simp [go_sem, IntWalk.iteOmega, IntWalk.toNatUp, h0, hr2]
    exact ⟨World.ownsRow_made w cs cap (Nat.le_refl _) (by unfold maxLen; omega) (by omega), (ext_alloc _ _).drew⟩
  · obtain rfl : n = 0 := by omega
    simp [go_sem, IntWalk.iteOmega, IntWalk.toNatUp]
    exact ⟨World.ownsRow_nil _ _ _ _, Below.refl _ _⟩
end Go.Proofs.YtlhlfodmcffeoaaDoor
