/-
  live: the laws' own example, in plain values.
-/
import Derived.Test.YtoabdejoabfbeaaDoorVNeed
namespace Go.Proofs.YtoabdejoabfbeaaDoor
open Go.RowKit
set_option linter.unusedVariables false
set_option linter.unusedSimpArgs false
set_option maxRecDepth 10000
def twoL : List Vd := [⟨⟨#[97, 110, 97]⟩, 3⟩, ⟨⟨#[98, 195, 182, 45, 50]⟩, 1⟩]
theorem two_n0 : nameE ⟨#[97, 110, 97]⟩ = 0 := by kernel_rfl
theorem two_n1 : nameE ⟨#[98, 195, 182, 45, 50]⟩ = 0 := by kernel_rfl
theorem two_f0 : findV ⟨#[97, 110, 97]⟩ twoL 0 = 0 := by simp [findV, twoL]
theorem two_r : (runes ⟨#[98, 195, 182]⟩).length = 2 := by kernel_rfl
theorem two_need : needV 4 2 3 = 3 := by kernel_rfl
theorem two_f1 : findV ⟨#[98, 195, 182, 45, 50]⟩ twoL 0 = 1 := by
  have h : ¬ (⟨#[97, 110, 97]⟩ : ByteArray).toList = (⟨#[98, 195, 182, 45, 50]⟩ : ByteArray).toList := by decide +kernel
  simp [findV, twoL, h]
theorem two_check : checkV twoL = 0 := by
  have hn : namesOk twoL twoL.length := fun i hi => by
    have : i = 0 ∨ i = 1 := by simp [twoL] at hi; omega
    rcases this with rfl | rfl
    · exact ⟨two_n0, two_f0⟩
    · exact ⟨two_n1, two_f1⟩
  have hw : wOk twoL twoL.length := fun i hi => by
    have : i = 0 ∨ i = 1 := by simp [twoL] at hi; omega
    rcases this with rfl | rfl <;> simp [vAt, twoL, wSum]
  unfold checkV
  rw [if_neg (by simp [twoL]), if_neg (fun h => h hn), if_neg (fun h => h hw)]
theorem two_total : totalV twoL = 4 := by unfold totalV; rw [if_pos two_check]; kernel_rfl
theorem two_at2 : atV twoL 2 = 0 := by unfold atV; rw [if_pos ⟨two_check, by omega⟩]; kernel_rfl
theorem two_at3 : atV twoL 3 = 1 := by unfold atV; rw [if_pos ⟨two_check, by omega⟩]; kernel_rfl
theorem two_any (w : World) : callE Tryd.prog 13 #[] w fun v w' => Sl w' 2 v twoL.length (vdrs twoL) ∧ Below w.heap.size w w' := by
  refine calls_E Tryd.func13 rfl rfl rfl (Nat.le_of_ble_eq_true rfl) ?_
  simp [go_sem, IntWalk.iteOmega, IntWalk.toNatUp]
  have hb : Blk (w.alloc (.cells #[.string ⟨#[97, 110, 97]⟩, .int .i64 3, .string ⟨#[98, 195, 182, 45, 50]⟩, .int .i64 1] 32)) w.heap.size 32 #[.string ⟨#[97, 110, 97]⟩, .int .i64 3, .string ⟨#[98, 195, 182, 45, 50]⟩, .int .i64 1] := Blk.self_ rfl
  refine ⟨⟨_, 2, rfl, ⟨rfl, fun _ => ⟨_, 0, rfl, hb.lt, fun j u hu => ?_⟩⟩, by simp, by simp [twoL], by omega⟩, ext_alloc _ _⟩
  rw [hb.cell, Nat.zero_add, List.getElem?_toArray]
  exact hu
theorem two_N : ∀ x ∈ twoL, x.name.size ≤ 9223372036854775807 := fun x hx => by
  simp only [twoL, List.mem_cons, List.not_mem_nil, or_false] at hx
  rcases hx with rfl | rfl <;> decide
theorem two_W : ∀ x ∈ twoL, -9223372036854775808 ≤ x.weight ∧ x.weight ≤ 9223372036854775807 := fun x hx => by
  simp only [twoL, List.mem_cons, List.not_mem_nil, or_false] at hx
  rcases hx with rfl | rfl <;> decide
set_option maxHeartbeats 1600000 in
theorem live_any (w : World) : callE Tryd.prog 5 #[] w fun v w' => v = .bool true ∧ Below w.heap.size w w' := by
  refine calls_E Tryd.func5 rfl rfl rfl (Nat.le_of_ble_eq_true rfl) ?_
  simp [go_sem, IntWalk.iteOmega, IntWalk.toNatUp]
  refine callE_of (two_any w) ?_
  rintro v1 w1 ⟨s1, k1⟩
  simp [go_sem, IntWalk.iteOmega, IntWalk.toNatUp]
  refine callE_of (vcheck_any twoL v1 w1 s1 two_N two_W) ?_
  rintro _ w2 ⟨rfl, k2⟩
  rw [two_check]
  simp [go_sem, IntWalk.iteOmega, IntWalk.toNatUp]
  refine callE_of (two_any w2) ?_
  rintro v3 w3 ⟨s3, k3⟩
  simp [go_sem, IntWalk.iteOmega, IntWalk.toNatUp]
  refine callE_of (vtotal_any twoL v3 w3 s3 two_N two_W) ?_
  rintro _ w4 ⟨rfl, k4⟩
  rw [two_total]
  simp [go_sem, IntWalk.iteOmega, IntWalk.toNatUp]
  refine callE_of (two_any w4) ?_
  rintro v5 w5 ⟨s5, k5⟩
  simp [go_sem, IntWalk.iteOmega, IntWalk.toNatUp]
  refine callE_of (vat_any twoL 2 (by omega) v5 w5 s5 two_N two_W) ?_
  rintro _ w6 ⟨rfl, k6⟩
  rw [two_at2]
  simp [go_sem, IntWalk.iteOmega, IntWalk.toNatUp]
  refine callE_of (two_any w6) ?_
  rintro v7 w7 ⟨s7, k7⟩
  simp [go_sem, IntWalk.iteOmega, IntWalk.toNatUp]
  refine callE_of (vat_any twoL 3 (by omega) v7 w7 s7 two_N two_W) ?_
  rintro _ w8 ⟨rfl, k8⟩
  rw [two_at3]
  simp [go_sem, IntWalk.iteOmega, IntWalk.toNatUp]
  refine callE_of (vneed_any 4 2 3 (by omega) (by omega) (by omega) w8) ?_
  rintro _ w9 ⟨rfl, k9⟩
  rw [two_need]
  simp [go_sem, IntWalk.iteOmega, IntWalk.toNatUp]
  refine callE_of (vrunes_any ⟨#[98, 195, 182]⟩ (by decide) w9) ?_
  rintro _ w10 ⟨rfl, k10⟩
  rw [two_r]
  simp [go_sem, IntWalk.iteOmega, IntWalk.toNatUp]
  exact ext_trans (ext_trans (ext_trans (ext_trans (ext_trans (ext_trans (ext_trans (ext_trans (ext_trans k1 k2) k3) k4) k5) k6) k7) k8) k9) k10
theorem noinit_live : Tryd.prog.inits.idxOf? 5 = none := by kernel_rfl
end Go.Proofs.YtoabdejoabfbeaaDoor
