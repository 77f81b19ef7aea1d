/-
  Texts joined: PRSame, PRSameP, PREqual, SLine.
-/
import Derived.Test.YtpmmfabendnhiaaDoorJoin27
import Derived.Shelf.Bytes.SlSmallAll
import Derived.KernelRfl
namespace Go.Proofs.YtpmmfabendnhiaaDoor
open Go.RowKit
open Go.Lib (strCells byteCells decDigits)
set_option linter.unusedVariables false
set_option linter.unusedSimpArgs false
set_option maxRecDepth 10000
theorem conv_row {w : World} {B : Nat} {v : Value} {l : List UInt8} (h : w.ownsRow B 5 1 v l.length (byteCells l)) : (convert 37 9 v).run Tryd.prog w = .ok (.string (strOf l)) w := by
  obtain ⟨⟨A, c, rfl, hr, -⟩, -⟩ := own_sl h
  by_cases h0 : 0 < l.length
  · obtain ⟨b, o, rfl, hlt, hc⟩ := hr.cells h0
    rw [run_convert_bytes_arg w 37 5 Tryd.underlying37 Tryd.underlying5 b o l.length c (l.map fun x => (x.toNat : Int)) (by simp) (fun i hi => ?_) 9 Tryd.underlying9]
    · simp [strOfNums, Function.comp_def, strOf]
    · rw [hc i (.int .u8 (l[i].toNat)) (by simp [byteCells, List.getElem?_eq_getElem hi])]
      simp [List.getElem?_eq_getElem hi]
  · have hl : l = [] := List.length_eq_zero_iff.1 (by omega)
    subst hl
    exact run_convert_bytes_zero w 37 5 Tryd.underlying37 Tryd.underlying5 A c 9 Tryd.underlying9
set_option maxHeartbeats 3200000 in
theorem rsame_any {B : Nat} {m : Mv} {A1 A2 A3 A4 : Option Addr} {c1 c2 c3 c4 : Nat} {w : World} (h1 : MvO w B m (.slice A1 m.bytes.length c1) (.slice A2 m.draws.length c2)) (h2 : MvO w B m (.slice A3 m.bytes.length c3) (.slice A4 m.draws.length c4)) (hl : m.draws.length ≤ 9223372036854775806) :
    callE Tryd.prog 9 #[.agg (mvCells m (.slice A1 m.bytes.length c1) (.slice A2 m.draws.length c2)), .agg (mvCells m (.slice A3 m.bytes.length c3) (.slice A4 m.draws.length c4))] w fun r w' => r = .bool true ∧ Below w.heap.size w w' := by
  unfold mvCells
  have kA := ext_alloc w (.cells #[.int .i64 m.kind, .int .i64 m.node, .int .i64 m.rcv, .int .i64 m.n, .slice A1 m.bytes.length c1, .slice A2 m.draws.length c2] 48)
  have kB := kA.alloc kA.size (.cells #[.int .i64 m.kind, .int .i64 m.node, .int .i64 m.rcv, .int .i64 m.n, .slice A3 m.bytes.length c3, .slice A4 m.draws.length c4] 48)
  have hX : Blk ((w.alloc (.cells #[.int .i64 m.kind, .int .i64 m.node, .int .i64 m.rcv, .int .i64 m.n, .slice A1 m.bytes.length c1, .slice A2 m.draws.length c2] 48)).alloc (.cells #[.int .i64 m.kind, .int .i64 m.node, .int .i64 m.rcv, .int .i64 m.n, .slice A3 m.bytes.length c3, .slice A4 m.draws.length c4] 48)) w.heap.size 48 #[.int .i64 m.kind, .int .i64 m.node, .int .i64 m.rcv, .int .i64 m.n, .slice A1 m.bytes.length c1, .slice A2 m.draws.length c2] := (Blk.self_ rfl).more _
  have hY : Blk ((w.alloc (.cells #[.int .i64 m.kind, .int .i64 m.node, .int .i64 m.rcv, .int .i64 m.n, .slice A1 m.bytes.length c1, .slice A2 m.draws.length c2] 48)).alloc (.cells #[.int .i64 m.kind, .int .i64 m.node, .int .i64 m.rcv, .int .i64 m.n, .slice A3 m.bytes.length c3, .slice A4 m.draws.length c4] 48)) (w.heap.size + 1) 48 #[.int .i64 m.kind, .int .i64 m.node, .int .i64 m.rcv, .int .i64 m.n, .slice A3 m.bytes.length c3, .slice A4 m.draws.length c4] := Blk.self_ (by simp)
  have h1 := MvO.below h1 kB
  have h2 := MvO.below h2 kB
  refine calls_E Tryd.func9 rfl rfl rfl (Nat.le_of_ble_eq_true rfl) ?_
  simp [go_sem, IntWalk.iteOmega, IntWalk.toNatUp]
  generalize (w.alloc (.cells #[.int .i64 m.kind, .int .i64 m.node, .int .i64 m.rcv, .int .i64 m.n, .slice A1 m.bytes.length c1, .slice A2 m.draws.length c2] 48)).alloc (.cells #[.int .i64 m.kind, .int .i64 m.node, .int .i64 m.rcv, .int .i64 m.n, .slice A3 m.bytes.length c3, .slice A4 m.draws.length c4] 48) = w1 at *
  have b1 := conv_row h1.1
  have b2 := conv_row h2.1
  have d1 := h1.2
  have d2 := h2.2
  have e1 : ((strOf m.bytes).toList != (strOf m.bytes).toList) = false := by simp
  have x0 := hX.cell
  have y0 := hY.cell
  have xl := hX.lt
  have yl := hY.lt
  simp [go_sem, IntWalk.iteOmega, IntWalk.toNatUp, x0, y0, xl, yl, b1, b2]
  clear b1 b2 x0 y0 xl yl e1 h1 h2 kA
  refine W_loop (fun s wr => ∃ j : Nat, j ≤ m.draws.length ∧ s 2 = .pointer (some ⟨w.heap.size, 0, none⟩) ∧ s 3 = .pointer (some ⟨w.heap.size + 1, 0, none⟩) ∧ s 5 = .int .i64 j ∧ Below w1.heap.size w1 wr) (fun s _ => m.draws.length - (intOf (s 5)).toNat) ⟨0, by omega, by simp [go_sem], by simp [go_sem], by simp [go_sem], Below.refl _ _⟩ ?_
  rintro s wr ⟨j, hj, e2, e3, e5, hb⟩
  have hXr := hX.keep hb
  have hYr := hY.keep hb
  have d1r := row_below d1 hb
  have d2r := row_below d2 hb
  have x0 := hXr.cell
  have y0 := hYr.cell
  have xl := hXr.lt
  have yl := hYr.lt
  by_cases hlt : j < m.draws.length
  · have hlt' : (j : Int) < m.draws.length := by omega
    obtain ⟨⟨_, _, q1, r1, -⟩, -⟩ := own_sl d1r
    obtain ⟨⟨_, _, q2, r2, -⟩, -⟩ := own_sl d2r
    injection q1 with q1 _ _
    injection q2 with q2 _ _
    subst q1
    subst q2
    obtain ⟨g1, o1, rfl, l1, k1⟩ := r1.cells (by omega)
    obtain ⟨g2, o2, rfl, l2, k2⟩ := r2.cells (by omega)
    have z1 := k1 j (.int .u64 (m.draws[j] : Nat)) (by simp [nums, List.getElem?_eq_getElem hlt])
    have z2 := k2 j (.int .u64 (m.draws[j] : Nat)) (by simp [nums, List.getElem?_eq_getElem hlt])
    generalize m.draws[j] = d at *
    have fadd : IntKind.i64.wrap ((j : Int) + 1) = ((j + 1 : Nat) : Int) := by rw [IntWalk.i64_in _ (by omega)]; omega
    simp [go_sem, IntWalk.iteOmega, IntWalk.toNatUp, e2, e3, e5, x0, y0, xl, yl, hlt, hlt']
    refine W_still follows (by kernel_rfl) ?_
    have z1d : wr.drew.cell? ⟨g1, o1 + j, none⟩ = _ := z1
    have z2d : wr.drew.cell? ⟨g2, o2 + j, none⟩ = _ := z2
    have xd := hXr.drew.cell
    have yd := hYr.drew.cell
    simp [go_sem, IntWalk.iteOmega, IntWalk.toNatUp, e2, e3, e5, xd, yd, hXr.drew.lt, hYr.drew.lt, hlt, hlt', z1d, z2d, fadd]
    refine roundEnd.mk ⟨j + 1, by omega, by simp [go_sem, e2], by simp [go_sem, e3], by simp [go_sem], hb.drew⟩ ?_
    simp [go_sem, intOf, e5]
    omega
  · have hlt' : ¬ (j : Int) < m.draws.length := by omega
    simp [go_sem, IntWalk.iteOmega, IntWalk.toNatUp, e2, e3, e5, x0, y0, xl, yl, hlt, hlt']
    exact kB.trans (hb.mono kB.size)
end Go.Proofs.YtpmmfabendnhiaaDoor
namespace Go.Proofs.YtpmmfabendnhiaaDoor
open Go.RowKit
open Go.Lib (strCells byteCells decDigits)
set_option linter.unusedVariables false
set_option linter.unusedSimpArgs false
set_option maxRecDepth 10000
theorem cfg_ne (c : Nat → Nat) (w : World) : (binOp .neq 34 (.agg (cfgL c).toArray) (.agg (cfgL c).toArray)).run Tryd.prog w = .ok (.bool false) w := by
  rw [run_neq_struct]
  unfold cfgL
  simp [go_sem]
theorem vdr_ne (b : ByteArray) (n : Int) (w : World) : (binOp .neq 67 (.agg #[.string b, .int .i64 n]) (.agg #[.string b, .int .i64 n])).run Tryd.prog w = .ok (.bool false) w := by
  rw [run_neq_struct]
  simp [go_sem]
theorem plan_cfg {w : World} {rb : Nat} {c : Nat → Nat} {now : Nat} {vv vb vf : Value} (h : Blk w rb 39 (planL c now vv vb vf).toArray) : readCells w ⟨rb, 0, none⟩ 0 28 = some (cfgL c) :=
  readCells_cells 28 0 _ rfl fun j v hj => by
    simp only [Nat.zero_add]
    rw [h.cell]
    have hlt := (List.getElem?_eq_some_iff.1 hj).1
    simp only [List.getElem?_toArray, planL]
    rw [List.getElem?_append_left hlt]
    exact hj
theorem vdr_at {l : List (List UInt8 × Nat)} {j : Nat} {x : List UInt8 × Nat} (h : l[j]? = some x) : (vdrCells l)[j * 2]? = some (.string (strOf x.1)) ∧ (vdrCells l)[j * 2 + 1]? = some (.int .i64 (x.2 : Int)) := by
  induction l generalizing j with
  | nil => simp at h
  | cons y r ih =>
    cases j with
    | zero =>
      simp only [List.getElem?_cons_zero, Option.some.injEq] at h
      subst h
      exact ⟨rfl, rfl⟩
    | succ j =>
      simp only [List.getElem?_cons_succ] at h
      have := ih h
      rw [show (j + 1) * 2 = j * 2 + 1 + 1 by omega]
      exact this
section
variable (c : Nat → Nat) (now : Nat) (vv vb vf : Value)
theorem pq_28 : (planL c now vv vb vf)[28]? = some vv := Eq.trans rfl rfl
theorem pq_29 : (planL c now vv vb vf)[29]? = some vb := Eq.trans rfl rfl
theorem pq_30 : (planL c now vv vb vf)[30]? = some vf := Eq.trans rfl rfl
theorem pq_31 : (planL c now vv vb vf)[31]? = some (.int .i64 now) := Eq.trans rfl rfl
end
set_option maxHeartbeats 6400000 in
theorem rsamep_any {S : PS} {ms ms' : List Mv} {A1 A2 A3 A4 A5 A6 : Option Addr} {c1 c2 c3 c4 c5 c6 : Nat} {vm vm' : Value} {w : World} (h1 : RowsAt 0 w S ms (.slice A1 S.vs.length c1) (.slice A2 S.byz.length c2) (.slice A3 S.first.length c3) vm) (h2 : RowsAt 0 w S ms' (.slice A4 S.vs.length c4) (.slice A5 S.byz.length c5) (.slice A6 S.first.length c6) vm') (hv : S.vs.length ≤ 32) (hz : S.byz.length ≤ 32) :
    callE Tryd.prog 7 #[.agg (planL S.c S.now (.slice A1 S.vs.length c1) (.slice A2 S.byz.length c2) (.slice A3 S.first.length c3)).toArray, .agg (planL S.c S.now (.slice A4 S.vs.length c4) (.slice A5 S.byz.length c5) (.slice A6 S.first.length c6)).toArray] w fun r w' => r = .bool true ∧ Below w.heap.size w w' := by
  obtain ⟨X, hX⟩ : ∃ X, (planL S.c S.now (.slice A1 S.vs.length c1) (.slice A2 S.byz.length c2) (.slice A3 S.first.length c3)).toArray = X := ⟨_, rfl⟩
  obtain ⟨Y, hY⟩ : ∃ Y, (planL S.c S.now (.slice A4 S.vs.length c4) (.slice A5 S.byz.length c5) (.slice A6 S.first.length c6)).toArray = Y := ⟨_, rfl⟩
  rw [hX, hY]
  have kA := ext_alloc w (.cells X 39)
  have kB := kA.alloc kA.size (.cells Y 39)
  have hx : Blk ((w.alloc (.cells X 39)).alloc (.cells Y 39)) w.heap.size 39 X := (Blk.self_ rfl).more _
  have hy : Blk ((w.alloc (.cells X 39)).alloc (.cells Y 39)) (w.heap.size + 1) 39 Y := Blk.self_ (by simp)
  have h1 := h1.below kB
  have h2 := h2.below kB
  refine calls_E Tryd.func7 rfl rfl rfl (Nat.le_of_ble_eq_true rfl) ?_
  simp [go_sem, IntWalk.iteOmega, IntWalk.toNatUp]
  generalize (w.alloc (.cells X 39)).alloc (.cells Y 39) = w1 at *
  subst hX hY
  have b1 := conv_row h1.first
  have b2 := conv_row h2.first
  have d1 := h1.vs
  have d2 := h2.vs
  have z1 := h1.byz
  have z2 := h2.byz
  have e1 : ((strOf S.first).toList != (strOf S.first).toList) = false := by simp
  have x0 := plan_cfg hx
  have y0 := plan_cfg hy
  have x28 := hx.cell 28
  have x29 := hx.cell 29
  have x30 := hx.cell 30
  have x31 := hx.cell 31
  have y28 := hy.cell 28
  have y29 := hy.cell 29
  have y30 := hy.cell 30
  have y31 := hy.cell 31
  rw [pl_28] at x28 y28
  rw [pl_29] at x29 y29
  rw [pl_30] at x30 y30
  rw [pl_31] at x31 y31
  have xl := hx.lt
  have yl := hy.lt
  have hc := cfg_ne S.c w1
  simp [go_sem, IntWalk.iteOmega, IntWalk.toNatUp, x0, y0, x28, x29, x30, x31, y28, y29, y30, y31, xl, yl, b1, b2, cfgL, pq_28, pq_29, pq_30, pq_31]
  clear b1 b2 x0 y0 xl yl e1 h1 h2 kA x28 x29 x30 x31 y28 y29 y30 y31 hc
  refine W_loop (fun s wr => ∃ j : Nat, j ≤ S.vs.length ∧ s 2 = .pointer (some ⟨w.heap.size, 0, none⟩) ∧ s 3 = .pointer (some ⟨w.heap.size + 1, 0, none⟩) ∧ s 5 = .int .i64 j ∧ Below w1.heap.size w1 wr) (fun s _ => S.vs.length - (intOf (s 5)).toNat) ?_ ?_
  · exact ⟨0, by omega, by simp [go_sem], by simp [go_sem], by simp [go_sem], Below.refl _ _⟩
  rintro s wr ⟨j, hj, e2, e3, e5, hb⟩
  have hXr := hx.keep hb
  have hYr := hy.keep hb
  have x0 := hXr.cell 28
  have y0 := hYr.cell 28
  rw [pl_28] at x0 y0
  have xl := hXr.lt
  have yl := hYr.lt
  by_cases hlt : j < S.vs.length
  · have hlt' : (j : Int) < S.vs.length := by omega
    have d1r := row_below d1 hb
    have d2r := row_below d2 hb
    obtain ⟨⟨_, _, q1, r1, -⟩, -⟩ := own_sl d1r
    obtain ⟨⟨_, _, q2, r2, -⟩, -⟩ := own_sl d2r
    injection q1 with q1 _ _
    injection q2 with q2 _ _
    subst q1
    subst q2
    obtain ⟨g1, o1, rfl, l1, k1⟩ := r1.cells (by omega)
    obtain ⟨g2, o2, rfl, l2, k2⟩ := r2.cells (by omega)
    obtain ⟨⟨nm, wt⟩, hxj⟩ : ∃ x, S.vs[j]? = some x := ⟨S.vs[j]'(by omega), List.getElem?_eq_getElem _⟩
    have u0 := k1 _ _ (vdr_at hxj).1
    have u1 := k1 _ _ (vdr_at hxj).2
    have v0 := k2 _ _ (vdr_at hxj).1
    have v1 := k2 _ _ (vdr_at hxj).2
    rw [← Nat.add_assoc] at u1 v1
    have fadd : IntKind.i64.wrap ((j : Int) + 1) = ((j + 1 : Nat) : Int) := by rw [IntWalk.i64_in _ (by omega)]; omega
    have hne := vdr_ne (strOf nm) wt wr.drew
    simp [go_sem, IntWalk.iteOmega, IntWalk.toNatUp, e2, e3, e5, x0, y0, xl, yl, pq_28, pq_29, hlt, hlt']
    refine W_still follows (by kernel_rfl) ?_
    have u0d : wr.drew.cell? ⟨g1, o1 + j * 2, none⟩ = _ := u0
    have u1d : wr.drew.cell? ⟨g1, o1 + j * 2 + 1, none⟩ = _ := u1
    have v0d : wr.drew.cell? ⟨g2, o2 + j * 2, none⟩ = _ := v0
    have v1d : wr.drew.cell? ⟨g2, o2 + j * 2 + 1, none⟩ = _ := v1
    have xd := hXr.drew.cell 28
    have yd := hYr.drew.cell 28
    rw [pl_28] at xd yd
    simp [go_sem, IntWalk.iteOmega, IntWalk.toNatUp, e2, e3, e5, xd, yd, pq_28, pq_29, hXr.drew.lt, hYr.drew.lt, hlt, hlt', u0d, u1d, v0d, v1d, fadd, hne]
    refine roundEnd.mk ⟨j + 1, by omega, by simp [go_sem, e2], by simp [go_sem, e3], by simp [go_sem], hb.drew⟩ ?_
    simp [go_sem, intOf, e5]
    omega
  · have hlt' : ¬ (j : Int) < S.vs.length := by omega
    simp [go_sem, IntWalk.iteOmega, IntWalk.toNatUp, e2, e3, e5, x0, y0, xl, yl, pq_28, pq_29, hlt, hlt']
    clear x0 y0 xl yl d1 d2 e5 hlt hlt'
    refine W_loop (fun s wr => ∃ j : Nat, j ≤ S.byz.length ∧ s 2 = .pointer (some ⟨w.heap.size, 0, none⟩) ∧ s 3 = .pointer (some ⟨w.heap.size + 1, 0, none⟩) ∧ s 6 = .int .i64 j ∧ Below w1.heap.size w1 wr) (fun s _ => S.byz.length - (intOf (s 6)).toNat) ?_ ?_
    · exact ⟨0, by omega, by simp [go_sem, e2], by simp [go_sem, e3], by simp [go_sem], hb⟩
    clear hXr hYr hb e2 e3 hj
    clear j s
    rintro s wr ⟨j, hj, e2, e3, e5, hb⟩
    have hXr := hx.keep hb
    have hYr := hy.keep hb
    have x0 := hXr.cell 29
    have y0 := hYr.cell 29
    rw [pl_29] at x0 y0
    have xl := hXr.lt
    have yl := hYr.lt
    by_cases hlt : j < S.byz.length
    · have hlt' : (j : Int) < S.byz.length := by omega
      have d1r := row_below z1 hb
      have d2r := row_below z2 hb
      obtain ⟨⟨_, _, q1, r1, -⟩, -⟩ := own_sl d1r
      obtain ⟨⟨_, _, q2, r2, -⟩, -⟩ := own_sl d2r
      injection q1 with q1 _ _
      injection q2 with q2 _ _
      subst q1
      subst q2
      obtain ⟨g1, o1, rfl, l1, k1⟩ := r1.cells (by omega)
      obtain ⟨g2, o2, rfl, l2, k2⟩ := r2.cells (by omega)
      have u0 := k1 j (.int .i64 (S.byz[j] : Nat)) (by simp [intCells, List.getElem?_eq_getElem hlt])
      have v0 := k2 j (.int .i64 (S.byz[j] : Nat)) (by simp [intCells, List.getElem?_eq_getElem hlt])
      generalize S.byz[j] = d at *
      have fadd : IntKind.i64.wrap ((j : Int) + 1) = ((j + 1 : Nat) : Int) := by rw [IntWalk.i64_in _ (by omega)]; omega
      simp [go_sem, IntWalk.iteOmega, IntWalk.toNatUp, e2, e3, e5, x0, y0, xl, yl, pq_28, pq_29, hlt, hlt']
      refine W_still follows (by kernel_rfl) ?_
      have u0d : wr.drew.cell? ⟨g1, o1 + j, none⟩ = _ := u0
      have v0d : wr.drew.cell? ⟨g2, o2 + j, none⟩ = _ := v0
      have xd := hXr.drew.cell 29
      have yd := hYr.drew.cell 29
      rw [pl_29] at xd yd
      simp [go_sem, IntWalk.iteOmega, IntWalk.toNatUp, e2, e3, e5, xd, yd, pq_28, pq_29, hXr.drew.lt, hYr.drew.lt, hlt, hlt', u0d, v0d, fadd]
      refine roundEnd.mk ⟨j + 1, by omega, by simp [go_sem, e2], by simp [go_sem, e3], by simp [go_sem], hb.drew⟩ ?_
      simp [go_sem, intOf, e5]
      omega
    · have hlt' : ¬ (j : Int) < S.byz.length := by omega
      simp [go_sem, IntWalk.iteOmega, IntWalk.toNatUp, e2, e3, e5, x0, y0, xl, yl, pq_28, pq_29, hlt, hlt']
      exact kB.trans (hb.mono kB.size)
end Go.Proofs.YtpmmfabendnhiaaDoor
namespace Go.Proofs.YtpmmfabendnhiaaDoor
open Go.RowKit
open Go.Lib (strCells byteCells decDigits)
set_option linter.unusedVariables false
set_option linter.unusedSimpArgs false
set_option maxRecDepth 10000
theorem mvs_at {xs : List (Mv × Value × Value)} {j : Nat} {x : Mv × Value × Value} (h : xs[j]? = some x) (i : Nat) (hi : i < 6) : (mvsCells xs)[j * 6 + i]? = (mvCells x.1 x.2.1 x.2.2)[i]? := by
  induction xs generalizing j with
  | nil => simp at h
  | cons y r ih =>
    have hl : (mvCells y.1 y.2.1 y.2.2).toList.length = 6 := rfl
    cases j with
    | zero =>
      simp only [List.getElem?_cons_zero, Option.some.injEq] at h
      subst h
      simp only [mvsCells, List.flatMap_cons, Nat.zero_mul, Nat.zero_add]
      rw [List.getElem?_append_left (by rw [hl]; exact hi)]
      simp
    | succ j =>
      simp only [List.getElem?_cons_succ] at h
      have := ih h
      simp only [mvsCells, List.flatMap_cons] at this ⊢
      rw [List.getElem?_append_right (by rw [hl]; omega), hl, ← this]
      congr 1
      omega
set_option maxHeartbeats 6400000 in
theorem requal_any {B : Nat} {xs ys : List (Mv × Value × Value)} {ms : List Mv} {A1 A2 : Option Addr} {c1 c2 : Nat} {w : World} (hx1 : xs.map Prod.fst = ms) (hx2 : w.ownsRow B 48 6 (.slice A1 ms.length c1) ms.length (mvsCells xs)) (hx3 : ∀ x ∈ xs, MvO w B x.1 x.2.1 x.2.2)
    (hy1 : ys.map Prod.fst = ms) (hy2 : w.ownsRow B 48 6 (.slice A2 ms.length c2) ms.length (mvsCells ys)) (hy3 : ∀ x ∈ ys, MvO w B x.1 x.2.1 x.2.2) (hml : ms.length ≤ 5000) (hdl : ∀ m ∈ ms, m.draws.length ≤ 9223372036854775806) :
    callE Tryd.prog 8 #[.slice A1 ms.length c1, .slice A2 ms.length c2, .func (.func 9) #[] #[]] w fun r w' => r = .bool true ∧ Below w.heap.size w w' := by
  refine calls_E Tryd.func8 rfl rfl rfl (Nat.le_of_ble_eq_true rfl) ?_
  simp [go_sem, IntWalk.iteOmega, IntWalk.toNatUp]
  refine W_loop (fun s wr => ∃ j : Nat, j ≤ ms.length ∧ s 2 = .func (.func 9) #[] #[] ∧ s 1 = .slice A2 ms.length c2 ∧ s 15 = .slice A1 ms.length c1 ∧ s 16 = .int .i64 ms.length ∧ s 17 = .int .i64 j ∧ Below w.heap.size w wr) (fun s _ => ms.length - (intOf (s 17)).toNat) ⟨0, by omega, by simp [go_sem], by simp [go_sem], by simp [go_sem], by simp [go_sem], by simp [go_sem], Below.refl _ _⟩ ?_
  rintro s wr ⟨j, hj, e2, e1, e15, e16, e17, hb⟩
  by_cases hlt : j < ms.length
  · have hlt' : (j : Int) < ms.length := by omega
    have hx2r := row_below hx2 hb
    have hy2r := row_below hy2 hb
    obtain ⟨⟨_, _, q1, r1, -⟩, -⟩ := own_sl hx2r
    obtain ⟨⟨_, _, q2, r2, -⟩, -⟩ := own_sl hy2r
    injection q1 with q1 _ _
    injection q2 with q2 _ _
    subst q1
    subst q2
    obtain ⟨g1, o1, rfl, l1, k1⟩ := r1.cells (by omega)
    obtain ⟨g2, o2, rfl, l2, k2⟩ := r2.cells (by omega)
    have hxl : xs.length = ms.length := by rw [← hx1]; simp
    have hyl : ys.length = ms.length := by rw [← hy1]; simp
    obtain ⟨⟨m, a, b⟩, hxj⟩ : ∃ x, xs[j]? = some x := ⟨xs[j]'(by omega), List.getElem?_eq_getElem _⟩
    obtain ⟨⟨m', a', b'⟩, hyj⟩ : ∃ x, ys[j]? = some x := ⟨ys[j]'(by omega), List.getElem?_eq_getElem _⟩
    have hmm : m = m' := by
      have := congrArg (fun l : List Mv => l[j]?) (hx1.trans hy1.symm)
      simpa [hxj, hyj] using this
    subst hmm
    have hmem : m ∈ ms := by rw [← hx1]; exact List.mem_map.2 ⟨_, List.mem_of_getElem? hxj, rfl⟩
    have hox := MvO.below (hx3 _ (List.mem_of_getElem? hxj)) hb
    have hoy := MvO.below (hy3 _ (List.mem_of_getElem? hyj)) hb
    simp only at hox hoy
    obtain ⟨-, Aa, ca, rfl⟩ := own_sl hox.1
    obtain ⟨-, Ab, cb, rfl⟩ := own_sl hox.2
    obtain ⟨-, Ac, cc, rfl⟩ := own_sl hoy.1
    obtain ⟨-, Ad, cd, rfl⟩ := own_sl hoy.2
    have kA := ext_alloc wr (.cells #[.int .i64 m.kind, .int .i64 m.node, .int .i64 m.rcv, .int .i64 m.n, .slice Aa m.bytes.length ca, .slice Ab m.draws.length cb] 48)
    have kB := kA.alloc kA.size (.cells #[.int .i64 m.kind, .int .i64 m.node, .int .i64 m.rcv, .int .i64 m.n, .slice Ac m.bytes.length cc, .slice Ad m.draws.length cd] 48)
    have hX : Blk ((wr.alloc (.cells #[.int .i64 m.kind, .int .i64 m.node, .int .i64 m.rcv, .int .i64 m.n, .slice Aa m.bytes.length ca, .slice Ab m.draws.length cb] 48)).alloc (.cells #[.int .i64 m.kind, .int .i64 m.node, .int .i64 m.rcv, .int .i64 m.n, .slice Ac m.bytes.length cc, .slice Ad m.draws.length cd] 48)) wr.heap.size 48 #[.int .i64 m.kind, .int .i64 m.node, .int .i64 m.rcv, .int .i64 m.n, .slice Aa m.bytes.length ca, .slice Ab m.draws.length cb] := (Blk.self_ rfl).more _
    have hY : Blk ((wr.alloc (.cells #[.int .i64 m.kind, .int .i64 m.node, .int .i64 m.rcv, .int .i64 m.n, .slice Aa m.bytes.length ca, .slice Ab m.draws.length cb] 48)).alloc (.cells #[.int .i64 m.kind, .int .i64 m.node, .int .i64 m.rcv, .int .i64 m.n, .slice Ac m.bytes.length cc, .slice Ad m.draws.length cd] 48)) (wr.heap.size + 1) 48 #[.int .i64 m.kind, .int .i64 m.node, .int .i64 m.rcv, .int .i64 m.n, .slice Ac m.bytes.length cc, .slice Ad m.draws.length cd] := Blk.self_ (by simp)
    have u0 : wr.cell? ⟨g1, o1 + j * 6 + 0, none⟩ = some (.int .i64 m.kind) := by rw [Nat.add_assoc]; exact k1 (j * 6 + 0) _ (by rw [mvs_at hxj 0 (by omega)]; rfl)
    have v0 : (wr.alloc (.cells #[.int .i64 m.kind, .int .i64 m.node, .int .i64 m.rcv, .int .i64 m.n, .slice Aa m.bytes.length ca, .slice Ab m.draws.length cb] 48)).cell? ⟨g2, o2 + j * 6 + 0, none⟩ = some (.int .i64 m.kind) := by rw [kA.cell (p := ⟨g2, o2 + j * 6 + 0, none⟩) l2, Nat.add_assoc]; exact k2 (j * 6 + 0) _ (by rw [mvs_at hyj 0 (by omega)]; rfl)
    have u1 : wr.cell? ⟨g1, o1 + j * 6 + 1, none⟩ = some (.int .i64 m.node) := by rw [Nat.add_assoc]; exact k1 (j * 6 + 1) _ (by rw [mvs_at hxj 1 (by omega)]; rfl)
    have v1 : (wr.alloc (.cells #[.int .i64 m.kind, .int .i64 m.node, .int .i64 m.rcv, .int .i64 m.n, .slice Aa m.bytes.length ca, .slice Ab m.draws.length cb] 48)).cell? ⟨g2, o2 + j * 6 + 1, none⟩ = some (.int .i64 m.node) := by rw [kA.cell (p := ⟨g2, o2 + j * 6 + 1, none⟩) l2, Nat.add_assoc]; exact k2 (j * 6 + 1) _ (by rw [mvs_at hyj 1 (by omega)]; rfl)
    have u2 : wr.cell? ⟨g1, o1 + j * 6 + 2, none⟩ = some (.int .i64 m.rcv) := by rw [Nat.add_assoc]; exact k1 (j * 6 + 2) _ (by rw [mvs_at hxj 2 (by omega)]; rfl)
    have v2 : (wr.alloc (.cells #[.int .i64 m.kind, .int .i64 m.node, .int .i64 m.rcv, .int .i64 m.n, .slice Aa m.bytes.length ca, .slice Ab m.draws.length cb] 48)).cell? ⟨g2, o2 + j * 6 + 2, none⟩ = some (.int .i64 m.rcv) := by rw [kA.cell (p := ⟨g2, o2 + j * 6 + 2, none⟩) l2, Nat.add_assoc]; exact k2 (j * 6 + 2) _ (by rw [mvs_at hyj 2 (by omega)]; rfl)
    have u3 : wr.cell? ⟨g1, o1 + j * 6 + 3, none⟩ = some (.int .i64 m.n) := by rw [Nat.add_assoc]; exact k1 (j * 6 + 3) _ (by rw [mvs_at hxj 3 (by omega)]; rfl)
    have v3 : (wr.alloc (.cells #[.int .i64 m.kind, .int .i64 m.node, .int .i64 m.rcv, .int .i64 m.n, .slice Aa m.bytes.length ca, .slice Ab m.draws.length cb] 48)).cell? ⟨g2, o2 + j * 6 + 3, none⟩ = some (.int .i64 m.n) := by rw [kA.cell (p := ⟨g2, o2 + j * 6 + 3, none⟩) l2, Nat.add_assoc]; exact k2 (j * 6 + 3) _ (by rw [mvs_at hyj 3 (by omega)]; rfl)
    have u4 : wr.cell? ⟨g1, o1 + j * 6 + 4, none⟩ = some (.slice Aa m.bytes.length ca) := by rw [Nat.add_assoc]; exact k1 (j * 6 + 4) _ (by rw [mvs_at hxj 4 (by omega)]; rfl)
    have v4 : (wr.alloc (.cells #[.int .i64 m.kind, .int .i64 m.node, .int .i64 m.rcv, .int .i64 m.n, .slice Aa m.bytes.length ca, .slice Ab m.draws.length cb] 48)).cell? ⟨g2, o2 + j * 6 + 4, none⟩ = some (.slice Ac m.bytes.length cc) := by rw [kA.cell (p := ⟨g2, o2 + j * 6 + 4, none⟩) l2, Nat.add_assoc]; exact k2 (j * 6 + 4) _ (by rw [mvs_at hyj 4 (by omega)]; rfl)
    have u5 : wr.cell? ⟨g1, o1 + j * 6 + 5, none⟩ = some (.slice Ab m.draws.length cb) := by rw [Nat.add_assoc]; exact k1 (j * 6 + 5) _ (by rw [mvs_at hxj 5 (by omega)]; rfl)
    have v5 : (wr.alloc (.cells #[.int .i64 m.kind, .int .i64 m.node, .int .i64 m.rcv, .int .i64 m.n, .slice Aa m.bytes.length ca, .slice Ab m.draws.length cb] 48)).cell? ⟨g2, o2 + j * 6 + 5, none⟩ = some (.slice Ad m.draws.length cd) := by rw [kA.cell (p := ⟨g2, o2 + j * 6 + 5, none⟩) l2, Nat.add_assoc]; exact k2 (j * 6 + 5) _ (by rw [mvs_at hyj 5 (by omega)]; rfl)
    rw [Nat.add_zero] at u0 v0
    have fadd : IntKind.i64.wrap ((j : Int) + 1) = ((j + 1 : Nat) : Int) := by rw [IntWalk.i64_in _ (by omega)]; omega
    simp [go_sem, IntWalk.iteOmega, IntWalk.toNatUp, e2, e1, e15, e16, e17, hlt, hlt', u0, u1, u2, u3, u4, u5, v0, v1, v2, v3, v4, v5, hX.cell, hY.cell, hX.lt, hY.lt]
    refine callE_of (rsame_any (MvO.below hox kB) (MvO.below hoy kB) (hdl m hmem)) ?_
    rintro _ w2 ⟨rfl, k2⟩
    simp [go_sem, IntWalk.iteOmega, IntWalk.toNatUp, e2, e1, e15, e16, e17, fadd]
    refine roundEnd.mk ⟨j + 1, by omega, by simp [go_sem, e2], by simp [go_sem, e1], by simp [go_sem, e15], by simp [go_sem, e16], by simp [go_sem], hb.trans ((kB.trans (k2.mono kB.size)).mono hb.size)⟩ ?_
    simp [go_sem, intOf, e17]
    omega
  · have hlt' : ¬ (j : Int) < ms.length := by omega
    simp [go_sem, IntWalk.iteOmega, IntWalk.toNatUp, e2, e1, e15, e16, e17, hlt, hlt']
    exact hb
end Go.Proofs.YtpmmfabendnhiaaDoor
namespace Go.Proofs.YtpmmfabendnhiaaDoor
open Go.RowKit
open Go.Lib (strCells byteCells decDigits)
set_option linter.unusedVariables false
set_option linter.unusedSimpArgs false
set_option maxRecDepth 10000
/-- A row begun with one word. -/
theorem own_one {w : World} (t : List UInt8) : (w.alloc (.cells #[.string (strOf t)] 9)).ownsRow w.heap.size 9 1 (.slice (some ⟨w.heap.size, 0, none⟩) 1 1) 1 (strs [t]) :=
  ⟨rfl, .inr ⟨w.heap.size, 1, _, rfl, Nat.le_refl _, heap_alloc_new w _, Nat.le_refl _, by unfold maxLen; omega, by simp, by simp [strs]⟩⟩
theorem own_slice {w : World} {base e n : Nat} {v : Value} {xs : List Value} (h : w.ownsRow base e 1 v n xs) (hn : 0 < n) : ∃ g c, v = .slice (some ⟨g, 0, none⟩) n c ∧ n ≤ c ∧ base ≤ g ∧ g < w.heap.size ∧ ∀ j u, xs[j]? = some u → w.cell? ⟨g, 0 + j, none⟩ = some u := by
  rcases h.2 with ⟨_, h0⟩ | ⟨g, cap, cur, rfl, hb, hg, hnc, _⟩
  · omega
  · refine ⟨g, cap, rfl, hnc, hb, (Array.getElem?_eq_some_iff.1 hg).1, fun j u hu => ?_⟩
    have := h.cells (g := g) rfl j u hu
    rwa [add_none] at this
theorem wordE {w1 w' : World} {v : Value} {n : Nat} {ws : List (List UInt8)} {t : List UInt8} {k : Kont} (hb : Below w1.heap.size w1 w') (own : w'.ownsRow w1.heap.size 9 1 v n (strs ws)) (hn : n ≤ 1000)
    (hk : ∀ v3 w3, w3.ownsRow w1.heap.size 9 1 v3 (n + 1) (strs (ws ++ [t])) → Below w1.heap.size w1 w3 → k v3 w3) :
    resE Tryd.prog (appendR Tryd.prog 56 56 56 v (.slice (some ⟨w'.heap.size, 0, none⟩) 1 1) (w'.alloc (.cells #[.string (strOf t)] 9))) k := by
  have hlt := own.lt
  have hbA := hb.alloc hb.size (.cells #[.string (strOf t)] 9)
  refine appendW (own_keep own (ext_alloc w' _)) (Blk.self_ rfl) hbA.size (by omega) ?_
  intro v3 w3 hown3 g3
  exact hk v3 w3 hown3 (hbA.grown g3 hbA.size (fun k hk => (hlt k hk).1))
theorem join_any {w : World} {base n : Nat} {v : Value} {ws : List (List UInt8)} (own : w.ownsRow base 9 1 v n (strs ws)) (hn : n = ws.length) (hpos : 0 < n) (hl : (Lib.join ws [32]).length ≤ 140737488355328) (hn2 : n ≤ 1000) :
    callE Tryd.prog 23 #[v, .string ⟨#[32]⟩] w fun u w' => u = .string (strOf (Lib.join ws [32])) ∧ Below w.heap.size w w' := by
  obtain ⟨g, c, rfl, hc, _, hlt, hcells⟩ := own_slice own hpos
  subst hn
  have hm : (ws.map strOf).map (·.data.toList) = ws := by rw [List.map_map]; exact (List.map_congr_left fun x _ => by simp [strOf]).trans (List.map_id _)
  have hj := Tryd.strings_Join g 0 c (ws.map strOf) ⟨#[32]⟩ w (fun j x hx => hcells j _ (by
    simp only [strs, List.getElem?_map] at hx ⊢
    cases hq : ws[j]? with
    | none => rw [hq] at hx; cases hx
    | some y => rw [hq] at hx; simp at hx; subst hx; rfl)) hlt (by simp; omega) (by simpa using hc) (by rw [hm]; exact hl)
  rw [hm] at hj
  rw [List.length_map] at hj
  refine hj.mono ?_
  rintro e w' ⟨rfl, hb⟩
  exact ⟨_, rfl, rfl, hb⟩
set_option maxHeartbeats 6400000 in
theorem line_tick {w : World} {b o c : Nat} (hd : ∀ j u, [Value.int .u64 7, Value.int .u64 0][j]? = some u → w.cell? ⟨b, o + j, none⟩ = some u) (hb : b < w.heap.size) :
    callE Tryd.prog 10 #[.agg #[.int .i64 3, .int .i64 1, .int .i64 0, .int .i64 30, .slice none 0 0, .slice (some ⟨b, o, none⟩) 2 c]] w fun v w' => v = .tuple #[.string ⟨#[116, 105, 99, 107, 32, 49, 32, 51, 48, 32, 55, 32, 48]⟩, .int .i64 0] ∧ Below w.heap.size w w' := by
  have kA := ext_alloc w (.cells #[.int .i64 3, .int .i64 1, .int .i64 0, .int .i64 30, .slice none 0 0, .slice (some ⟨b, o, none⟩) 2 c] 48)
  have hX : Blk (w.alloc (.cells #[.int .i64 3, .int .i64 1, .int .i64 0, .int .i64 30, .slice none 0 0, .slice (some ⟨b, o, none⟩) 2 c] 48)) w.heap.size 48 #[.int .i64 3, .int .i64 1, .int .i64 0, .int .i64 30, .slice none 0 0, .slice (some ⟨b, o, none⟩) 2 c] := Blk.self_ rfl
  refine calls_E Tryd.func10 rfl rfl rfl (Nat.le_of_ble_eq_true rfl) ?_
  simp [go_sem, IntWalk.iteOmega, IntWalk.toNatUp]
  generalize w.alloc (.cells #[.int .i64 3, .int .i64 1, .int .i64 0, .int .i64 30, .slice none 0 0, .slice (some ⟨b, o, none⟩) 2 c] 48) = W at *
  refine callE_of check_tick ?_
  rintro _ w1 ⟨rfl, k1⟩
  have hX1 := hX.keep k1
  have kB := kA.trans (k1.mono kA.size)
  have b1 : bits .and .i64 21 1 = 1 := by decide +kernel
  have b2 : bits .and .i64 21 2 = 0 := by decide +kernel
  have b4 : bits .and .i64 21 4 = 4 := by decide +kernel
  have b8 : bits .and .i64 21 8 = 0 := by decide +kernel
  have n1 : ∀ w k, callE Tryd.prog 20 #[.int .i64 1] w k = k (.string (strOf (decDigits 1))) w := fun w k => callE_eq noinit_num (num_runs 1 (by omega) w) k
  have n30 : ∀ w k, callE Tryd.prog 20 #[.int .i64 30] w k = k (.string (strOf (decDigits 30))) w := fun w k => callE_eq noinit_num (num_runs 30 (by omega) w) k
  have n7 : ∀ w k, callE Tryd.prog 22 #[.int .u64 7, .int .i64 10] w k = k (.string (strOf (decDigits 7))) w := fun w k => callE_eq noinit_fu (fu_runs 7 (by omega) w) k
  have n0 : ∀ w k, callE Tryd.prog 22 #[.int .u64 0, .int .i64 10] w k = k (.string (strOf (decDigits 0))) w := fun w k => callE_eq noinit_fu (fu_runs 0 (by omega) w) k
  have ct : (⟨#[116, 105, 99, 107]⟩ : ByteArray) = strOf [116, 105, 99, 107] := rfl
  have hd1 : ∀ j u, [Value.int .u64 7, Value.int .u64 0][j]? = some u → w1.cell? ⟨b, o + j, none⟩ = some u := fun j u h => by rw [kB.cell hb]; exact hd j u h
  have hb1 : b < w1.heap.size := by have := kB.size; omega
  simp [go_sem, IntWalk.iteOmega, IntWalk.toNatUp, hX1.cell, form3E, b1, ct]
  have own2 := own_one (w := w1) [116, 105, 99, 107]
  have kk2 := ext_alloc w1 (.cells #[.string (strOf [116, 105, 99, 107])] 9)
  have hX2 := hX1.below kk2 hX1.lt
  generalize w1.alloc (.cells #[.string (strOf [116, 105, 99, 107])] 9) = w2 at *
  generalize (Value.slice (some ⟨w1.heap.size, 0, none⟩) 1 1) = v2 at *
  simp [go_sem, IntWalk.iteOmega, IntWalk.toNatUp, hX2.cell, n1]
  refine wordE kk2 own2 (by omega) ?_
  intro v3 w3 own3 kk3
  have hX3 := hX1.below kk3 hX1.lt
  simp [go_sem, IntWalk.iteOmega, IntWalk.toNatUp, hX3.cell, b2, b4, n30]
  refine wordE kk3 own3 (by omega) ?_
  intro v4 w4 own4 kk4
  have hX4 := hX1.below kk4 hX1.lt
  have c0 := hd1 0 _ rfl
  rw [← kk4.cell hb1, Nat.add_zero] at c0
  simp [go_sem, IntWalk.iteOmega, IntWalk.toNatUp, hX4.cell, b8]
  refine W_rounds [(), (), ()] ?_
  simp [go_sem, IntWalk.iteOmega, IntWalk.toNatUp, c0, n7]
  refine wordE kk4 own4 (by omega) ?_
  intro v5 w5 own5 kk5
  have c1 := hd1 1 _ rfl
  rw [← kk5.cell hb1] at c1
  simp [go_sem, IntWalk.iteOmega, IntWalk.toNatUp, c1, n0]
  refine wordE kk5 own5 (by omega) ?_
  intro v6 w6 own6 kk6
  simp [go_sem, IntWalk.iteOmega, IntWalk.toNatUp]
  refine callE_of (join_any own6 rfl (by omega) (by decide +kernel) (by omega)) ?_
  rintro _ w7 ⟨rfl, k7⟩
  simp [go_sem, IntWalk.iteOmega, IntWalk.toNatUp]
  exact ⟨congrArg strOf (show Lib.join [[116, 105, 99, 107], decDigits 1, decDigits 30, decDigits 7, decDigits 0] [32] = [116, 105, 99, 107, 32, 49, 32, 51, 48, 32, 55, 32, 48] by decide +kernel), (kB.trans (kk6.mono kB.size)).trans (k7.mono (kB.trans (kk6.mono kB.size)).size)⟩
set_option maxHeartbeats 6400000 in
theorem line_build {w : World} :
    callE Tryd.prog 10 #[.agg #[.int .i64 4, .int .i64 0, .int .i64 0, .int .i64 0, .slice none 0 0, .slice none 0 0]] w fun v w' => v = .tuple #[.string ⟨#[98, 117, 105, 108, 100, 32, 48, 32, 45]⟩, .int .i64 0] ∧ Below w.heap.size w w' := by
  have kA := ext_alloc w (.cells #[.int .i64 4, .int .i64 0, .int .i64 0, .int .i64 0, .slice none 0 0, .slice none 0 0] 48)
  have hX : Blk (w.alloc (.cells #[.int .i64 4, .int .i64 0, .int .i64 0, .int .i64 0, .slice none 0 0, .slice none 0 0] 48)) w.heap.size 48 #[.int .i64 4, .int .i64 0, .int .i64 0, .int .i64 0, .slice none 0 0, .slice none 0 0] := Blk.self_ rfl
  refine calls_E Tryd.func10 rfl rfl rfl (Nat.le_of_ble_eq_true rfl) ?_
  simp [go_sem, IntWalk.iteOmega, IntWalk.toNatUp]
  generalize w.alloc (.cells #[.int .i64 4, .int .i64 0, .int .i64 0, .int .i64 0, .slice none 0 0, .slice none 0 0] 48) = W at *
  refine callE_of check_build ?_
  rintro _ w1 ⟨rfl, k1⟩
  have hX1 := hX.keep k1
  have kB := kA.trans (k1.mono kA.size)
  have b1 : bits .and .i64 25 1 = 1 := by decide +kernel
  have b2 : bits .and .i64 25 2 = 0 := by decide +kernel
  have b4 : bits .and .i64 25 4 = 0 := by decide +kernel
  have b8 : bits .and .i64 25 8 = 8 := by decide +kernel
  have n0 : ∀ w k, callE Tryd.prog 20 #[.int .i64 0] w k = k (.string (strOf (decDigits 0))) w := fun w k => callE_eq noinit_num (num_runs 0 (by omega) w) k
  have ct : (⟨#[98, 117, 105, 108, 100]⟩ : ByteArray) = strOf [98, 117, 105, 108, 100] := rfl
  simp [go_sem, IntWalk.iteOmega, IntWalk.toNatUp, hX1.cell, form4E, b1, ct]
  have own2 := own_one (w := w1) [98, 117, 105, 108, 100]
  have kk2 := ext_alloc w1 (.cells #[.string (strOf [98, 117, 105, 108, 100])] 9)
  have hX2 := hX1.below kk2 hX1.lt
  generalize w1.alloc (.cells #[.string (strOf [98, 117, 105, 108, 100])] 9) = w2 at *
  generalize (Value.slice (some ⟨w1.heap.size, 0, none⟩) 1 1) = v2 at *
  simp [go_sem, IntWalk.iteOmega, IntWalk.toNatUp, hX2.cell, n0]
  refine wordE kk2 own2 (by omega) ?_
  intro v3 w3 own3 kk3
  have hX3 := hX1.below kk3 hX1.lt
  simp [go_sem, IntWalk.iteOmega, IntWalk.toNatUp, hX3.cell, b2, b4, b8]
  refine callE_of (hex_any [] (by simp) _ w3 ⟨none, 0, rfl, ⟨rfl, fun h => by simp at h⟩, fun _ => ⟨rfl, rfl⟩, by simp, by omega⟩) ?_
  rintro _ w4 ⟨rfl, k4⟩
  have kk4 := kk3.trans (k4.mono kk3.size)
  have own4 := own_keep own3 k4
  have hX4 := hX1.below kk4 hX1.lt
  simp [go_sem, IntWalk.iteOmega, IntWalk.toNatUp]
  refine wordE kk4 own4 (by omega) ?_
  intro v5 w5 own5 kk5
  have hX5 := hX1.below kk5 hX1.lt
  simp [go_sem, IntWalk.iteOmega, IntWalk.toNatUp, hX5.cell]
  refine W_rounds [()] ?_
  simp [go_sem, IntWalk.iteOmega, IntWalk.toNatUp]
  refine callE_of (join_any own5 rfl (by omega) (by decide +kernel) (by omega)) ?_
  rintro _ w7 ⟨rfl, k7⟩
  simp [go_sem, IntWalk.iteOmega, IntWalk.toNatUp]
  exact ⟨congrArg strOf (show Lib.join [[98, 117, 105, 108, 100], decDigits 0, hexV []] [32] = [98, 117, 105, 108, 100, 32, 48, 32, 45] by decide +kernel), (kB.trans (kk5.mono kB.size)).trans (k7.mono (kB.trans (kk5.mono kB.size)).size)⟩
end Go.Proofs.YtpmmfabendnhiaaDoor
