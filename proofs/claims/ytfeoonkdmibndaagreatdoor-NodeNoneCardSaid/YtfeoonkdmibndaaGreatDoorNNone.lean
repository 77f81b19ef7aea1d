/-
  NodeNone: its walk: the first part walked, the rest reckoned.
-/
import Derived.Test.YtfeoonkdmibndaaGreatDoorNRest
namespace Go.Proofs.YtfeoonkdmibndaaGreatDoor.Ex
open Go Go.Proofs Go.RowKit
set_option linter.unusedVariables false
set_option linter.unusedSimpArgs false
set_option maxRecDepth 10000
theorem lr_any {e : Env} : ∀ {n : Nat} {l : List Value}, l.length = n → (∀ v ∈ l, (∀ b, v ≠ .bool b) ∧ v.oneCell' = true) → LR e (List.replicate n anyV) l
  | 0, [], _, _ => LR.nil
  | 0, _ :: _, h, _ => by cases h
  | n + 1, [], h, _ => by cases h
  | n + 1, v :: l, h, hv => LR.cons (.any (fun b hb => (hv v List.mem_cons_self).1 b hb) (hv v List.mem_cons_self).2) (lr_any (by simpa using h) fun u hu => hv u (List.mem_cons_of_mem _ hu))
theorem idl_ok (x : List UInt8) (h : x.length = 32) (e : Env) : LR e idA (x.map fun c => Value.int .u8 (c.toNat : Int)) := lr_any (by simpa using h) (by
    intro v hv
    obtain ⟨c, _, rfl⟩ := List.mem_map.1 hv
    exact ⟨fun b h => (by cases h), rfl⟩)
theorem nodeNone_any {w : World} (hC : Cubes w) {ids : Array Value} (hidl : ∀ e : Env, LR e idA ids.toList) (i : Int) (c0 c1 c2 : Int) {A1 A2 : Option Addr} {n1 k1 n2 k2 : Nat} :
    callE Tryz.prog 3 #[.agg #[.int .i64 c0, .int .i64 c1, .int .i64 c2, .slice A1 n1 k1, .slice A2 n2 k2], .agg ids, .int .i64 i] w fun v w' => v = .bool true ∧ Below w.heap.size w w' := by
  have hiz : ids.size = 32 := by have := (hidl (fun _ => none)).1; simpa [idA] using this.symm
  refine calls_W Tryz.func3 rfl rfl rfl (Nat.le_of_ble_eq_true rfl) ?_
  refine W_head fun b0 hb0 => ?_
  simp [go_sem, IntWalk.iteOmega, IntWalk.toNatUp]
  obtain ⟨W1, hW1⟩ : ∃ W1, w.alloc (.cells #[.int .i64 c0, .int .i64 c1, .int .i64 c2, .slice A1 n1 k1, .slice A2 n2 k2] 25) = W1 := ⟨_, rfl⟩
  rw [hW1]
  have hB1 : Below w.heap.size w W1 := by rw [← hW1]; exact ext_alloc _ _
  have hS1 : W1.heap.size = w.heap.size + 1 := by rw [← hW1]; simp
  have hK1 : Blk W1 w.heap.size 25 #[.int .i64 c0, .int .i64 c1, .int .i64 c2, .slice A1 n1 k1, .slice A2 n2 k2] := by rw [← hW1]; exact Blk.self_ rfl
  obtain ⟨W2, hW2⟩ : ∃ W2, W1.alloc (.cells ids 27) = W2 := ⟨_, rfl⟩
  rw [hW2]
  have hB12 : Below W1.heap.size W1 W2 := by rw [← hW2]; exact ext_alloc _ _
  have hB2 : Below w.heap.size w W2 := hB1.trans (hB12.mono hB1.size)
  have hS2 : W2.heap.size = w.heap.size + 2 := by rw [← hW2]; simp [hS1]
  have hK1' := hK1.keep hB12
  refine callE_of (liveN_any W2 (hC.keep hB2)) ?_
  rintro _ w3 ⟨rfl, hB3⟩
  have hK3 := hK1'.keep hB3
  have x3 := hK3.cell 3
  have x4 := hK3.cell 4
  have hB23 := hB2.trans (hB3.mono hB2.size)
  by_cases g1 : (1000 : Int) < n1
  · simp [go_sem, IntWalk.iteOmega, IntWalk.toNatUp, x3, x4, g1]
    refine callE_of (liveN_any w3 ((hC.keep hB2).keep hB3)) ?_
    rintro _ w4 ⟨rfl, hB4⟩
    simp [go_sem, IntWalk.iteOmega, IntWalk.toNatUp]
    exact hB23.trans (hB4.mono hB23.size)
  · by_cases g2 : (1000 : Int) < n2
    · simp [go_sem, IntWalk.iteOmega, IntWalk.toNatUp, x3, x4, g1, g2]
      refine callE_of (liveN_any w3 ((hC.keep hB2).keep hB3)) ?_
      rintro _ w4 ⟨rfl, hB4⟩
      simp [go_sem, IntWalk.iteOmega, IntWalk.toNatUp]
      exact hB23.trans (hB4.mono hB23.size)
    · simp [go_sem, IntWalk.iteOmega, IntWalk.toNatUp, x3, x4, g1, g2]
      subst hb0
      show W Tryz.prog 167 restC _ w3 _
      have hev : ∀ e : Env, LR e evL [.int .i64 c0, .int .i64 c1, .int .i64 c2, .slice A1 n1 k1, .slice A2 n2 k2] := fun e =>
        LR.cons (.any (fun b h => by cases h) rfl) (LR.cons (.any (fun b h => by cases h) rfl) (LR.cons (.any (fun b h => by cases h) rfl) (LR.cons (.any (fun b h => by cases h) rfl) (LR.cons (.any (fun b h => by cases h) rfl) LR.nil))))
      have hR0 := (rel_none (C := CK) w (fun _ => rfl)).new_ (.cells evL 25 .exact) (.cells #[.int .i64 c0, .int .i64 c1, .int .i64 c2, .slice A1 n1 k1, .slice A2 n2 k2] 25) 0 0 (cr_exact (hev _))
      rw [hW1] at hR0
      have hR1 := hR0.new_ (.cells idA 27 .exact) (.cells ids 27) 0 0 (cr_exact (hidl _))
      rw [hW2] at hR1
      have hR := hR1.below hB3
      obtain ⟨s9, st9, hx, h9⟩ := goodR_inv rest_reckoned
      obtain ⟨en, hen⟩ : ∃ en : Env, Env.upd (Env.upd (fun _ => none) 0 ⟨w.heap.size, 0, 0⟩) 1 ⟨W1.heap.size, 0, 0⟩ = en := ⟨_, rfl⟩
      have hn0 : en 0 = some ⟨w.heap.size, 0, 0⟩ := by rw [← hen]; rfl
      have hn1 : en 1 = some ⟨w.heap.size + 1, 0, 0⟩ := by rw [← hen, ← hS1]; rfl
      have hp0 : ∀ o, VR en (ptR 0 o) (.pointer (some ⟨w.heap.size, o, none⟩)) := fun o => VR.ptr (x := ⟨w.heap.size, 0, 0⟩) hn0
      have hp1 : ∀ o, VR en (ptR 1 o) (.pointer (some ⟨w.heap.size + 1, o, none⟩)) := fun o => VR.ptr (x := ⟨w.heap.size + 1, 0, 0⟩) hn1
      have hsl := argsA_ok (e := en) (LR.cons (VR.agg_ (hev _)) (LR.cons (VR.agg_ (hidl _)) (LR.cons (VR.any (v' := .int .i64 i) (fun b h => by cases h) rfl) LR.nil)))
      replace hR : Rel CK w.heap.size w en st0R w3 := by rw [← hen]; exact hR
      refine W_exec (C := CK) (B := w.heap.size) (w0 := w) («as» := ⟨slR, st0R, []⟩) ctx_ok (ext_ok tabN_ok hC) rfl rfl hx hR ?_ ?_
      · show SlR _ slR _
        unfold slR
        iterate 17 refine slr_put ?_ (by omega) (by first | exact .bool _ | exact hp0 _ | exact hp1 _ | exact .any (fun b h => by cases h) rfl)
        exact hsl
      · intro e' s' w' hR' hs'
        have h6 := hs' 6
        rw [show ogetD (s9.get 6) = .bool true by rw [h9]; rfl] at h6
        simp [go_sem, exOf, h6.bool_inv]
        exact hR'.keep
end Go.Proofs.YtfeoonkdmibndaaGreatDoor.Ex
