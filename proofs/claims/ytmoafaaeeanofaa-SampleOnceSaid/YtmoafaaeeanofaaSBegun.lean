/-
  begun: the laws' own example.
-/
import Derived.Test.YtmoafaaeeanofaaSSlots
namespace Go.Proofs.Ytmoafaaeeanofaa
open Go.RowKit
set_option linter.unusedVariables false
set_option linter.unusedSimpArgs false
set_option maxRecDepth 10000
theorem cnt_dec (l : List Int) (x : Int) : cnt l x = (l.countP (fun y => decide (y < x)) : Nat) := rfl
theorem unitsL_succ (total : Int) (ds : List Int) (j : Nat) : unitsL total ds (j + 1) = unitsL total ds j ++ [freeV (unitsL total ds j) (drawV ds j % (total - j))] := rfl
theorem bg_units : unitsV 5 3 [0, 0, 2] = (0, [0, 1, 4]) := by
  rw [unitsV_ok _ (by omega) (by omega)]
  have h0 : unitsL 5 [0, 0, 2] 0 = [] := rfl
  have h1 : unitsL 5 [0, 0, 2] 1 = [0] := by
    rw [unitsL_succ, h0, freeV_eq (x := 0) (by decide) ⟨by decide, by decide⟩]; rfl
  have h2 : unitsL 5 [0, 0, 2] 2 = [0, 1] := by
    rw [unitsL_succ, h1, freeV_eq (x := 1) (by decide) ⟨by decide, by decide⟩]; rfl
  have h3 : unitsL 5 [0, 0, 2] 3 = [0, 1, 4] := by
    rw [unitsL_succ, h2, freeV_eq (x := 4) (by decide) ⟨by decide, by decide⟩]; rfl
  rw [show (3 : Int).toNat = 3 from rfl, h3]
theorem bg_units2 : unitsV 5 3 [4, 0, 0] = (0, [4, 0, 1]) := by
  rw [unitsV_ok _ (by omega) (by omega)]
  have h0 : unitsL 5 [4, 0, 0] 0 = [] := rfl
  have h1 : unitsL 5 [4, 0, 0] 1 = [4] := by
    rw [unitsL_succ, h0, freeV_eq (x := 4) (by decide) ⟨by decide, by decide⟩]; rfl
  have h2 : unitsL 5 [4, 0, 0] 2 = [4, 0] := by
    rw [unitsL_succ, h1, freeV_eq (x := 0) (by decide) ⟨by decide, by decide⟩]; rfl
  have h3 : unitsL 5 [4, 0, 0] 3 = [4, 0, 1] := by
    rw [unitsL_succ, h2, freeV_eq (x := 1) (by decide) ⟨by decide, by decide⟩]; rfl
  rw [show (3 : Int).toNat = 3 from rfl, h3]
theorem bg_ok : okAll [2, 3] := by
  refine ⟨by decide, by decide, fun i hi => ?_⟩
  have : i = 0 ∨ i = 1 := by simp at hi; omega
  rcases this with rfl | rfl <;> simp [wS]
theorem bg_sum : wsum [2, 3] = 5 := by rw [(wsum_ok bg_ok).1]; rfl
theorem bg_slots : slotsV [2, 3] 3 [4, 0, 0] = (0, [1, 0, 0]) := by
  rw [slotsV_ok bg_ok (by rw [bg_sum, bg_units2]), bg_sum, bg_units2]; rfl
/-- a slice built of values -/
theorem sl_lit (w : World) (t : TypeId) (k : IntKind) (l : List Int) (c : Nat) (hc : l.length ≤ c ∧ c ≤ 1000) : Sl (w.alloc (.cells (intsK k l).toArray t)) 1 (.slice (some ⟨w.heap.size, 0, none⟩) l.length c) l.length (intsK k l) := by
  have hb : Blk (w.alloc (.cells (intsK k l).toArray t)) w.heap.size t (intsK k l).toArray := Blk.self_ rfl
  refine ⟨_, c, rfl, ⟨by simp [intsK], fun _ => ⟨_, 0, rfl, hb.lt, fun j u hu => ?_⟩⟩, (fun h => nomatch h), by omega, by omega⟩
  rw [hb.cell, Nat.zero_add, List.getElem?_toArray]; exact hu
theorem u64L3 {a b c : Int} (h : (0 ≤ a ∧ a ≤ 100) ∧ (0 ≤ b ∧ b ≤ 100) ∧ (0 ≤ c ∧ c ≤ 100)) : U64 [a, b, c] := fun x hx => by
  simp only [List.mem_cons, List.not_mem_nil, or_false] at hx
  rcases hx with rfl | rfl | rfl <;> omega
theorem bg_I : AllI [2, 3] := fun x hx => by
  simp only [List.mem_cons, List.not_mem_nil, or_false] at hx
  unfold InI
  rcases hx with rfl | rfl <;> omega
theorem bg_eqL : decide (([0, 1, 4] : List Int) = [0, 1, 4]) = true := rfl
set_option maxHeartbeats 3200000 in
theorem begun_any (w : World) : callE Try.prog 9 #[] w fun v w' => v = .bool true ∧ Below w.heap.size w w' := by
  refine calls_E Try.func9 rfl rfl rfl (Nat.le_of_ble_eq_true rfl) ?_
  simp [go_sem, IntWalk.iteOmega, IntWalk.toNatUp]
  have s1 := sl_lit w 37 .u64 [0, 0, 2] 3 (by decide)
  have k1 := ext_alloc w (.cells (intsK .u64 [0, 0, 2]).toArray 37)
  refine callE_of (vUnits_any 5 3 (by omega) (by omega) [0, 0, 2] (u64L3 (by omega)) _ _ s1) ?_
  rintro v2 w2 ⟨r2, k2⟩
  unfold UnitsRes at r2
  rw [bg_units] at r2
  obtain ⟨u, rfl, hu⟩ := r2
  have kk := ext_trans k1 k2
  clear s1 k1 k2
  simp [go_sem, IntWalk.iteOmega, IntWalk.toNatUp]
  have s3 := sl_lit w2 2 .i64 [2, 3] 2 (by decide)
  have k3 := ext_alloc w2 (.cells (intsK .i64 [2, 3]).toArray 2)
  have s4 := sl_lit (w2.alloc (.cells (intsK .i64 [2, 3]).toArray 2)) 37 .u64 [4, 0, 0] 3 (by decide)
  have e4 : (w2.alloc (.cells (intsK .i64 [2, 3]).toArray 2)).heap.size = w2.heap.size + 1 := by simp [go_sem]
  rw [e4] at s4
  have k4 := ext_alloc (w2.alloc (.cells (intsK .i64 [2, 3]).toArray 2)) (.cells (intsK .u64 [4, 0, 0]).toArray 37)
  refine callE_of (vSlots_any [2, 3] 3 (by omega) [4, 0, 0] (u64L3 (by omega)) _ _ _ (Sl_kept s3 k4) bg_I s4) ?_
  rintro v5 w5 ⟨r5, k5⟩
  unfold SlotsRes at r5
  rw [bg_slots] at r5
  obtain ⟨u5, rfl, hu5⟩ := r5
  have k35 := ext_trans (ext_trans k3 k4) k5
  have hu' := Sl_kept hu k35
  have kk5 := ext_trans kk k35
  clear s3 k3 s4 k4 k5 k35 hu kk
  simp [go_sem, IntWalk.iteOmega, IntWalk.toNatUp]
  have s6 := sl_lit w5 2 .i64 [0, 1, 4] 3 (by decide)
  have k6 := ext_alloc w5 (.cells (intsK .i64 [0, 1, 4]).toArray 2)
  refine callE_of (equalL_any [0, 1, 4] [0, 1, 4] _ _ _ (Sl_kept hu' k6) s6) ?_
  rintro _ w7 ⟨rfl, k7⟩
  rw [decide_eq_true (rfl : ([0, 1, 4] : List Int) = [0, 1, 4])]
  have k67 := ext_trans k6 k7
  have hu6 := Sl_kept hu5 k67
  have kk7 := ext_trans kk5 k67
  clear s6 k6 k7 k67 hu5 hu' kk5
  simp [go_sem, IntWalk.iteOmega, IntWalk.toNatUp]
  have s8 := sl_lit w7 3 .i64 [1, 0, 0] 3 (by decide)
  have k8 := ext_alloc w7 (.cells (intsK .i64 [1, 0, 0]).toArray 3)
  refine callE_of (equalI_any [1, 0, 0] [1, 0, 0] _ _ _ (Sl_kept hu6 k8) s8) ?_
  rintro _ w9 ⟨rfl, k9⟩
  rw [decide_eq_true (rfl : ([1, 0, 0] : List Int) = [1, 0, 0])]
  have kk9 := ext_trans kk7 (ext_trans k8 k9)
  simp [go_sem, IntWalk.iteOmega, IntWalk.toNatUp]
  exact kk9
theorem noinit_begun : Try.prog.inits.idxOf? 9 = none := by kernel_rfl
end Go.Proofs.Ytmoafaaeeanofaa
