/-
  'ShaCompares' answers yes at every two names, and its two arguments read as they did; the row's card.
-/
import Derived.Test.YtlhlfodmcffeoaaDoorCompares
import Derived.Test.YtlhlfodmcffeoaaDoorArrs
import Derived.Test.YtlhlfodmcffeoaaDoorCards
import Derived.Test.YtlhlfodmcffeoaaDoorTie
import Derived.WalkKit
import Derived.ProofKit
import Derived.OpenShut
import Derived.Deep.DeepHandedRow
import Derived.Lib.LaidTab
namespace Go.Proofs.YtlhlfodmcffeoaaDoor.shaCompares
open Go.ChangeShapes Go.WideShapes Go.ChangeAt Go.RowKit
set_option linter.unusedVariables false
theorem own : ownKnob Tryd.prog.godebug = none := by kernel_rfl
theorem gTab : Tryd.prog.globalNamed "flurry/sha.cubes" = some 0 := by kernel_rfl
theorem gTabType : (Tryd.prog.globals[0]?).map (·.type) = some 57 := by kernel_rfl
theorem cellsT : Tryd.prog.cellsOf 57 = 64 := by kernel_rfl
theorem cellsE : Tryd.prog.cellsOf 41 = 1 := by kernel_rfl
theorem cellsI : Tryd.prog.cellsOf 23 = 32 := by kernel_rfl
theorem cellsB : Tryd.prog.cellsOf 5 = 1 := by kernel_rfl
theorem table {W : World} (h : laidMetH Tryd.prog Rows.shaComparesRow.laid W) : Cubes W := by
  have ht : Lib.TabIs Tryd.prog W "flurry/sha.cubes" .u32 (cubes.map fun x => (x.toNat : Int)) := Lib.tabIs_of_head (rest := []) gTab gTabType Tryd.underlying57 Tryd.underlying41 cellsE cellsT h
  intro t hlt
  have := ht.cell gTab t (by simpa [cubes_length] using hlt)
  rw [this]
  simp [uv, U, List.getD, List.getElem?_map, List.getElem?_eq_getElem (show t < cubes.length by rw [cubes_length]; exact hlt)]
theorem contract (H : Type) (enc : TypeId × Value → H) (W : World) (base : Nat) (args : Array Value) (ds gs : List (DataW H)) (before : List MemPlace)
    (hval : ∀ (j : Nat) t v, Tryd.f3.params[j]? = some t → args[j]? = some v → Value.okWide Tryd.prog W .any base t v)
    (hW : DataW.Whole enc Tryd.prog Tryd.f3.params.toList Rows.shaComparesSpec.vars false W args.toList ds gs before) (hL : laidMetH Tryd.prog Rows.shaComparesRow.laid W) :
    Calls Tryd.prog 3 args W fun e W' => ∃ v, e = .returned v ∧ Rows.shaComparesSpec.post enc Tryd.prog Tryd.f3 false true false false W args v W' := by
  have hW' := hW
  obtain ⟨p, q, hA0, hV, rfl, hfz, hnd⟩ := hW
  have hA : DataW.TrodAll enc Tryd.prog W 0 (fun _ => true) true Tryd.f3.params.toList args.toList ds p := hA0
  rw [Tryd.params3] at hA hval
  obtain ⟨v0, vs0, d0, ds0, p0, q0, hargs, rfl, rfl, h0, r0⟩ := trodAll_cons hA
  obtain ⟨v1, vs1, d1, ds1, p1, q1, rfl, rfl, rfl, h1, r1⟩ := trodAll_cons r0
  obtain ⟨rfl, rfl, rfl⟩ := trodAll_nil r1
  obtain rfl : args = #[v0, v1] := by cases args; simp_all
  obtain ⟨rfl, rfl⟩ := trodVars_none hV
  have A : WideMaps.ArrKey Tryd.prog 23 5 32 := ⟨Tryd.underlying23, by kernel_rfl, cellsB, cellsI⟩
  obtain ⟨xs, rfl, hx⟩ := WideMaps.okWide_arr A (hval 0 23 v0 rfl rfl)
  obtain ⟨ys, rfl, hy⟩ := WideMaps.okWide_arr A (hval 1 23 v1 rfl rfl)
  obtain ⟨⟨x, hxl, rfl⟩, rfl⟩ := open_bytes Tryd.underlying23 Tryd.underlying5 cellsB cellsI h0
  obtain ⟨⟨y, hyl, rfl⟩, rfl⟩ := open_bytes Tryd.underlying23 Tryd.underlying5 cellsB cellsI h1
  have walk := shaCompares_any x y W hxl hyl (table hL)
  refine Calls.mono walk fun e W' ⟨v, he, hv, hB⟩ => ?_
  subst he hv
  refine ⟨_, rfl, _, _, _, [], [], [], hW', trodAll_cons_mk (shut_bool Tryd.underlying4 _) trodAll_mk0, ?_, rfl, hB.frame _, fun h => by cases h⟩
  exact trodAll_cons_mk (Trod_arr_same Tryd.underlying23 Tryd.underlying5 W' 0 _ true h0) (trodAll_cons_mk (Trod_arr_same Tryd.underlying23 Tryd.underlying5 W' 0 _ true h1) trodAll_mk0)
/-- The argument of the witness: thirty-two noughts. -/
def zeroId : Value := .agg (Array.replicate 32 (.int .u8 0))
/-- A world for the witness: the settled one, the table (block 0) holding what its initialiser lays. -/
noncomputable def laidWorld (os : Os) : World :=
  { World.holding Tryd.prog os ⟨#[], #[], []⟩ with heap := (World.holding Tryd.prog os ⟨#[], #[], []⟩).heap.modify 0 fun
      | .cells _ t frozen => .cells cubeCells t frozen
      | o => o }
theorem laid_met (os : Os) : laidMet Tryd.prog Rows.shaComparesRow.laid ((laidWorld os).forCall (fun _ _ => 0) ⟨#[], #[zeroId, zeroId], []⟩).memory :=
  laidMet_of_run' 8 (by kernel_rfl) (by kernel_rfl)
theorem reads (os : Os) {H : Type} (enc : TypeId × Value → H) : ∃ places, DataW.whole enc Tryd.prog ((laidWorld os).forCall (fun _ _ => 0) ⟨#[], #[zeroId, zeroId], []⟩).memory Tryd.f3.params.toList Rows.shaComparesSpec.vars false #[zeroId, zeroId].toList 8 = some ([.agg (List.replicate 32 (.lit (.int .u8 0))), .agg (List.replicate 32 (.lit (.int .u8 0)))], [], places) :=
  ⟨[], by kernel_rfl⟩
set_option maxRecDepth 100000 in
theorem lifted (os : Os) (started : os.Started) (H : Type) (enc : TypeId × Value → H) (F : Stop.Interp) :
    ReturnsInHanded {} Tryd.checked os 3 .any ((OpenSpec.ofChange Rows.shaComparesSpec).preRow enc Tryd.prog Tryd.f3 Rows.shaComparesRow.domain false Rows.shaComparesRow.laid) (((OpenSpec.ofChange Rows.shaComparesSpec).at F).post enc Tryd.prog Tryd.f3 false true false false) := by
  obtain ⟨places, hx⟩ := reads os enc
  refine returnsInHanded_of_row (C := Tryd.checked) (s := OpenSpec.ofChange Rows.shaComparesSpec) own started (by kernel_rfl) Tryd.func3
    (witness_row_at (enc := enc) (C := Tryd.checked) false (laidWorld os) #[zeroId, zeroId] rfl (by kernel_rfl) (by kernel_rfl) (by kernel_rfl)
      (OpenSpec.preRow_of_cond 8 hx (by kernel_rfl) (fun k hk => by cases hk) (by kernel_rfl) (laid_met os))) ?_
  intro W base args ds gs before hval hW _ _ _ hL _ _
  exact contract H enc W base args ds gs before hval hW hL
theorem said : Rows.ShaComparesSaid :=
  OpenClaim.holds_of_cond 3 Tryd.f3 rfl rfl rfl rfl rfl rfl rfl ⟨rfl, rfl, rfl, rfl, rfl⟩ rfl rfl rfl rfl rfl (by kernel_rfl) Tryd.func3 (by kernel_rfl)
    (of_decide_eq_true (by kernel_rfl)) (by unfold Func.isWrapper; first | (rw [if_pos (by decide +kernel)]; kernel_rfl) | (rw [if_neg (by decide +kernel)]; exact ⟨rfl, rfl⟩))
    (fun os started H enc _ F => by rw [OpenClaim.pre_eq_preRow]; exact lifted os started H enc F)
theorem plain (f : FuncId) (fn : Func) (hf : Tryd.pinned.checked.prog.funcNamed "flurry/flurrylaw02.ShaCompares" = some f) (hfn : Tryd.pinned.checked.prog.funcs[f]? = some fn) :
    false = Tryd.pinned.checked.prog.looks [] ∧ ∀ (j : Nat) t, fn.params[j]? = some t → Tryd.pinned.checked.prog.wantsStandIn t = false := by
  obtain rfl : f = 3 := Option.some.inj ((show Tryd.prog.funcNamed "flurry/flurrylaw02.ShaCompares" = some 3 by kernel_rfl).symm.trans hf) |>.symm
  obtain rfl : fn = Tryd.f3 := (Option.some.inj (Tryd.func3.symm.trans hfn)).symm
  refine ⟨by kernel_rfl, fun j t ht => ?_⟩
  rw [Tryd.params3] at ht
  obtain rfl : t = 23 := by simpa using Array.mem_of_getElem? ht
  exact (show Tryd.prog.wantsStandIn 23 = false by kernel_rfl)
/-- The card of 'ShaCompares'. -/
theorem card : Rows.ShaComparesCardSaid :=
  Claim7.holds_tied_plain_at .later [] _ _ _ _ said (fun _ h => by cases h) (by kernel_rfl) (fun _ h => by cases h) shaCompares_row_tie rfl ⟨rfl, rfl⟩ (by kernel_rfl) rfl plain (by kernel_rfl)
end Go.Proofs.YtlhlfodmcffeoaaDoor.shaCompares
