/-
  'NodeNone' answers yes at every argument, and its arguments read as they did; the row's card.
-/
import Derived.Test.YtfeoonkdmibndaaGreatDoorNNone
import Derived.Test.YtfeoonkdmibndaaGreatDoorJoin28
import Derived.Test.YtfeoonkdmibndaaGreatDoorGGoes
import Derived.Test.YtfeoonkdmibndaaGreatDoorNKa
import Derived.Test.YtfeoonkdmibndaaGreatDoorNKb
import Derived.Test.YtfeoonkdmibndaaGreatDoorNKc
import Derived.Test.YtfeoonkdmibndaaGreatDoorNKd
import Derived.Test.YtfeoonkdmibndaaGreatDoorNKe
import Derived.Test.YtfeoonkdmibndaaGreatDoorNKf
import Derived.Test.YtfeoonkdmibndaaGreatDoorCards
import Derived.Test.YtfeoonkdmibndaaGreatDoorTie
import Derived.WalkKit
import Derived.ProofKit
import Derived.OpenShut
import Derived.Deep.DeepHandedRow
import Derived.Lib.LaidTab
namespace Go.Proofs.YtfeoonkdmibndaaGreatDoor.nodeNone
open Go.ChangeShapes Go.WideShapes Go.ChangeAt Go.RowKit
set_option linter.unusedVariables false
theorem own : ownKnob Tryz.prog.godebug = none := by kernel_rfl
theorem cellsT27 : Tryz.prog.cellsOf 27 = 32 := by kernel_rfl
theorem cellsT5 : Tryz.prog.cellsOf 5 = 1 := by kernel_rfl
theorem laidOut : laidOutB Tryz.prog = true := k_laid
theorem gTab : Tryz.prog.globalNamed "flurry/sha.cubes" = some 3 := by kernel_rfl
theorem gTabType : (Tryz.prog.globals[3]?).map (·.type) = some 561 := by kernel_rfl
theorem cellsTab : Tryz.prog.cellsOf 561 = 64 := by kernel_rfl
theorem cellsTabE : Tryz.prog.cellsOf 393 = 1 := by kernel_rfl
theorem table {W : World} (h : laidMetH Tryz.prog Rows.nodeNoneRow.laid W) : Cubes W := by
  have ht : Lib.TabIs Tryz.prog W "flurry/sha.cubes" .u32 (cubes.map fun x => (x.toNat : Int)) := Lib.tabIs_of_head (rest := []) gTab gTabType Tryz.underlying561 Tryz.underlying393 cellsTabE cellsTab h
  intro t hlt
  have := ht.cell gTab t (by simpa [cubes_length] using hlt)
  rw [this]
  simp [uv, U, List.getD, List.getElem?_map, List.getElem?_eq_getElem (show t < cubes.length by rw [cubes_length]; exact hlt)]
/-- A world for the witness: the settled one, the table (block 0) holding what its initialiser lays. -/
noncomputable def laidWorld (os : Os) : World :=
  { World.holding Tryz.prog os ⟨#[], #[], []⟩ with heap := (World.holding Tryz.prog os ⟨#[], #[], []⟩).heap.modify 3 fun
      | .cells _ t frozen => .cells cubeCells t frozen
      | o => o }
set_option maxRecDepth 100000 in
theorem contract (H : Type) (enc : TypeId × Value → H) (W : World) (base : Nat) (args : Array Value) (ds gs : List (DataW H)) (before : List MemPlace)
    (hval : ∀ (j : Nat) t v, Tryz.f3.params[j]? = some t → args[j]? = some v → Value.okWide Tryz.prog W .any base t v)
    (hW : DataW.Whole enc Tryz.prog Tryz.f3.params.toList Rows.nodeNoneSpec.vars false W args.toList ds gs before) (hL : laidMetH Tryz.prog Rows.nodeNoneRow.laid W) :
    Calls Tryz.prog 3 args W fun e W' => ∃ v, e = .returned v ∧ Rows.nodeNoneSpec.post enc Tryz.prog Tryz.f3 false true false false W args v W' := by
  have hW' := hW
  obtain ⟨p, q, hA0, hV, rfl, hfz, hnd⟩ := hW
  have hA : DataW.TrodAll enc Tryz.prog W 0 (fun _ => true) true Tryz.f3.params.toList args.toList ds p := hA0
  rw [Tryz.params3] at hA hval
  obtain ⟨v0, vs0, d0, ds0, p0, q0, hargs, rfl, rfl, h0, r0⟩ := trodAll_cons hA
  obtain ⟨v1, vs1, d1, ds1, p1, q1, rfl, rfl, rfl, h1, r1⟩ := trodAll_cons r0
  obtain ⟨v2, vs2, d2, ds2, p2, q2, rfl, rfl, rfl, h2, r2⟩ := trodAll_cons r1
  obtain ⟨rfl, rfl, rfl⟩ := trodAll_nil r2
  obtain rfl : args = #[v0, v1, v2] := by cases args; simp_all
  obtain ⟨rfl, rfl⟩ := trodVars_none hV
  obtain ⟨c0, c1, c2, P1, m1, k1, P2, m2, k2, rfl⟩ := open_event (hval 0 25 v0 rfl rfl) h0
  have A1 : WideMaps.ArrKey Tryz.prog 27 5 32 := ⟨Tryz.underlying27, by kernel_rfl, cellsT5, cellsT27⟩
  obtain ⟨xs1, rfl, hx1⟩ := WideMaps.okWide_arr A1 (hval 1 27 v1 rfl rfl)
  obtain ⟨⟨x1, l1, rfl⟩, rfl⟩ := open_bytes Tryz.underlying27 Tryz.underlying5 cellsT5 cellsT27 h1
  obtain ⟨n2, rfl, rfl, rfl, w2⟩ := ChangeShapes.open_int Tryz.underlying3 (hval 2 3 v2 rfl rfl) h2
  have walk := Ex.nodeNone_any (A1 := P1) (n1 := m1) (k1 := k1) (A2 := P2) (n2 := m2) (k2 := k2) (table hL) (Ex.idl_ok x1 l1) n2 c0 c1 c2
  refine Calls.mono walk fun e W' ⟨v, he, hv, hB⟩ => ?_
  subst he hv
  exact ⟨_, rfl, law_post laidOut (by kernel_rfl) (by rfl) Tryz.underlying4 rfl hW' rfl hB⟩
theorem laid_met (os : Os) : laidMet Tryz.prog Rows.nodeNoneRow.laid ((laidWorld os).forCall (fun _ _ => 0) ⟨#[], #[.agg #[.int .i64 0, .int .i64 0, .int .i64 0, .slice none 0 0, .slice none 0 0], .agg (Array.replicate 32 (.int .u8 0)), .int .i64 0], []⟩).memory :=
  laidMet_of_run' 8 (by kernel_rfl) (by kernel_rfl)
theorem reads (os : Os) {H : Type} (enc : TypeId × Value → H) : ∃ places, DataW.whole enc Tryz.prog ((laidWorld os).forCall (fun _ _ => 0) ⟨#[], #[.agg #[.int .i64 0, .int .i64 0, .int .i64 0, .slice none 0 0, .slice none 0 0], .agg (Array.replicate 32 (.int .u8 0)), .int .i64 0], []⟩).memory Tryz.f3.params.toList Rows.nodeNoneSpec.vars false (#[.agg #[.int .i64 0, .int .i64 0, .int .i64 0, .slice none 0 0, .slice none 0 0], .agg (Array.replicate 32 (.int .u8 0)), .int .i64 0] : Array Value).toList 8 = some ([.agg [.lit (.int .i64 0), .lit (.int .i64 0), .lit (.int .i64 0), .nil, .nil], .agg (List.replicate 32 (.lit (.int .u8 0))), .lit (.int .i64 0)], [], places) :=
  ⟨[], by kernel_rfl⟩
set_option maxRecDepth 100000 in
theorem lifted (os : Os) (started : os.Started) (H : Type) (enc : TypeId × Value → H) (F : Stop.Interp) :
    ReturnsInHanded {} Tryz.checked os 3 .any ((OpenSpec.ofChange Rows.nodeNoneSpec).preRow enc Tryz.prog Tryz.f3 Rows.nodeNoneRow.domain false Rows.nodeNoneRow.laid) (((OpenSpec.ofChange Rows.nodeNoneSpec).at F).post enc Tryz.prog Tryz.f3 false true false false) := by
  obtain ⟨places, hx⟩ := reads os enc
  refine returnsInHanded_of_row (C := Tryz.checked) (s := OpenSpec.ofChange Rows.nodeNoneSpec) own started (by kernel_rfl) Tryz.func3
    (witness_row_at (enc := enc) (C := Tryz.checked) false (laidWorld os) #[.agg #[.int .i64 0, .int .i64 0, .int .i64 0, .slice none 0 0, .slice none 0 0], .agg (Array.replicate 32 (.int .u8 0)), .int .i64 0] rfl (by kernel_rfl) (by kernel_rfl) (by kernel_rfl)
      (OpenSpec.preRow_of_cond 8 hx (by kernel_rfl) (fun k hk => by cases hk) (by kernel_rfl) (laid_met os))) ?_
  intro W base args ds gs before hval hW _ _ _ hL _ _
  exact contract H enc W base args ds gs before hval hW hL
set_option maxRecDepth 100000 in
theorem closed : joinedFacts Tryz.pinned.checked.prog 3 Tryz.f3 (OpenSpec.ofChange Rows.nodeNoneSpec).bare Rows.nodeNoneRow = true := by
  show joinedFacts Tryz.prog 3 Tryz.f3 (OpenSpec.ofChange Rows.nodeNoneSpec).bare Rows.nodeNoneRow = true
  have a1 := k_inPlace
  have a2 := k_unfollowed
  have a3 := k_recurses
  have a4 := k_named
  have a5 := k_laid
  have a6 := k_maps
  unfold joinedFacts
  simp only [Bool.and_eq_true]
  repeat' apply And.intro
  all_goals first
    | (with_reducible assumption)
    | kernel_rfl
theorem said : Rows.NodeNoneSaid :=
  OpenClaim.holds_of_cond 3 Tryz.f3 rfl rfl rfl rfl rfl rfl rfl ⟨rfl, rfl, rfl, rfl, rfl⟩ rfl rfl rfl rfl rfl (by kernel_rfl) Tryz.func3 closed
    (of_decide_eq_true (by kernel_rfl)) (by unfold Func.isWrapper; first | (rw [if_pos (by decide +kernel)]; kernel_rfl) | (rw [if_neg (by decide +kernel)]; exact ⟨rfl, rfl⟩))
    (fun os started H enc _ F => by rw [OpenClaim.pre_eq_preRow]; exact lifted os started H enc F)
theorem plain (f : FuncId) (fn : Func) (hf : Tryz.pinned.checked.prog.funcNamed "flurry/flurrylaw24.NodeNone" = some f) (hfn : Tryz.pinned.checked.prog.funcs[f]? = some fn) :
    true = Tryz.pinned.checked.prog.looks [] ∧ ∀ (j : Nat) t, fn.params[j]? = some t → Tryz.pinned.checked.prog.wantsStandIn t = false := by
  obtain rfl : f = 3 := Option.some.inj ((show Tryz.prog.funcNamed "flurry/flurrylaw24.NodeNone" = some 3 by kernel_rfl).symm.trans hf) |>.symm
  obtain rfl : fn = Tryz.f3 := (Option.some.inj (Tryz.func3.symm.trans hfn)).symm
  refine ⟨by kernel_rfl, fun j t ht => ?_⟩
  rw [Tryz.params3] at ht
  have hm := Array.mem_of_getElem? ht
  simp only [List.mem_toArray, List.mem_cons, List.not_mem_nil, or_false] at hm
  rcases hm with rfl | rfl | rfl
  · exact (show Tryz.prog.wantsStandIn 25 = false by kernel_rfl)
  · exact (show Tryz.prog.wantsStandIn 27 = false by kernel_rfl)
  · exact (show Tryz.prog.wantsStandIn 3 = false by kernel_rfl)
/-- The card of 'NodeNone'. -/
theorem card : Rows.NodeNoneCardSaid :=
  Claim7.holds_tied_plain_at .later [] _ _ _ _ said (fun _ h => by cases h) (by kernel_rfl) (fun _ h => by cases h) nodeNone_row_tie rfl ⟨rfl, rfl⟩ (by kernel_rfl) rfl plain (goes_none rfl goes_checked)
end Go.Proofs.YtfeoonkdmibndaaGreatDoor.nodeNone
