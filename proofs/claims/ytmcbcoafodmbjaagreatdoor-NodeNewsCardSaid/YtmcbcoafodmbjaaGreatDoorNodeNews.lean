/-
  'NodeNews' answers yes at every argument, and its arguments read as they did; the row's card.
-/
import Derived.Test.YtmcbcoafodmbjaaGreatDoorJoin38
import Derived.Test.YtmcbcoafodmbjaaGreatDoorNLive
import Derived.Test.YtmcbcoafodmbjaaGreatDoorGGoes
import Derived.Test.YtmcbcoafodmbjaaGreatDoorNKa
import Derived.Test.YtmcbcoafodmbjaaGreatDoorNKb
import Derived.Test.YtmcbcoafodmbjaaGreatDoorNKc
import Derived.Test.YtmcbcoafodmbjaaGreatDoorNKd
import Derived.Test.YtmcbcoafodmbjaaGreatDoorNKe
import Derived.Test.YtmcbcoafodmbjaaGreatDoorNKf
import Derived.Test.YtmcbcoafodmbjaaGreatDoorCards
import Derived.Test.YtmcbcoafodmbjaaGreatDoorTie
import Derived.WalkKit
import Derived.ProofKit
import Derived.OpenShut
import Derived.Deep.DeepHandedRow
import Derived.Lib.LaidTab
namespace Go.Proofs.YtmcbcoafodmbjaaGreatDoor.nodeNews
open Go.ChangeShapes Go.WideShapes Go.ChangeAt Go.RowKit
set_option linter.unusedVariables false
theorem own : ownKnob Tryz.prog.godebug = none := by kernel_rfl
theorem laidOut : laidOutB Tryz.prog = true := k_laid
theorem gTab : Tryz.prog.globalNamed "flurry/sha.cubes" = some 2 := by kernel_rfl
theorem gTabType : (Tryz.prog.globals[2]?).map (·.type) = some 468 := by kernel_rfl
theorem cellsTab : Tryz.prog.cellsOf 468 = 64 := by kernel_rfl
theorem cellsTabE : Tryz.prog.cellsOf 372 = 1 := by kernel_rfl
theorem table {W : World} (h : laidMetH Tryz.prog Rows.nodeNewsRow.laid W) : Cubes W := by
  have ht : Lib.TabIs Tryz.prog W "flurry/sha.cubes" .u32 (cubes.map fun x => (x.toNat : Int)) := Lib.tabIs_of_head (rest := []) gTab gTabType Tryz.underlying468 Tryz.underlying372 cellsTabE cellsTab h
  intro t hlt
  have := ht.cell gTab t (by simpa [cubes_length] using hlt)
  rw [this]
  simp [uv, U, List.getD, List.getElem?_map, List.getElem?_eq_getElem (show t < cubes.length by rw [cubes_length]; exact hlt)]
/-- A world for the witness: the settled one, the table (block 0) holding what its initialiser lays. -/
noncomputable def laidWorld (os : Os) : World :=
  { World.holding Tryz.prog os ⟨#[], #[], []⟩ with heap := (World.holding Tryz.prog os ⟨#[], #[], []⟩).heap.modify 2 fun
      | .cells _ t frozen => .cells cubeCells t frozen
      | o => o }
set_option maxRecDepth 100000 in
theorem contract (H : Type) (enc : TypeId × Value → H) (W : World) (base : Nat) (args : Array Value) (ds gs : List (DataW H)) (before : List MemPlace)
    (hval : ∀ (j : Nat) t v, Tryz.f3.params[j]? = some t → args[j]? = some v → Value.okWide Tryz.prog W .any base t v)
    (hW : DataW.Whole enc Tryz.prog Tryz.f3.params.toList Rows.nodeNewsSpec.vars false W args.toList ds gs before) (hL : laidMetH Tryz.prog Rows.nodeNewsRow.laid W) :
    Calls Tryz.prog 3 args W fun e W' => ∃ v, e = .returned v ∧ Rows.nodeNewsSpec.post enc Tryz.prog Tryz.f3 false true false false W args v W' := by
  have hW' := hW
  obtain ⟨p, q, hA0, hV, rfl, hfz, hnd⟩ := hW
  have hA : DataW.TrodAll enc Tryz.prog W 0 (fun _ => true) true Tryz.f3.params.toList args.toList ds p := hA0
  rw [Tryz.params3] at hA hval
  obtain ⟨v0, vs0, d0, ds0, p0, q0, hargs, rfl, rfl, h0, r0⟩ := trodAll_cons hA
  obtain ⟨v1, vs1, d1, ds1, p1, q1, rfl, rfl, rfl, h1, r1⟩ := trodAll_cons r0
  obtain ⟨v2, vs2, d2, ds2, p2, q2, rfl, rfl, rfl, h2, r2⟩ := trodAll_cons r1
  obtain ⟨v3, vs3, d3, ds3, p3, q3, rfl, rfl, rfl, h3, r3⟩ := trodAll_cons r2
  obtain ⟨v4, vs4, d4, ds4, p4, q4, rfl, rfl, rfl, h4, r4⟩ := trodAll_cons r3
  obtain ⟨v5, vs5, d5, ds5, p5, q5, rfl, rfl, rfl, h5, r5⟩ := trodAll_cons r4
  obtain ⟨rfl, rfl, rfl⟩ := trodAll_nil r5
  obtain rfl : args = #[v0, v1, v2, v3, v4, v5] := by cases args; simp_all
  obtain ⟨rfl, rfl⟩ := trodVars_none hV
  obtain ⟨c0, rfl⟩ := open_config (hval 0 33 v0 rfl rfl) h0
  obtain ⟨l1, s1, m1, g1⟩ := open_vdrsN (hval 1 34 v1 rfl rfl) h1
  obtain ⟨n2, rfl, rfl, rfl, w2⟩ := ChangeShapes.open_int Tryz.underlying3 (hval 2 3 v2 rfl rfl) h2
  obtain ⟨b3, A3, N3, k3, rfl, o3, u3⟩ := open_block (hval 3 39 v3 rfl rfl) h3
  obtain ⟨n4, rfl, rfl, rfl, w4⟩ := ChangeShapes.open_int Tryz.underlying2 (hval 4 2 v4 rfl rfl) h4
  obtain ⟨b5, rfl, rfl, rfl⟩ := open_bool Tryz.underlying4 (hval 5 4 v5 rfl rfl) h5
  have walk := nodeNews_any (fun w hC => Ex.liveN_any w hC) c0 l1 v1 n2 b3 A3 N3 k3 n4 b5 W s1 m1 g1 o3 u3 (table hL)
  refine Calls.mono walk fun e W' ⟨v, he, hv, hB⟩ => ?_
  subst he hv
  exact ⟨_, rfl, law_post laidOut (by kernel_rfl) (by rfl) Tryz.underlying4 rfl hW' rfl hB⟩
abbrev zargs : Array Value := #[.agg #[.int .i64 0, .int .i64 0, .int .i64 0, .int .i64 0, .int .i64 0, .int .i64 0, .int .i64 0, .int .i64 0, .int .i64 0, .int .i64 0, .int .i64 0, .int .i64 0, .int .i64 0, .int .i64 0, .int .i64 0, .int .i64 0, .int .i64 0, .int .i64 0, .int .i64 0, .int .i64 0, .int .i64 0, .int .i64 0, .int .i64 0, .int .i64 0, .int .i64 0, .int .i64 0, .int .i64 0, .int .i64 0], .slice none 0 0, .int .i64 0, .agg (Array.replicate 32 (.int .u8 0) ++ #[.int .i64 0, .slice none 0 0]), .int .i64 0, .bool false]
theorem laid_met (os : Os) : laidMet Tryz.prog Rows.nodeNewsRow.laid ((laidWorld os).forCall (fun _ _ => 0) ⟨#[], zargs, []⟩).memory :=
  laidMet_of_run' 8 (by kernel_rfl) (by kernel_rfl)
theorem reads (os : Os) {H : Type} (enc : TypeId × Value → H) : ∃ places, DataW.whole enc Tryz.prog ((laidWorld os).forCall (fun _ _ => 0) ⟨#[], zargs, []⟩).memory Tryz.f3.params.toList Rows.nodeNewsSpec.vars false zargs.toList 8 = some ([.agg [.agg [.lit (.int .i64 0), .lit (.int .i64 0), .lit (.int .i64 0), .lit (.int .i64 0)], .lit (.int .i64 0), .lit (.int .i64 0), .lit (.int .i64 0), .lit (.int .i64 0), .lit (.int .i64 0), .lit (.int .i64 0), .lit (.int .i64 0), .lit (.int .i64 0), .agg [.lit (.int .i64 0), .lit (.int .i64 0), .lit (.int .i64 0), .lit (.int .i64 0), .lit (.int .i64 0)], .agg [.lit (.int .i64 0), .agg [.lit (.int .i64 0), .lit (.int .i64 0), .lit (.int .i64 0), .lit (.int .i64 0), .lit (.int .i64 0)], .agg [.lit (.int .i64 0), .lit (.int .i64 0), .lit (.int .i64 0), .lit (.int .i64 0), .lit (.int .i64 0)]]], .nil, .lit (.int .i64 0), .agg [.agg (List.replicate 32 (.lit (.int .u8 0))), .lit (.int .i64 0), .nil], .lit (.int .i64 0), .lit (.bool false)], [], places) :=
  ⟨[], by kernel_rfl⟩
set_option maxRecDepth 100000 in
theorem lifted (os : Os) (started : os.Started) (H : Type) (enc : TypeId × Value → H) (F : Stop.Interp) :
    ReturnsInHanded {} Tryz.checked os 3 .any ((OpenSpec.ofChange Rows.nodeNewsSpec).preRow enc Tryz.prog Tryz.f3 Rows.nodeNewsRow.domain false Rows.nodeNewsRow.laid) (((OpenSpec.ofChange Rows.nodeNewsSpec).at F).post enc Tryz.prog Tryz.f3 false true false false) := by
  obtain ⟨places, hx⟩ := reads os enc
  refine returnsInHanded_of_row (C := Tryz.checked) (s := OpenSpec.ofChange Rows.nodeNewsSpec) own started (by kernel_rfl) Tryz.func3
    (witness_row_at (enc := enc) (C := Tryz.checked) false (laidWorld os) zargs rfl (by kernel_rfl) (by kernel_rfl) (by kernel_rfl)
      (OpenSpec.preRow_of_cond 8 hx (by kernel_rfl) (fun k hk => by cases hk) (by kernel_rfl) (laid_met os))) ?_
  intro W base args ds gs before hval hW _ _ _ hL _ _
  exact contract H enc W base args ds gs before hval hW hL
set_option maxRecDepth 100000 in
theorem closed : joinedFacts Tryz.pinned.checked.prog 3 Tryz.f3 (OpenSpec.ofChange Rows.nodeNewsSpec).bare Rows.nodeNewsRow = true := by
  show joinedFacts Tryz.prog 3 Tryz.f3 (OpenSpec.ofChange Rows.nodeNewsSpec).bare Rows.nodeNewsRow = true
  have a1 := k_inPlace
  have a2 := k_unfollowed
  have a3 := k_recurses
  have a4 := k_named
  have a5 := k_laid
  have a6 := k_maps
  unfold joinedFacts
  simp only [Bool.and_eq_true]
  repeat' apply And.intro
  all_goals first
    | (with_reducible assumption)
    | kernel_rfl
theorem said : Rows.NodeNewsSaid :=
  OpenClaim.holds_of_cond 3 Tryz.f3 rfl rfl rfl rfl rfl rfl rfl ⟨rfl, rfl, rfl, rfl, rfl⟩ rfl rfl rfl rfl rfl (by kernel_rfl) Tryz.func3 closed
    (of_decide_eq_true (by kernel_rfl)) (by unfold Func.isWrapper; first | (rw [if_pos (by decide +kernel)]; kernel_rfl) | (rw [if_neg (by decide +kernel)]; exact ⟨rfl, rfl⟩))
    (fun os started H enc _ F => by rw [OpenClaim.pre_eq_preRow]; exact lifted os started H enc F)
theorem plain (f : FuncId) (fn : Func) (hf : Tryz.pinned.checked.prog.funcNamed "flurry/flurrylaw24.NodeNews" = some f) (hfn : Tryz.pinned.checked.prog.funcs[f]? = some fn) :
    true = Tryz.pinned.checked.prog.looks [] ∧ ∀ (j : Nat) t, fn.params[j]? = some t → Tryz.pinned.checked.prog.wantsStandIn t = false := by
  obtain rfl : f = 3 := Option.some.inj ((show Tryz.prog.funcNamed "flurry/flurrylaw24.NodeNews" = some 3 by kernel_rfl).symm.trans hf) |>.symm
  obtain rfl : fn = Tryz.f3 := (Option.some.inj (Tryz.func3.symm.trans hfn)).symm
  refine ⟨by kernel_rfl, fun j t ht => ?_⟩
  rw [Tryz.params3] at ht
  have hm := Array.mem_of_getElem? ht
  simp only [List.mem_toArray, List.mem_cons, List.not_mem_nil, or_false] at hm
  rcases hm with rfl | rfl | rfl | rfl | rfl | rfl
  · exact (show Tryz.prog.wantsStandIn 33 = false by kernel_rfl)
  · exact (show Tryz.prog.wantsStandIn 34 = false by kernel_rfl)
  · exact (show Tryz.prog.wantsStandIn 3 = false by kernel_rfl)
  · exact (show Tryz.prog.wantsStandIn 39 = false by kernel_rfl)
  · exact (show Tryz.prog.wantsStandIn 2 = false by kernel_rfl)
  · exact (show Tryz.prog.wantsStandIn 4 = false by kernel_rfl)
/-- The card of 'NodeNews'. -/
theorem card : Rows.NodeNewsCardSaid :=
  Claim7.holds_tied_plain_at .later [] _ _ _ _ said (fun _ h => by cases h) (by kernel_rfl) (fun _ h => by cases h) nodeNews_row_tie rfl ⟨rfl, rfl⟩ (by kernel_rfl) rfl plain (goes_none rfl goes_checked)
end Go.Proofs.YtmcbcoafodmbjaaGreatDoor.nodeNews
