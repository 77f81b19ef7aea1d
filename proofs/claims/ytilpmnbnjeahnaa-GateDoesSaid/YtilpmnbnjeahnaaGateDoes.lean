/-
  'GateDoes' answers yes at every argument, and its arguments read as they did; the row.
-/
import Derived.Test.YtilpmnbnjeahnaaDoesLaw
import Derived.Test.YtilpmnbnjeahnaaOpen
import Derived.Test.YtilpmnbnjeahnaaStru
import Derived.Test.YtilpmnbnjeahnaaRows
import Derived.WalkKit
import Derived.ProofKit
import Derived.OpenShut
import Derived.Deep.DeepHandedRow
namespace Go.Proofs.Ytilpmnbnjeahnaa.gateDoes
open Go.ChangeShapes Go.WideShapes Go.ChangeAt Go.RowKit
set_option linter.unusedVariables false
theorem own : ownKnob Try.prog.godebug = none := by kernel_rfl
theorem cellsT2 : Try.prog.cellsOf 2 = 1 := by kernel_rfl
theorem laidOut : laidOutB Try.prog = true := by kernel_rfl
set_option maxRecDepth 100000 in
theorem open_cfg {H : Type} {enc : TypeId × Value → H} {W : World} {base b0 : Nat} {r : Reach} {sp : Nat → Bool} {held : Bool} {v : Value} {d : DataW H} {ps : List MemPlace}
    (hval : Value.okWide Try.prog W r b0 23 v) (hd : DataW.Trod enc Try.prog W base sp held 23 v d ps) : ∃ c : GCfg, v = c.val := by
  obtain ⟨cs, rfl, hc, hcs⟩ := open_structL (L := [(0, some (.int .i64), 1), (1, some (.int .i64), 1), (2, some (.int .i64), 1), (3, some (.int .i64), 1), (4, some (.int .i64), 1)]) (by kernel_rfl) rfl hval hd
  have hc : cs.size = 5 := hc.trans (by kernel_rfl)
  obtain ⟨a0, h0, _⟩ := hcs 0 .i64 (by simp)
  obtain ⟨a1, h1, _⟩ := hcs 1 .i64 (by simp)
  obtain ⟨a2, h2, _⟩ := hcs 2 .i64 (by simp)
  obtain ⟨a3, h3, _⟩ := hcs 3 .i64 (by simp)
  obtain ⟨a4, h4, _⟩ := hcs 4 .i64 (by simp)
  refine ⟨⟨a0, a1, a2, a3, a4⟩, ?_⟩
  unfold GCfg.val
  congr 1
  apply Array.ext_getElem?
  intro i
  by_cases hi : i < 5
  · have : i = 0 ∨ i = 1 ∨ i = 2 ∨ i = 3 ∨ i = 4 := by omega
    rcases this with rfl | rfl | rfl | rfl | rfl <;> simp [*]
  · rw [Array.getElem?_eq_none (by omega), Array.getElem?_eq_none (by simp; omega)]
theorem cells36 : Try.prog.cellsOf 36 = 4 := by kernel_rfl
set_option maxRecDepth 100000 in
theorem act_at {H : Type} {enc : TypeId × Value → H} {W : World} {base fuel : Nat} {sp : Nat → Bool} {held : Bool} {cs : List Value} {y : DataW H × List MemPlace} (hf : DataW.trod enc Try.prog W base sp held fuel 36 cs = some y) :
    ∃ o : Act4, cs = [.int .i64 o.act, .int .i64 o.v, .int .i64 o.size, .int .i64 o.ticket] := by
  obtain ⟨hl, hcs⟩ := trod_structL (L := [(0, some (.int .i64), 1), (1, some (.int .i64), 1), (2, some (.int .i64), 1), (3, some (.int .i64), 1)]) (by kernel_rfl) rfl hf
  rw [cells36] at hl
  obtain ⟨a0, h0, _⟩ := hcs 0 .i64 (by simp)
  obtain ⟨a1, h1, _⟩ := hcs 1 .i64 (by simp)
  obtain ⟨a2, h2, _⟩ := hcs 2 .i64 (by simp)
  obtain ⟨a3, h3, _⟩ := hcs 3 .i64 (by simp)
  refine ⟨⟨a0, a1, a2, a3⟩, ?_⟩
  rcases cs with _ | ⟨b0, _ | ⟨b1, _ | ⟨b2, _ | ⟨b3, _ | ⟨b4, r⟩⟩⟩⟩⟩ <;> simp_all
theorem acts_of : ∀ (n : Nat) (xs : List Value), xs.length = n * 4 → (∀ i, i < n → ∃ o : Act4, (xs.drop (i * 4)).take 4 = [.int .i64 o.act, .int .i64 o.v, .int .i64 o.size, .int .i64 o.ticket]) → ∃ scr : List Act4, scr.length = n ∧ xs = acts scr
  | 0, xs, h, _ => ⟨[], rfl, List.eq_nil_of_length_eq_zero (by omega)⟩
  | n + 1, xs, h, hi => by
    obtain ⟨o, ho⟩ := hi 0 (by omega)
    obtain ⟨scr, h1, h2⟩ := acts_of n (xs.drop 4) (by simp [h]; omega) fun i hin => by
      obtain ⟨o, ho⟩ := hi (i + 1) (by omega)
      exact ⟨o, by rw [← ho, List.drop_drop]; congr 2; omega⟩
    refine ⟨o :: scr, by simp [h1], ?_⟩
    have e : xs = xs.take 4 ++ xs.drop 4 := (List.take_append_drop 4 xs).symm
    rw [e, h2]
    simp only [Nat.zero_mul, List.drop_zero] at ho
    rw [ho]
    rfl
set_option maxRecDepth 100000 in
theorem contract (H : Type) (enc : TypeId × Value → H) (W : World) (base : Nat) (args : Array Value) (ds gs : List (DataW H)) (before : List MemPlace)
    (hval : ∀ (j : Nat) t v, Try.f8.params[j]? = some t → args[j]? = some v → Value.okWide Try.prog W .any base t v)
    (hW : DataW.Whole enc Try.prog Try.f8.params.toList Rows.gateDoesSpec.vars false W args.toList ds gs before) :
    Calls Try.prog 8 args W fun e W' => ∃ v, e = .returned v ∧ Rows.gateDoesSpec.post enc Try.prog Try.f8 false true false false W args v W' := by
  have hW' := hW
  obtain ⟨p, q, hA0, hV, rfl, hfz, hnd⟩ := hW
  have hA : DataW.TrodAll enc Try.prog W 0 (fun _ => true) true Try.f8.params.toList args.toList ds p := hA0
  rw [Try.params8] at hA hval
  obtain ⟨v0, vs0, d0, ds0, p0, q0, hargs, rfl, rfl, h0, r0⟩ := trodAll_cons hA
  obtain ⟨v1, vs1, d1, ds1, p1, q1, rfl, rfl, rfl, h1, r1⟩ := trodAll_cons r0
  obtain ⟨v2, vs2, d2, ds2, p2, q2, rfl, rfl, rfl, h2, r2⟩ := trodAll_cons r1
  obtain ⟨rfl, rfl, rfl⟩ := trodAll_nil r2
  obtain rfl : args = #[v0, v1, v2] := by cases args; simp_all
  obtain ⟨rfl, rfl⟩ := trodVars_none hV
  obtain ⟨c, rfl⟩ := open_cfg (hval 0 23 v0 rfl rfl) h0
  obtain ⟨z1, s1, w1⟩ := open_ints1 Try.underlying24 Try.underlying2 cellsT2 (hval 1 24 v1 rfl rfl) h1
  obtain ⟨m2, xs2, s2, i2⟩ := open_sl (P := Try.prog) Try.underlying31 (by decide +kernel) (hval 2 31 v2 rfl rfl) h2
  rw [cells36] at s2 i2
  have l2 : xs2.length = m2 * 4 := by obtain ⟨A, c, _, h, _⟩ := s2; exact h.len
  obtain ⟨scr, hscr, rfl⟩ := acts_of m2 xs2 l2 fun i hi => by
    obtain ⟨fuel, y, hy⟩ := i2 i hi
    exact act_at hy
  subst hscr
  have walk := does_any c z1 scr v1 v2 W s1 s2
  refine Calls.mono walk fun e W' ⟨v, he, hv, hB⟩ => ?_
  subst he hv
  exact ⟨_, rfl, law_post laidOut (by kernel_rfl) (by rfl) Try.underlying4 rfl hW' rfl hB⟩
noncomputable def laidWorld (os : Os) : World := World.holding Try.prog os ⟨#[], #[], []⟩
theorem reads (os : Os) {H : Type} (enc : TypeId × Value → H) : ∃ places, DataW.whole enc Try.prog ((laidWorld os).forCall (fun _ _ => 0) ⟨#[], #[.agg #[.int .i64 0, .int .i64 0, .int .i64 0, .int .i64 0, .int .i64 0], .slice none 0 0, .slice none 0 0], []⟩).memory Try.f8.params.toList Rows.gateDoesSpec.vars false (#[.agg #[.int .i64 0, .int .i64 0, .int .i64 0, .int .i64 0, .int .i64 0], .slice none 0 0, .slice none 0 0] : Array Value).toList 8 = some ([.agg [.lit (.int .i64 0), .lit (.int .i64 0), .lit (.int .i64 0), .lit (.int .i64 0), .lit (.int .i64 0)], .nil, .nil], [], places) :=
  ⟨[], by kernel_rfl⟩
set_option maxRecDepth 100000 in
theorem lifted (os : Os) (started : os.Started) (H : Type) (enc : TypeId × Value → H) (F : Stop.Interp) :
    ReturnsInHanded {} Try.checked os 8 .any ((OpenSpec.ofChange Rows.gateDoesSpec).preRow enc Try.prog Try.f8 Rows.gateDoesRow.domain false Rows.gateDoesRow.laid) (((OpenSpec.ofChange Rows.gateDoesSpec).at F).post enc Try.prog Try.f8 false true false false) := by
  obtain ⟨places, hx⟩ := reads os enc
  refine returnsInHanded_of_row (C := Try.checked) (s := OpenSpec.ofChange Rows.gateDoesSpec) own started (by kernel_rfl) Try.func8
    (witness_row_at (enc := enc) (C := Try.checked) false (laidWorld os) #[.agg #[.int .i64 0, .int .i64 0, .int .i64 0, .int .i64 0, .int .i64 0], .slice none 0 0, .slice none 0 0] rfl (by kernel_rfl) (by kernel_rfl) (by kernel_rfl)
      (OpenSpec.preRow_of_cond 8 hx (by kernel_rfl) (fun k hk => by cases hk) (by kernel_rfl) (laidMetH_nil _ _))) ?_
  intro W base args ds gs before hval hW _ _ _ hL _ _
  exact contract H enc W base args ds gs before hval hW
theorem said : Rows.GateDoesSaid :=
  OpenClaim.holds_of_cond 8 Try.f8 rfl rfl rfl rfl rfl rfl rfl ⟨rfl, rfl, rfl, rfl, rfl⟩ rfl rfl rfl rfl rfl (by kernel_rfl) Try.func8 (by kernel_rfl)
    (of_decide_eq_true (by kernel_rfl)) (by unfold Func.isWrapper; first | (rw [if_pos (by decide +kernel)]; kernel_rfl) | (rw [if_neg (by decide +kernel)]; exact ⟨rfl, rfl⟩))
    (fun os started H enc _ F => by rw [OpenClaim.pre_eq_preRow]; exact lifted os started H enc F)
end Go.Proofs.Ytilpmnbnjeahnaa.gateDoes
