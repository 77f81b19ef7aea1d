/-
  Texts joined: ExZ, ExW.
-/
import Derived.Test.YtlgoilobdiimeaaGreatDoorJoin20
namespace Go.Proofs.YtlgoilobdiimeaaGreatDoor.Ex
open Go Go.RowKit
set_option linter.unusedVariables false
set_option linter.unusedSimpArgs false
section
variable {C : Ctx} {B : Nat} {w0 : World}
theorem go_all (hC : C.OK) {ext : CallF} (hext : ExtOK C B w0 ext) (L d : Nat) : CallOK C B w0 (go C ext L d) ∧ EntOK C (go C ext L d) :=
  go_ok hC hext (fun _ h1 h2 => ops_ok hC h1 h2) (fun _ h => draw_ok hC h) d
/-- A world of which nothing is known. -/
theorem rel_none (w : World) (hg : ∀ g, C.gl g = false) : Rel C w.heap.size w (fun _ => none) ⟨.leaf, 0⟩ w :=
  ⟨fun b c x h => (by cases h), fun b b' c c' x x' h => (by cases h), fun b x h => (by cases h), fun b _ => rfl, fun b c x h => (by cases h), Below.refl _ _, Nat.le_refl _, fun g h => (by rw [hg] at h; cases h)⟩
/-- A call that is reckoned from nothing. -/
theorem call_none (hC : C.OK) (hg : ∀ g, C.gl g = false) {ext : CallF} {w : World} (hext : ExtOK C w.heap.size w ext) {L d f : Nat} {args args' : List Value} {v : Value} {st' : St} (h : go C ext L d (.fn f) args ⟨.leaf, 0⟩ = some (v, st')) (hv : nf v = true) (ha : LR (fun _ => none) args args') :
    callE C.P f ⟨args'⟩ w fun v' w' => v' = v ∧ Below w.heap.size w w' := by
  refine callE_of ((go_all hC hext L d).1 (.fn f) args _ v st' h _ w args' (rel_none w hg) ha) ?_
  rintro v' w' ⟨e', hF, hR, hr⟩
  exact ⟨(nf_eq hv hr).symm, hR.keep⟩
/-- A part of a function's code. -/
theorem W_exec (hC : C.OK) {ext : CallF} (hext : ExtOK C B w0 ext) {L d fn n : Nat} {c : Code} {as as' : AS} {ax : Ax} {s : Slots} {w : World} {e : Env} {Q : Exit → Slots → World → Prop} (hms : as.ms = []) (hms' : as'.ms = [])
    (h : execC C (go C ext L d) L fn n false c as = some (ax, as')) (hR : Rel C B w0 e as.st w) (hs : SlR e as.s s) (hk : ∀ e' s' w', Rel C B w0 e' as'.st w' → SlR e' as'.s s' → Q (exOf ax) s' w') : W C.P n c s w Q := by
  intro ro ds a hf
  have H := ops_ok (B := B) (w0 := w0) hC (go_all hC hext L d).1 (go_all hC hext L d).2
  have hA : At C B w0 n ds as.st e as a w := ⟨e, s, [], Fol.refl _ _, hR, hs, hf, by rw [hms]; trivial⟩
  have h1 := execC_ok H (draw_ok hC H) (range_ok hC (go_all hC hext L d).1 (go_all hC hext L d).2) (ro := ro) (fun h => by cases h) c as as' ax a w h hA
  refine wpIn_mono h1 ?_
  rintro ex a' w' ⟨he, hA'⟩
  subst he
  obtain ⟨e', σ', ds', k1, k2, k3, k4, k5⟩ := hA'.at_
  rw [hms'] at k5
  cases ds' with
  | cons => exact k5.elim
  | nil => exact ⟨σ', k4, hk e' σ' w' k2 k3⟩
end
end Go.Proofs.YtlgoilobdiimeaaGreatDoor.Ex
namespace Go.Proofs.YtlgoilobdiimeaaGreatDoor.Ex
open Go Go.RowKit
set_option linter.unusedVariables false
set_option linter.unusedSimpArgs false
/-- The rest of the code, left as it is. -/
def restW (P : Program) (n : Nat) (b : Code) (Q : Exit → Slots → World → Prop) (s : Slots) (w : World) : Prop := W P n b s w Q
def thenR (P : Program) (n : Nat) (b : Code) (Q : Exit → Slots → World → Prop) : Exit → Slots → World → Prop
  | .normal, s, w => restW P n b Q s w
  | e, s, w => Q e s w
section
variable {P : Program} {n : Nat} {b : Code} {Q : Exit → Slots → World → Prop} {s : Slots} {w : World}
@[go_sem] theorem thenR_normal : thenR P n b Q .normal s w = restW P n b Q s w := propext Iff.rfl
@[go_sem] theorem thenR_ret : thenR P n b Q .ret s w = Q .ret s w := propext Iff.rfl
@[go_sem] theorem thenR_exit (i : Nat) : thenR P n b Q (.exit i) s w = Q (.exit i) s w := propext Iff.rfl
theorem W_head {a x : Code} (h : ∀ b0, b0 = b → E P n (.seq a x) s w (thenR P n b0 Q)) : W P n (.seq a (.seq x b)) s w Q := by
  have h1 : E P n a s w (thenE (fun s w => E P n x s w (thenR P n b Q)) (thenR P n b Q)) := h b rfl
  intro ro ds ac hf
  refine wpIn_seq (wpIn_mono (E_sound a s w _ h1 ro ds ac hf) ?_)
  rintro e a' w' ⟨s', hf', hq⟩
  cases e with
  | normal =>
    refine wpIn_seq (wpIn_mono (E_sound x s' w' _ hq ro ds a' hf') ?_)
    rintro e2 a2 w2 ⟨s2, hf2, hq2⟩
    cases e2 with
    | normal => exact hq2 ro ds a2 hf2
    | _ => exact ⟨s2, hf2, hq2⟩
  | _ => exact ⟨s', hf', hq⟩
theorem calls_W {f : FuncId} {fn : Func} {c : Code} {args : Array Value} {R : Kont} {rs : Array ResultVar} (hf : P.funcs[f]? = some fn) (hb : fn.body = some c) (hn : fn.ntmps = n) (hr : fn.results = rs) (hle : args.size ≤ n)
    (h : W P n c (argsE args) w (@postE P rs ⟨R⟩)) : callE P f args w R := by
  suffices h0 : CallsIn Fence.wide 0 P f args w (fun e w' => ∃ v, e = .returned v ∧ R v w') from callsIn_wide.1 h0
  refine callsIn_of_wp hf hb trivial ?_
  have hfit : Fits n [] (argsE args) { tmps := args ++ Array.replicate (fn.ntmps - args.size) undef, defers := [] } := by
    refine ⟨by simp; omega, rfl, fun t => ?_⟩
    simp only [argsE, Array.getD_eq_getD_getElem?]
    by_cases ht : t < args.size
    · rw [Array.getElem?_append_left ht]
    · rw [Array.getElem?_append_right (by omega), Array.getElem?_replicate, Array.getElem?_eq_none (show args.size ≤ t by omega)]
      split <;> rfl
  have h1 : c.wpIn (fR none) 0 P (fun e a' w' => ∃ s', Fits n [] s' a' ∧ @postE P rs ⟨R⟩ e s' w') { tmps := args ++ Array.replicate (fn.ntmps - args.size) undef, defers := [] } w := h none [] _ hfit
  refine wpIn_mono h1 ?_
  rintro e a' w' ⟨s', hf', hq⟩
  have hend : ∀ {w'}, @endE ⟨R⟩ (resO P s' w' rs.toList) w' → ∃ v, (results fn a'.tmps).run P w' = .ok v w' ∧ ∃ v', Ending.returned v = Ending.returned v' ∧ R v' w' := by
    intro w' hq
    have he : results fn a'.tmps = resultsS rs s' := by
      have hs : s' = fun t => a'.tmps.getD t undef := funext fun t => (hf'.at_ t).symm
      subst hr; subst hs; rfl
    rw [he]
    obtain ⟨v, h1, h2⟩ := endE_run hq
    exact ⟨v, h1, v, rfl, h2⟩
  cases e with
  | normal => exact ⟨hf'.defers, hend hq⟩
  | ret => exact ⟨hf'.defers, hend hq⟩
  | _ => exact hq.elim
end
theorem slr_put {e : Env} {n d : Nat} {S : Sl} {σ : Slots} {v v' : Value} (h : SlR e S σ) (hd : d < n) (hv : VR e v v') : SlR e (S.set d v) (put n σ (some d) v') := by
  intro t
  rw [get_set]
  by_cases ht : t = d
  · subst ht; rw [if_pos rfl, put_same _ _ _ _ hd]; exact hv
  · rw [if_neg ht, put_other _ _ _ _ _ ht]; exact h t
theorem Rel.below {C : Ctx} {B : Nat} {w0 : World} {e : Env} {st : St} {w w' : World} (h : Rel C B w0 e st w) (hb : Below w.heap.size w w') : Rel C B w0 e st w' :=
  ⟨fun b c x hg he => by rw [hb.block _ (h.dom _ _ he).1]; exact h.obj _ _ _ hg he, h.inj, fun b x he => ⟨Nat.lt_of_lt_of_le (h.dom _ _ he).1 hb.size, (h.dom _ _ he).2⟩, h.fresh, h.own,
    below_of h.keep hb.os hb.tape hb.output hb.size fun k hk => hb.block k (Nat.lt_of_lt_of_le hk h.base), Nat.le_trans h.base hb.size, h.glob⟩
end Go.Proofs.YtlgoilobdiimeaaGreatDoor.Ex
