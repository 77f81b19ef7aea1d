/-
  A loop of a known number of rounds, round by round; an own row's cell turned. Over any program.
-/
import Derived.Test.YtmdkkhogldklnaaDoorRRRRAny
import Derived.LoopNIn
namespace Go.Proofs.YtmdkkhogldklnaaDoorRRRR
open Go.RowKit
set_option linter.unusedVariables false
set_option linter.unusedSimpArgs false
def roundsQ (Q : Exit → Slots → World → Prop) (next : Slots → World → Prop) : Exit → Slots → World → Prop
  | .normal, s, w => next s w
  | e, s, w => Q e s w
/-- As many rounds at most as the list is long. -/
def roundsE (P : Program) (n : Nat) (c : Code) (Q : Exit → Slots → World → Prop) : List Unit → Slots → World → Prop
  | [], _, _ => False
  | _ :: l, s, w => E P n c s w (roundsQ Q (roundsE P n c Q l))
section
variable (P : Program) (n : Nat) (c : Code) (Q : Exit → Slots → World → Prop) (l : List Unit) (u : Unit) (s : Slots) (w : World) (next : Slots → World → Prop)
@[go_sem] theorem roundsE_cons : roundsE P n c Q (u :: l) s w = E P n c s w (roundsQ Q (roundsE P n c Q l)) := propext Iff.rfl
@[go_sem] theorem roundsQ_normal : roundsQ Q next .normal s w = next s w := propext Iff.rfl
@[go_sem] theorem roundsQ_exit (i : Nat) : roundsQ Q next (.exit i) s w = Q (.exit i) s w := propext Iff.rfl
@[go_sem] theorem roundsQ_ret : roundsQ Q next .ret s w = Q .ret s w := propext Iff.rfl
end
theorem roundsE_congr {P : Program} {n : Nat} {c : Code} {Q : Exit → Slots → World → Prop} {l : List Unit} {s : Slots} {w w' : World} (h : w = w') : roundsE P n c Q l s w = roundsE P n c Q l s w' := by rw [h]
theorem roundsQ_congr {Q : Exit → Slots → World → Prop} {next : Slots → World → Prop} {e : Exit} {s : Slots} {w w' : World} (h : w = w') : roundsQ Q next e s w = roundsQ Q next e s w' := by rw [h]
attribute [congr] roundsE_congr roundsQ_congr
theorem W_rounds {P : Program} {n : Nat} {c : Code} {s : Slots} {w : World} {Q : Exit → Slots → World → Prop} (l : List Unit) (h : roundsE P n c Q l s w) : W P n (.loop c) s w Q := by
  intro ro ds a hf
  refine wpIn_loop_rounds l.length ?_
  have key : ∀ (l : List Unit) (s : Slots) (w : World) (a : Act), Fits n ds s a → roundsE P n c Q l s w → Code.roundsIn (fR ro) 0 P c (fun e a' w' => ∃ s', Fits n ds s' a' ∧ Q e s' w') l.length a w := by
    intro l
    induction l with
    | nil => intro s w a hf h; exact h.elim
    | cons u l ih =>
      intro s w a hf h
      show c.wpIn (fR ro) 0 P _ a w
      have h1 : c.wpIn (fR ro) 0 P (fun e a' w' => ∃ s', Fits n ds s' a' ∧ roundsQ Q (roundsE P n c Q l) e s' w') a w := E_sound c s w _ h ro ds a hf
      refine wpIn_mono h1 ?_
      rintro e a' w' ⟨s', hf', hq⟩
      cases e with
      | normal => exact ih s' w' a' hf' hq
      | _ => exact ⟨s', hf', hq⟩
  exact key l s w a hf h
/-- A cell of an own row turned. -/
theorem own_put {w : World} {base e n : Nat} {g c : Nat} {xs : List Value} (h : w.ownsRow base e 1 (.slice (some ⟨g, 0, none⟩) n c) n xs) {i : Nat} (hi : i < n) (v : Value) :
    (w.setCell ⟨g, i, none⟩ v).ownsRow base e 1 (.slice (some ⟨g, 0, none⟩) n c) n (xs.set i v) := by
  refine ⟨by simpa using h.1, ?_⟩
  rcases h.2 with ⟨h1, _⟩ | ⟨g', cap, cur, h1, h2, h3, h4, h5, h6, h7⟩
  · cases h1
  · injection h1 with h1 _ h1'
    injection h1 with h1
    injection h1 with h1
    subst h1 h1'
    have hl := h.1
    refine .inr ⟨g, c, cur.setIfInBounds i v, rfl, h2, Blk_set h3, h4, h5, by simpa using h6, ?_⟩
    rw [Array.toList_setIfInBounds, List.take_set, h7]
end Go.Proofs.YtmdkkhogldklnaaDoorRRRR
