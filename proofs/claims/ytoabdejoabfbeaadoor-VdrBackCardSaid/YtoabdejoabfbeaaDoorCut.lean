/-
  A cut behind a test: what both ways come to, walked on from once. Over any program.
-/
import Derived.Test.YtoabdejoabfbeaaDoorOwn
namespace Go.Proofs.YtoabdejoabfbeaaDoor
open Go.RowKit
set_option linter.unusedVariables false
theorem opsE_mono {P : Program} {n : Nat} {ops : Array Oper} {K K' : Slots → World → Prop} (hK : ∀ s w, K s w → K' s w) : ∀ (l : List Oper) (s : Slots) (w : World), opsE P n ops K l s w → opsE P n ops K' l s w := by
  intro l
  induction l with
  | nil => intro s w h; exact hK s w h
  | cons o rest ih =>
    intro s w h
    have hrun : resE P (opR P o s w) (fun v w' => opsE P n ops K rest (put n s o.dst v) w') → resE P (opR P o s w) (fun v w' => opsE P n ops K' rest (put n s o.dst v) w') := fun h => resE_mono h fun v w hk => ih _ _ hk
    unfold opsE at h ⊢
    cases hg : o.guard with
    | none => simp only [hg] at h ⊢; exact hrun h
    | some jw =>
      obtain ⟨j, want⟩ := jw
      simp only [hg] at h ⊢
      generalize guardS ops s j = g at h
      cases g with
      | bool b =>
        simp only at h ⊢
        split
        · rename_i e1; rw [if_pos e1] at h; exact hrun h
        · rename_i e1; rw [if_neg e1] at h; exact ih _ _ h
      | _ => simp only at h ⊢; exact ih _ _ h
theorem W_mono {P : Program} {n : Nat} {c : Code} {s : Slots} {w : World} {Q Q' : Exit → Slots → World → Prop} (hQ : ∀ e s w, Q e s w → Q' e s w) (h : W P n c s w Q) : W P n c s w Q' :=
  fun ro ds a hf => wpIn_mono (h ro ds a hf) fun e a' w' ⟨s', hf', hq⟩ => ⟨s', hf', hQ _ _ _ hq⟩
theorem E_mono {P : Program} {n : Nat} : ∀ (c : Code) (s : Slots) (w : World) (Q Q' : Exit → Slots → World → Prop), (∀ e s w, Q e s w → Q' e s w) → E P n c s w Q → E P n c s w Q' := by
  intro c
  induction c with
  | skip => intro s w Q Q' hQ h; exact hQ _ _ _ h
  | label l => intro s w Q Q' hQ h; exact hQ _ _ _ h
  | seq x y ihx ihy =>
    intro s w Q Q' hQ h
    refine ihx _ _ _ _ (fun e s w hq => ?_) h
    cases e with
    | normal => exact ihy _ _ _ _ hQ hq
    | _ => exact hQ _ _ _ hq
  | cond c x y ihx ihy =>
    intro s w Q Q' hQ h
    rcases h with ⟨hc, h⟩ | ⟨hc, h⟩
    · exact .inl ⟨hc, ihx _ _ _ _ hQ h⟩
    · exact .inr ⟨hc, ihy _ _ _ _ hQ h⟩
  | block id c ih =>
    intro s w Q Q' hQ h
    refine ih _ _ _ _ (fun e s w hq => ?_) h
    cases e with
    | exit i =>
      simp only [blockE] at hq ⊢
      split
      · rename_i e1; rw [if_pos e1] at hq; exact hQ _ _ _ hq
      · rename_i e1; rw [if_neg e1] at hq; exact hQ _ _ _ hq
    | _ => exact hQ _ _ _ hq
  | exit id => intro s w Q Q' hQ h; exact hQ _ _ _ h
  | ret => intro s w Q Q' hQ h; exact hQ _ _ _ h
  | region id ops draw =>
    intro s w Q Q' hQ h
    cases draw with
    | true => exact W_mono hQ h
    | false => exact opsE_mono (fun s w h => hQ _ _ _ h) _ _ _ h
  | loop c ih => intro s w Q Q' hQ h; exact W_mono hQ h
  | rangeFunc f p x y ihx ihy => intro s w Q Q' hQ h; exact W_mono hQ h
  | goto l => intro s w Q Q' hQ h; exact W_mono hQ h
  | scope c ih =>
    intro s w Q Q' hQ h
    refine ih _ _ _ _ (fun e s w hq => ?_) h
    cases e with
    | goto l => exact hq.elim
    | _ => exact hQ _ _ _ hq
  | refuse y => intro s w Q Q' hQ h; exact W_mono hQ h
/-- What holds at the cut: kept as it is till it is shown. -/
def atCut [b : Box (Slots → World → Prop)] (s : Slots) (w : World) : Prop := b.of s w
theorem atCut.mk {I : Slots → World → Prop} {s : Slots} {w : World} (h : I s w) : @atCut ⟨I⟩ s w := h
theorem atCut_congr {b : Box (Slots → World → Prop)} {s : Slots} {w w' : World} (h : w = w') : @atCut b s w = @atCut b s w' := by rw [h]
def cutE [b : Box (Slots → World → Prop)] (Q : Exit → Slots → World → Prop) : Exit → Slots → World → Prop
  | .normal, s, w => atCut s w
  | e, s, w => Q e s w
theorem cutE_congr {b : Box (Slots → World → Prop)} {Q : Exit → Slots → World → Prop} {e : Exit} {s : Slots} {w w' : World} (h : w = w') : @cutE b Q e s w = @cutE b Q e s w' := by rw [h]
attribute [congr] atCut_congr cutE_congr
section
variable (b : Box (Slots → World → Prop)) (Q : Exit → Slots → World → Prop) (s : Slots) (w : World)
@[go_sem] theorem cutE_normal : @cutE b Q .normal s w = @atCut b s w := propext Iff.rfl
@[go_sem] theorem cutE_exit (i : Nat) : @cutE b Q (.exit i) s w = Q (.exit i) s w := propext Iff.rfl
@[go_sem] theorem cutE_ret : @cutE b Q .ret s w = Q .ret s w := propext Iff.rfl
end
theorem condC_cut {P : Program} {n : Nat} {v : Value} {x y : Code} {s : Slots} {w : World} {Q : Exit → Slots → World → Prop} (I : Slots → World → Prop) (h1 : condC P n v x y s w (@cutE ⟨I⟩ Q)) (h2 : ∀ s w, I s w → Q .normal s w) : condC P n v x y s w Q := by
  have hm : ∀ e s w, @cutE ⟨I⟩ Q e s w → Q e s w := fun e s w h => by
    cases e with
    | normal => exact h2 s w h
    | _ => exact h
  rcases h1 with ⟨hc, h⟩ | ⟨hc, h⟩
  · exact .inl ⟨hc, E_mono _ _ _ _ _ hm h⟩
  · exact .inr ⟨hc, E_mono _ _ _ _ _ hm h⟩
theorem condN_cut {P : Program} {n i : Nat} {x y : Code} {s : Slots} {w : World} {Q : Exit → Slots → World → Prop} (I : Slots → World → Prop) (h1 : condN P n i x y s w (@cutE ⟨I⟩ Q)) (h2 : ∀ s w, I s w → Q .normal s w) : condN P n i x y s w Q := by
  have hm : ∀ e s w, @cutE ⟨I⟩ Q e s w → Q e s w := fun e s w h => by
    cases e with
    | normal => exact h2 s w h
    | _ => exact h
  unfold condN at h1 ⊢
  split
  · rename_i e; rw [if_pos e] at h1; exact E_mono _ _ _ _ _ hm h1
  · rename_i e; rw [if_neg e] at h1; exact E_mono _ _ _ _ _ hm h1
/-- A drawn region, or another piece, whose end is told once. -/
theorem W_cutE {P : Program} {n : Nat} {c : Code} {s : Slots} {w : World} {Q : Exit → Slots → World → Prop} (I : Slots → World → Prop) (h1 : W P n c s w (@cutE ⟨I⟩ Q)) (h2 : ∀ s w, I s w → Q .normal s w) : W P n c s w Q :=
  W_mono (fun e s w h => by
    cases e with
    | normal => exact h2 s w h
    | _ => exact h) h1
end Go.Proofs.YtoabdejoabfbeaaDoor
