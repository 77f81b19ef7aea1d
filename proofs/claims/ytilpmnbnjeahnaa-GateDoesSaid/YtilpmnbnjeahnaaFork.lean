/-
  A drawn region along a tree of orders that forks into any number of ways. Over any program.
-/
import Derived.Test.YtilpmnbnjeahnaaAny
namespace Go.Proofs.Ytilpmnbnjeahnaa
open Go.RowKit
set_option linter.unusedVariables false
variable {ro : Option Nat} {ds : List Deferred}
/-! Along a tree of orders that may fork into any number of ways. -/
inductive Fork where
  | done
  | pure (i : Nat) (r : Fork)
  | alt (i : Nat) (r q : Fork)
  | no
def forkB (ops : Array Oper) : Fork → Nat → Array Bool → List Nat → Bool
  | .done, f, listed, acc => f == 0 && (Region.ready .any ops listed).isEmpty && acc.isEmpty
  | .pure i r, f + 1, listed, acc => (Region.ready .any ops listed).contains i && Region.free .any ops listed i && acc.isEmpty && forkB ops r f (listed.setIfInBounds i true) []
  | .alt i r q, f + 1, listed, acc => forkB ops r f (listed.setIfInBounds i true) [] && forkB ops q (f + 1) listed (i :: acc)
  | .no, _ + 1, listed, acc => !(Region.ready .any ops listed).isEmpty && (Region.ready .any ops listed).all fun j => acc.contains j
  | _, _, _, _ => false
def forkE (P : Program) (n : Nat) (ops : Array Oper) (K : Slots → World → Prop) : Fork → Slots → World → Prop
  | .done, s, w => K s w
  | .pure i r, s, w => stepO P n ops ops[i]? true s w (forkE P n ops K r)
  | .alt i r q, s, w => stepO P n ops ops[i]? false s w (forkE P n ops K r) ∧ forkE P n ops K q s w
  | .no, _, _ => True
def forkK (P : Program) (n : Nat) (ops : Array Oper) (K : Slots → World → Prop) (r : Fork) (s : Slots) (d : Option Tmp) : Kont := fun v w => forkE P n ops K r (put n s d v) w
def forkV (P : Program) (n : Nat) (ops : Array Oper) (K : Slots → World → Prop) (r : Fork) (s : Slots) (d : Option Tmp) (w : World) : Value → Prop := fun v => forkE P n ops K r (put n s d v) w
/-- One operation of a fork, its guard's value at hand. -/
def forkG (P : Program) (n : Nat) (ops : Array Oper) (K : Slots → World → Prop) (r : Fork) (b : Bool) (o : Oper) (s : Slots) (w : World) (g : Value) (want : Bool) : Prop := stepG P n b o (some (g, want)) s w (forkE P n ops K r)
def forkO (P : Program) (n : Nat) (ops : Array Oper) (K : Slots → World → Prop) (o : Option Oper) (b : Bool) (r : Fork) (s : Slots) (w : World) : Prop := stepO P n ops o b s w (forkE P n ops K r)
section
variable (P : Program) (n : Nat) (ops : Array Oper) (K : Slots → World → Prop) (r q : Fork) (s : Slots) (w : World) (i j : Nat) (d : Option Tmp) (o : Oper)
@[go_sem] theorem forkE_done : forkE P n ops K .done s w = K s w := propext Iff.rfl
@[go_sem] theorem forkE_pure : forkE P n ops K (.pure i r) s w = forkO P n ops K ops[i]? true r s w := propext Iff.rfl
@[go_sem] theorem forkE_alt : forkE P n ops K (.alt i r q) s w = (forkO P n ops K ops[i]? false r s w ∧ forkE P n ops K q s w) := propext Iff.rfl
@[go_sem] theorem forkE_no : forkE P n ops K .no s w = True := propext Iff.rfl
@[go_sem] theorem forkO_pure (op : Op) (ty : TypeId) (pos : String) (after : Array Edge) : forkO P n ops K (some ⟨d, op, ty, pos, after, none⟩) true r s w = pureE (fun w => opR P ⟨d, op, ty, pos, after, none⟩ s w) (forkV P n ops K r s d w) := propext Iff.rfl
@[go_sem] theorem forkO_loud (op : Op) (ty : TypeId) (pos : String) (after : Array Edge) : forkO P n ops K (some ⟨d, op, ty, pos, after, none⟩) false r s w = resE P (opR P ⟨d, op, ty, pos, after, none⟩ s w) (forkK P n ops K r s d) := propext Iff.rfl
@[go_sem] theorem forkO_guard (op : Op) (ty : TypeId) (pos : String) (after : Array Edge) (want b : Bool) : forkO P n ops K (some ⟨d, op, ty, pos, after, some (j, want)⟩) b r s w = forkG P n ops K r b ⟨d, op, ty, pos, after, none⟩ s w (guardS ops s j) want := propext Iff.rfl
@[go_sem] theorem forkG_true : forkG P n ops K r true o s w (.bool true) true = pureE (fun w => opR P o s w) (forkV P n ops K r s o.dst w) := propext Iff.rfl
@[go_sem] theorem forkG_false : forkG P n ops K r true o s w (.bool false) false = pureE (fun w => opR P o s w) (forkV P n ops K r s o.dst w) := propext Iff.rfl
@[go_sem] theorem forkG_ltrue : forkG P n ops K r false o s w (.bool true) true = resE P (opR P o s w) (forkK P n ops K r s o.dst) := propext Iff.rfl
@[go_sem] theorem forkG_lfalse : forkG P n ops K r false o s w (.bool false) false = resE P (opR P o s w) (forkK P n ops K r s o.dst) := propext Iff.rfl
@[go_sem] theorem forkG_skip1 (b : Bool) : forkG P n ops K r b o s w (.bool true) false = forkE P n ops K r (put n s o.dst undef) w := propext Iff.rfl
@[go_sem] theorem forkG_skip2 (b : Bool) : forkG P n ops K r b o s w (.bool false) true = forkE P n ops K r (put n s o.dst undef) w := propext Iff.rfl
@[go_sem] theorem forkG_skip3 (b want : Bool) : forkG P n ops K r b o s w undef want = forkE P n ops K r (put n s o.dst undef) w := propext Iff.rfl
@[go_sem] theorem forkG_dec (p : Prop) [Decidable p] (b want : Bool) : forkG P n ops K r b o s w (.bool (decide p)) want = forkG P n ops K r b o s w (.bool (natB (if p then 1 else 0))) want := by
  by_cases h : p <;> simp [h, natB]
@[go_sem] theorem forkG_ndec (p : Prop) [Decidable p] (b want : Bool) : forkG P n ops K r b o s w (.bool (!decide p)) want = forkG P n ops K r b o s w (.bool (natB (if p then 0 else 1))) want := by
  by_cases h : p <;> simp [h, natB]
@[go_sem] theorem forkK_eq (v : Value) : forkK P n ops K r s d v w = forkE P n ops K r (put n s d v) w := propext Iff.rfl
@[go_sem] theorem forkV_eq (v : Value) : forkV P n ops K r s d w v = forkE P n ops K r (put n s d v) w := propext Iff.rfl
end
theorem forkO_congr {P : Program} {n : Nat} {ops : Array Oper} {K : Slots → World → Prop} {o o' : Option Oper} {b : Bool} {r : Fork} {s : Slots} {w w' : World} (h : o = o') (hw : w = w') : forkO P n ops K o b r s w = forkO P n ops K o' b r s w' := by rw [h, hw]
theorem forkE_congr {P : Program} {n : Nat} {ops : Array Oper} {K : Slots → World → Prop} {r : Fork} {s : Slots} {w w' : World} (h : w = w') : forkE P n ops K r s w = forkE P n ops K r s w' := by rw [h]
theorem forkG_congr {P : Program} {n : Nat} {ops : Array Oper} {K : Slots → World → Prop} {r : Fork} {b : Bool} {o : Oper} {s : Slots} {w w' : World} {g g' : Value} {want : Bool} (h : g = g') (hw : w = w') : forkG P n ops K r b o s w g want = forkG P n ops K r b o s w' g' want := by rw [h, hw]
theorem forkK_congr {P : Program} {n : Nat} {ops : Array Oper} {K : Slots → World → Prop} {r : Fork} {s : Slots} {d : Option Tmp} {v v' : Value} {w w' : World} (h : v = v') (hw : w = w') : forkK P n ops K r s d v w = forkK P n ops K r s d v' w' := by rw [h, hw]
theorem forkV_congr {P : Program} {n : Nat} {ops : Array Oper} {K : Slots → World → Prop} {r : Fork} {s : Slots} {d : Option Tmp} {v v' : Value} {w : World} (h : v = v') : forkV P n ops K r s d w v = forkV P n ops K r s d w v' := by rw [h]
attribute [congr] forkO_congr forkE_congr forkG_congr forkK_congr forkV_congr
theorem forkE_sound {P : Program} {n : Nat} {ops : Array Oper} {K : Slots → World → Prop} {Q : Exit → Act → World → Prop} (hQ : ∀ e a w, Q e a w → e = .normal) (hK : ∀ s w a, Fits n ds s a → K s w → Q .normal a w) (hs : Region.noSelect ops = true) :
    ∀ (t : Fork) (f : Nat) (listed : Array Bool) (acc : List Nat) (s : Slots) (w : World) (a : Act), Fits n ds s a → forkB ops t f listed acc = true → forkE P n ops K t s w →
      (∀ j ∈ acc, ∃ g, f = g + 1 ∧ wpOpIn (fR ro) 0 P ops Q j (wpAnyIn (fR ro) 0 P .any ops Q g (listed.setIfInBounds j true)) a w) → wpAnyIn (fR ro) 0 P .any ops Q f listed a w := by
  intro t
  induction t with
  | done =>
    intro f listed acc s w a hf hB h _
    simp only [forkB, Bool.and_eq_true, beq_iff_eq] at hB
    obtain ⟨⟨rfl, hB⟩, _⟩ := hB
    exact ⟨by simpa using hB, hK s w a hf h⟩
  | pure i r ih =>
    intro f listed acc s w a hf hB h _
    cases f with
    | zero => simp [forkB] at hB
    | succ f =>
      simp only [forkB, Bool.and_eq_true] at hB
      unfold forkE at h
      cases hi : ops[i]? with
      | none => simp only [hi] at h; exact h.elim
      | some o =>
        simp only [hi] at h
        obtain ⟨v, hv, hk⟩ := stepO_yields hf h
        exact wpAny_first hQ hi (Region.noSelect_spec hs) f listed a w (Region.free_spec hi hB.1.1.2) (by simpa using hB.1.1.1) hv (ih _ _ _ _ _ _ (hf.put _ _) hB.2 hk (fun j hj => by cases hj))
  | alt i r q ih1 ih2 =>
    intro f listed acc s w a hf hB h hacc
    cases f with
    | zero => simp [forkB] at hB
    | succ f =>
      simp only [forkB, Bool.and_eq_true] at hB
      unfold forkE at h
      refine ih2 _ _ _ _ _ _ hf hB.2 h.2 fun j hj => ?_
      rcases List.mem_cons.1 hj with rfl | hj
      · refine ⟨f, rfl, ?_⟩
        cases hi : ops[j]? with
        | none => simp only [hi] at h; exact h.1.elim
        | some o =>
          simp only [hi] at h
          exact stepO_runs hi hf h.1 fun s' w' a' hf' hk => ih1 _ _ _ _ _ _ hf' hB.1 hk (fun j hj => by cases hj)
      · exact hacc j hj
  | no =>
    intro f listed acc s w a hf hB h hacc
    cases f with
    | zero => simp [forkB] at hB
    | succ f =>
      simp only [forkB, Bool.and_eq_true, List.all_eq_true, Bool.not_eq_true'] at hB
      refine ⟨fun h0 => (by rw [h0] at hB; simp at hB), fun j hj => ?_⟩
      obtain ⟨g, hg, hw⟩ := hacc j (by simpa using hB.2 j hj)
      obtain rfl : f = g := by omega
      exact hw
theorem W_fork {P : Program} {n id : Nat} {l : List Oper} {s : Slots} {w : World} {Q : Exit → Slots → World → Prop} (t : Fork) (hm : P.follows .mixedOrders = true) (hB : (Region.noSelect l.toArray && forkB l.toArray t l.length (Array.replicate l.length false) []) = true)
    (K : Slots → World → Prop) (h : forkE P n l.toArray K t s w.drew) (hQ : ∀ s w, K s w → Q .normal s w) : W P n (.region id l.toArray true) s w Q := by
  simp only [Bool.and_eq_true] at hB
  intro ro ds a hf
  have h1 : (Code.region id l.toArray true).wpIn (fR ro) 0 P (fun e a' w' => e = .normal ∧ ∃ s', Fits n ds s' a' ∧ K s' w') a w := by
    refine wpIn_region_any hm ?_
    have h2 := forkE_sound (ro := ro) (Q := fun e a' w' => e = .normal ∧ ∃ s', Fits n ds s' a' ∧ K s' w') (fun e a w h => h.1) (fun s' w' a' hf' hk => ⟨rfl, s', hf', hk⟩) hB.1 t l.length _ [] s w.drew a hf hB.2 h (fun j hj => by cases hj)
    simpa using h2
  exact wpIn_mono h1 fun e a' w' ⟨he, s', hf', hq⟩ => by subst he; exact ⟨s', hf', hQ _ _ hq⟩
end Go.Proofs.Ytilpmnbnjeahnaa
