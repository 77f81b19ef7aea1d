/-
  Texts joined: Flow, Own.
-/
import Derived.Test.YtmcbcoafodmbjaaGreatDoorJoin25
namespace Go.Proofs.YtmcbcoafodmbjaaGreatDoor
open Go.RowKit
set_option linter.unusedVariables false
set_option linter.unusedSimpArgs false
variable {ro : Option Nat} {ds : List Deferred}
def heldE (N : Nat → Prop) (W w : World) : Prop := W.heap.size ≤ w.heap.size ∧ ∀ g, N g → g < W.heap.size → w.heap[g]? = W.heap[g]?
theorem held_refl (N : Nat → Prop) (W : World) : heldE N W W := ⟨Nat.le_refl _, fun _ _ _ => rfl⟩
theorem heldE.below {N : Nat → Prop} {W w w' : World} (h : heldE N W w) (hb : Below w.heap.size w w') : heldE N W w' :=
  ⟨Nat.le_trans h.1 hb.size, fun g hg hl => (hb.block g (by have := h.1; omega)).trans (h.2 g hg hl)⟩
theorem heldE.alloc {N : Nat → Prop} {W w : World} (h : heldE N W w) (o : Obj) : heldE N W (w.alloc o) := h.below (ext_alloc w o)
theorem heldE.drew {N : Nat → Prop} {W w : World} (h : heldE N W w) : heldE N W w.drew := h
theorem heldE.set {N : Nat → Prop} {W w : World} (h : heldE N W w) {g o : Nat} (v : Value) (hg : ¬ N g) : heldE N W (w.setCell ⟨g, o, none⟩ v) := by
  refine ⟨by rw [sz_set]; exact h.1, fun k hk hl => ?_⟩
  have hne : k ≠ g := fun e => by subst e; exact hg hk
  rw [hp_set, if_neg hne]
  exact h.2 k hk hl
theorem heldE.row {N : Nat → Prop} {W w : World} (h : heldE N W w) {g : Nat} (cs : Array Value) (hg : ¬ N g) : heldE N W (w.setRow g cs) := by
  refine ⟨by simpa [World.setRow] using h.1, fun k hk hl => ?_⟩
  have e : (w.setRow g cs).heap[k]? = w.heap[k]? := by
    have hne : g ≠ k := fun e => by subst e; exact hg hk
    unfold World.setRow
    simp [Array.getElem?_modify, hne]
  rw [e]
  exact h.2 k hk hl
theorem below_setRow {B : Nat} {a w : World} (h : Below B a w) {g : Nat} (hg : B ≤ g) (cs : Array Value) : Below B a (w.setRow g cs) := by
  refine ⟨h.os, h.tape, h.output, by simpa [World.setRow] using h.size, fun k hk => ?_⟩
  rw [← h.block k hk]
  have hne : g ≠ k := by omega
  unfold World.setRow
  simp [Array.getElem?_modify, hne]
theorem heldE.cell {N : Nat → Prop} {W w : World} (h : heldE N W w) {a : Addr} (hN : N a.block) (hl : a.block < W.heap.size) : w.cell? a = W.cell? a := by
  have := h.2 _ hN hl
  unfold World.cell?
  rw [this]
def YieldsOn (S : World → Prop) (P : Program) (ops : Array Oper) (o : Oper) (v : Value) (a : Act) : Prop :=
  (Region.wanted o (yielded ops a.tmps) = true ∧ ∀ w, S w → (execOp a.eval o).run P w = .ok (.value v) w) ∨ (Region.wanted o (yielded ops a.tmps) = false ∧ v = undef)
theorem YieldsOn.wpOp_ {S : World → Prop} {P : Program} {ops : Array Oper} {Q : Exit → Act → World → Prop} {i : Nat} {o : Oper} {v : Value} {a : Act} {w : World} (hS : S w) (hi : ops[i]? = some o) (hy : YieldsOn S P ops o v a) {K : Act → World → Prop} (h : K (a.put o.dst v) w) : wpOpIn (fR ro) 0 P ops Q i K a w := by
  unfold wpOpIn
  simp only [hi]
  rcases hy with ⟨hw, hv⟩ | ⟨hw, rfl⟩
  · rw [if_pos hw]
    exact wpIn_of_resE (k := fun u w' => u = v ∧ w' = w) (by rw [hv w hS]; exact ⟨rfl, rfl⟩) (fun u w' ⟨e1, e2⟩ => by subst e1; subst e2; exact h)
  · rw [if_neg (by rw [hw]; exact Bool.false_ne_true)]; exact ⟨fun f _ => trivial, h⟩
theorem YieldsOn.put_ {S : World → Prop} {P : Program} {ops : Array Oper} {oi oj : Oper} {v : Value} (hap : oi.apart ops oj = true) (hsi : ∀ cs b, oi.op ≠ .select cs b) {a : Act} (hy : YieldsOn S P ops oi v a) (u : Value) : YieldsOn S P ops oi v (a.put oj.dst u) := by
  obtain ⟨_, _, h3⟩ := Oper.apart_spec hap
  unfold YieldsOn at *
  rw [execOp_put (ops := ops) oi hsi a oj.dst u h3, wanted_put oi a oj.dst u h3]
  exact hy
theorem wpOn_put {S : World → Prop} {P : Program} {ops : Array Oper} {Q : Exit → Act → World → Prop} (hQ : ∀ e a w, Q e a w → e = .normal) {j : Nat} {oi oj : Oper} {v : Value} (hj : ops[j]? = some oj) (hap : oi.apart ops oj = true)
    (hsi : ∀ cs b, oi.op ≠ .select cs b) (hsj : ∀ cs b, oj.op ≠ .select cs b) {K K' : Act → World → Prop} {a : Act} {w : World} (hy : YieldsOn S P ops oi v a)
    (hK : ∀ a' w', YieldsOn S P ops oi v a' → K (a'.put oi.dst v) w' → K' a' w') (h : wpOpIn (fR ro) 0 P ops Q j K (a.put oi.dst v) w) : wpOpIn (fR ro) 0 P ops Q j K' a w := by
  obtain ⟨h1, h2, _⟩ := Oper.apart_spec hap
  unfold wpOpIn at *
  simp only [hj] at *
  rw [wanted_put oj a oi.dst v h1] at h
  have hput : ∀ u w', K ((a.put oi.dst v).put oj.dst u) w' → K' (a.put oj.dst u) w' := fun u w' hk => hK _ _ (hy.put_ hap hsi u) (by rw [← Act.put_comm a v u h2]; exact hk)
  split
  · rename_i hw
    rw [if_pos hw] at h
    refine ⟨fun f _ => trivial, ?_⟩
    have h := h.2
    show oj.uponIn (fR ro) 0 P a K' Q ((oj.semAt ro a.eval).run P w)
    have h : oj.uponIn (fR ro) 0 P (a.put oi.dst v) K Q ((oj.semAt ro (a.put oi.dst v).eval).run P w) := h
    rw [semAt_put (ops := ops) hsj a oi.dst v h1] at h
    generalize (oj.semAt ro a.eval).run P w = r at *
    cases r with
    | ok n w' =>
      cases n <;> simp only [Oper.uponIn] at h ⊢
      case value u => exact hput _ _ h
      case skip => exact hput _ _ h
      case enter f args =>
        refine ⟨fun h0 => (by cases h0), CallsIn.mono h.2 ?_⟩
        intro e w2 h2
        cases e with
        | returned u => exact hput _ _ h2
        | panicked chain => cases hQ _ _ _ h2
        | outgrown => obtain ⟨a1, w1, h3⟩ := h2; cases hQ _ _ _ h3
      case round l f tmps assign body =>
        refine ⟨fun h0 => (by cases h0), RoundIn.mono h.2 ?_⟩
        intro e w2 h2
        cases e with
        | returned u => exact hput _ _ h2
        | panicked chain => cases hQ _ _ _ h2
        | outgrown => obtain ⟨a1, w1, h3⟩ := h2; cases hQ _ _ _ h3
      case row row args => exact ⟨fun h0 => (by cases h0), RowsIn.mono h.2 fun u w2 h2 => hput _ _ h2⟩
      case defer d =>
        have e1 : ({ a.put oi.dst v with defers := d :: (a.put oi.dst v).defers } : Act).put oj.dst undef = (({ a with defers := d :: a.defers } : Act).put oj.dst undef).put oi.dst v := by
          rw [← Act.put_comm _ v undef h2]
          cases hd : oi.dst <;> rfl
        refine hK _ _ ?_ (by rw [← e1]; exact h)
        have hy2 : YieldsOn S P ops oi v { a with defers := d :: a.defers } := hy
        exact hy2.put_ hap hsi undef
    | halt x w' =>
      cases x <;> simp only [Oper.uponIn] at h
      cases hQ _ _ _ h
  · rename_i hw
    rw [if_neg hw] at h
    exact ⟨fun f _ => trivial, hput _ _ h.2⟩
def wpAnyS (ro : Option Nat) (S : World → Prop) (P : Program) (ops : Array Oper) (Q : Exit → Act → World → Prop) : Nat → Array Bool → Act → World → Prop
  | 0, listed, a, w => Region.ready .any ops listed = [] ∧ Q .normal a w
  | fuel + 1, listed, a, w => (Region.ready .any ops listed = [] → Q .normal a w) ∧
    ∀ i ∈ Region.ready .any ops listed, wpOpIn (fR ro) 0 P ops Q i (fun a' w' => S w' ∧ wpAnyS ro S P ops Q fuel (listed.setIfInBounds i true) a' w') a w
theorem wpAnyS_in {S : World → Prop} {P : Program} {ops : Array Oper} {Q : Exit → Act → World → Prop} : ∀ (fuel : Nat) (listed : Array Bool) (a : Act) (w : World), wpAnyS ro S P ops Q fuel listed a w → wpAnyIn (fR ro) 0 P .any ops Q fuel listed a w
  | 0, _, _, _, h => h
  | fuel + 1, listed, a, w, h => ⟨h.1, fun i hi => wpOpIn_mono (fun a' w' hk => wpAnyS_in fuel _ a' w' hk.2) (h.2 i hi)⟩
theorem wpAnyS_first {S : World → Prop} {P : Program} {ops : Array Oper} {Q : Exit → Act → World → Prop} (hQ : ∀ e a w, Q e a w → e = .normal) {i : Nat} {oi : Oper} {v : Value} (hi : ops[i]? = some oi) (hsel : ∀ (j : Nat) (o : Oper) cs b, ops[j]? = some o → o.op ≠ .select cs b) :
    ∀ (fuel : Nat) (listed : Array Bool) (a : Act) (w : World), S w →
      (∀ j oj, ops[j]? = some oj → j ≠ i → listed.getD j true = false → (∀ e ∈ oj.after, Region.binds .any e = true → e.on ≠ i) → oi.apart ops oj = true) →
      i ∈ Region.ready .any ops listed → YieldsOn S P ops oi v a →
      wpAnyS ro S P ops Q fuel (listed.setIfInBounds i true) (a.put oi.dst v) w → wpAnyS ro S P ops Q (fuel + 1) listed a w := by
  intro fuel
  induction fuel with
  | zero =>
    intro listed a w hS _ hr hy H
    refine ⟨fun h => (by rw [h] at hr; cases hr), fun j hj => ?_⟩
    by_cases hji : j = i
    · subst hji; exact hy.wpOp_ hS hi ⟨hS, H⟩
    · have := ready_mono hj hji
      rw [H.1] at this
      cases this
  | succ fuel ih =>
    intro listed a w hS hfree hr hy H
    refine ⟨fun h => (by rw [h] at hr; cases hr), fun j hj => ?_⟩
    by_cases hji : j = i
    · subst hji; exact hy.wpOp_ hS hi ⟨hS, H⟩
    · have h1 := H.2 j (ready_mono hj hji)
      obtain ⟨hjun, oj, hoj, hall⟩ := mem_ready.1 hj
      have hnot : ∀ e ∈ oj.after, Region.binds .any e = true → e.on ≠ i := fun e he hb heq => by
        have h1 := hall e he hb
        have h0 := (mem_ready.1 hr).1
        rw [heq] at h1
        rcases Nat.lt_or_ge i listed.size with h' | h'
        · simp [h'] at h0 h1; rw [h0] at h1; cases h1
        · simp [Array.getElem?_eq_none h'] at h1
      have hfree' : ∀ k ok, ops[k]? = some ok → k ≠ i → (listed.setIfInBounds j true).getD k true = false →
          (∀ e ∈ ok.after, Region.binds .any e = true → e.on ≠ i) → oi.apart ops ok = true := fun k ok hk hki hun hno => by
        refine hfree k ok hk hki ?_ hno
        by_cases hjk : j = k
        · subst hjk; exact hjun
        · rw [getD_set_ne true hjk] at hun; exact hun
      refine wpOn_put hQ hoj (hfree j oj hoj hji hjun hnot) (fun cs b => hsel i oi cs b hi) (fun cs b => hsel j oj cs b hoj) hy (fun a' w' hy' hk => ⟨hk.1, ih _ a' w' hk.1 hfree' (ready_mono hr (Ne.symm hji)) hy' ?_⟩) h1
      rw [Array.setIfInBounds_comm _ _ hji]
      exact hk.2
/-! What an operation yields in every world that holds. -/
def loadN (P : Program) (N : Nat → Prop) (W : World) (v : Value) (t : Option (Option Nat)) (k : Value → Prop) : Prop :=
  match v with
  | .pointer (some a) => (N a.block ∧ a.block < W.heap.size) ∧ stillRes P W (loadR P (.pointer (some a)) t W) k
  | _ => False
def holdOp (P : Program) (N : Nat → Prop) (W : World) (o : Oper) (s : Slots) (k : Value → Prop) : Prop :=
  match o.op with
  | .load ty x => loadN P N W (ev s x) (shapeOf P ty) k
  | _ => pureE (fun w => opR P o s w) k
theorem readCells_held {N : Nat → Prop} {W w : World} (hb : heldE N W w) {a : Addr} (hN : N a.block) (ha : a.block < W.heap.size) : ∀ (n i : Nat), readCells w a i n = readCells W a i n
  | 0, i => rfl
  | n + 1, i => by
    have hc : w.cell? (a.add i) = W.cell? (a.add i) := hb.cell (by unfold Addr.add; split <;> exact hN) (by unfold Addr.add; split <;> exact ha)
    simp only [readCells, hc, readCells_held hb hN ha n (i + 1)]
theorem loadR_held {P : Program} {N : Nat → Prop} {W : World} {a : Addr} (hN : N a.block) (ha : a.block < W.heap.size) {t : Option (Option Nat)} {k : Value → Prop} (h : stillRes P W (loadR P (.pointer (some a)) t W) k) :
    ∃ v, (∀ w, heldE N W w → loadR P (.pointer (some a)) t w = .ok (.value v) w) ∧ k v := by
  unfold loadR at h ⊢
  cases t with
  | none => exact h.elim
  | some t =>
    cases t with
    | none =>
      simp only at h ⊢
      cases hv : W.cell? a with
      | none => rw [hv] at h; exact h.elim
      | some v =>
        rw [hv] at h
        exact ⟨v, fun w hw => by rw [hw.cell hN ha, hv]; rfl, h.2⟩
    | some m =>
      simp only at h ⊢
      cases hv : readCells W a 0 m with
      | none => rw [hv] at h; exact h.elim
      | some v =>
        rw [hv] at h
        exact ⟨_, fun w hw => by rw [readCells_held hw hN ha, hv]; rfl, h.2⟩
theorem holdOp_res {P : Program} {N : Nat → Prop} {W : World} {o : Oper} {s : Slots} {k : Value → Prop} (h : holdOp P N W o s k) : ∃ v, (∀ w, heldE N W w → opR P o s w = .ok (.value v) w) ∧ k v := by
  unfold holdOp at h
  split at h
  · rename_i ty x ho
    unfold loadN at h
    split at h
    · rename_i a he
      obtain ⟨⟨hN, ha⟩, h⟩ := h
      have e : ∀ w, opR P o s w = loadR P (.pointer (some a)) (shapeOf P ty) w := by intro w; unfold opR; simp only [ho, he]
      obtain ⟨v, h1, hk⟩ := loadR_held hN ha h
      exact ⟨v, fun w hw => by rw [e]; exact h1 w hw, hk⟩
    · exact h.elim
  · obtain ⟨v, hv, hk⟩ := h
    exact ⟨v, fun w _ => hv w, hk⟩
def flowRun (P : Program) (N : Nat → Prop) (W : World) (b : Bool) (o : Oper) (s : Slots) (w : World) (k : Value → World → Prop) : Prop :=
  match b with
  | true => holdOp P N W o s (fun v => k v w)
  | false => resE P (opR P o s w) (fun v w' => heldE N W w' ∧ k v w')
def flowG0 (P : Program) (n : Nat) (N : Nat → Prop) (W : World) (b : Bool) (o : Oper) (g : Option (Value × Bool)) (s : Slots) (w : World) (k : Slots → World → Prop) : Prop :=
  match g with
  | none => flowRun P N W b o s w fun v w' => k (put n s o.dst v) w'
  | some (.bool c, want) => if c == want then flowRun P N W b o s w fun v w' => k (put n s o.dst v) w' else k (put n s o.dst undef) w
  | some _ => k (put n s o.dst undef) w
def flowStep (P : Program) (n : Nat) (ops : Array Oper) (N : Nat → Prop) (W : World) (o : Option Oper) (b : Bool) (s : Slots) (w : World) (k : Slots → World → Prop) : Prop :=
  match o with
  | none => False
  | some o => flowG0 P n N W b { o with guard := none } (o.guard.map fun (j, want) => (guardS ops s j, want)) s w k
def flowE (P : Program) (n : Nat) (ops : Array Oper) (N : Nat → Prop) (W : World) (K : Slots → World → Prop) : Tree → Slots → World → Prop
  | .done, s, w => K s w
  | .pure i r, s, w => flowStep P n ops N W ops[i]? true s w (flowE P n ops N W K r)
  | .one i r, s, w => flowStep P n ops N W ops[i]? false s w (flowE P n ops N W K r)
  | .two i r j q, s, w => flowStep P n ops N W ops[i]? false s w (flowE P n ops N W K r) ∧ flowStep P n ops N W ops[j]? false s w (flowE P n ops N W K q)
def flowK (P : Program) (n : Nat) (ops : Array Oper) (N : Nat → Prop) (W : World) (K : Slots → World → Prop) (r : Tree) (s : Slots) (d : Option Tmp) : Kont := fun v w => heldE N W w ∧ flowE P n ops N W K r (put n s d v) w
def flowV (P : Program) (n : Nat) (ops : Array Oper) (N : Nat → Prop) (W : World) (K : Slots → World → Prop) (r : Tree) (s : Slots) (d : Option Tmp) (w : World) : Value → Prop := fun v => flowE P n ops N W K r (put n s d v) w
def flowG (P : Program) (n : Nat) (ops : Array Oper) (N : Nat → Prop) (W : World) (K : Slots → World → Prop) (r : Tree) (b : Bool) (o : Oper) (s : Slots) (w : World) (g : Value) (want : Bool) : Prop := flowG0 P n N W b o (some (g, want)) s w (flowE P n ops N W K r)
def flowO (P : Program) (n : Nat) (ops : Array Oper) (N : Nat → Prop) (W : World) (K : Slots → World → Prop) (o : Option Oper) (b : Bool) (r : Tree) (s : Slots) (w : World) : Prop := flowStep P n ops N W o b s w (flowE P n ops N W K r)
section
variable (P : Program) (n : Nat) (ops : Array Oper) (N : Nat → Prop) (W : World) (K : Slots → World → Prop) (r q : Tree) (s : Slots) (w : World) (i j : Nat) (d : Option Tmp) (o : Oper)
@[go_sem] theorem flowE_done : flowE P n ops N W K .done s w = K s w := propext Iff.rfl
@[go_sem] theorem flowE_pure : flowE P n ops N W K (.pure i r) s w = flowO P n ops N W K ops[i]? true r s w := propext Iff.rfl
@[go_sem] theorem flowE_one : flowE P n ops N W K (.one i r) s w = flowO P n ops N W K ops[i]? false r s w := propext Iff.rfl
@[go_sem] theorem flowE_two : flowE P n ops N W K (.two i r j q) s w = (flowO P n ops N W K ops[i]? false r s w ∧ flowO P n ops N W K ops[j]? false q s w) := propext Iff.rfl
@[go_sem] theorem flowO_hold (op : Op) (ty : TypeId) (pos : String) (after : Array Edge) : flowO P n ops N W K (some ⟨d, op, ty, pos, after, none⟩) true r s w = holdOp P N W ⟨d, op, ty, pos, after, none⟩ s (flowV P n ops N W K r s d w) := propext Iff.rfl
@[go_sem] theorem flowO_loud (op : Op) (ty : TypeId) (pos : String) (after : Array Edge) : flowO P n ops N W K (some ⟨d, op, ty, pos, after, none⟩) false r s w = resE P (opR P ⟨d, op, ty, pos, after, none⟩ s w) (flowK P n ops N W K r s d) := propext Iff.rfl
@[go_sem] theorem flowO_guard (op : Op) (ty : TypeId) (pos : String) (after : Array Edge) (want b : Bool) : flowO P n ops N W K (some ⟨d, op, ty, pos, after, some (j, want)⟩) b r s w = flowG P n ops N W K r b ⟨d, op, ty, pos, after, none⟩ s w (guardS ops s j) want := propext Iff.rfl
@[go_sem] theorem flowG_true : flowG P n ops N W K r true o s w (.bool true) true = holdOp P N W o s (flowV P n ops N W K r s o.dst w) := propext Iff.rfl
@[go_sem] theorem flowG_false : flowG P n ops N W K r true o s w (.bool false) false = holdOp P N W o s (flowV P n ops N W K r s o.dst w) := propext Iff.rfl
@[go_sem] theorem flowG_ltrue : flowG P n ops N W K r false o s w (.bool true) true = resE P (opR P o s w) (flowK P n ops N W K r s o.dst) := propext Iff.rfl
@[go_sem] theorem flowG_lfalse : flowG P n ops N W K r false o s w (.bool false) false = resE P (opR P o s w) (flowK P n ops N W K r s o.dst) := propext Iff.rfl
@[go_sem] theorem flowG_skip1 (b : Bool) : flowG P n ops N W K r b o s w (.bool true) false = flowE P n ops N W K r (put n s o.dst undef) w := propext Iff.rfl
@[go_sem] theorem flowG_skip2 (b : Bool) : flowG P n ops N W K r b o s w (.bool false) true = flowE P n ops N W K r (put n s o.dst undef) w := propext Iff.rfl
@[go_sem] theorem flowG_skip3 (b want : Bool) : flowG P n ops N W K r b o s w undef want = flowE P n ops N W K r (put n s o.dst undef) w := propext Iff.rfl
@[go_sem] theorem flowG_dec (p : Prop) [Decidable p] (b want : Bool) : flowG P n ops N W K r b o s w (.bool (decide p)) want = flowG P n ops N W K r b o s w (.bool (natB (if p then 1 else 0))) want := by
  by_cases h : p <;> simp [h, natB]
@[go_sem] theorem flowG_ndec (p : Prop) [Decidable p] (b want : Bool) : flowG P n ops N W K r b o s w (.bool (!decide p)) want = flowG P n ops N W K r b o s w (.bool (natB (if p then 0 else 1))) want := by
  by_cases h : p <;> simp [h, natB]
@[go_sem] theorem flowK_eq (v : Value) : flowK P n ops N W K r s d v w = (heldE N W w ∧ flowE P n ops N W K r (put n s d v) w) := propext Iff.rfl
@[go_sem] theorem flowV_eq (v : Value) : flowV P n ops N W K r s d w v = flowE P n ops N W K r (put n s d v) w := propext Iff.rfl
@[go_sem] theorem holdOp_load (t : TypeId) (x : Operand) (ty : TypeId) (pos : String) (after : Array Edge) (k : Value → Prop) : holdOp P N W ⟨d, .load t x, ty, pos, after, none⟩ s k = loadN P N W (ev s x) (shapeOf P t) k := propext Iff.rfl
@[go_sem] theorem holdOp_other (op : Op) (ty : TypeId) (pos : String) (after : Array Edge) (k : Value → Prop) (h : isLoad op = false) : holdOp P N W ⟨d, op, ty, pos, after, none⟩ s k = pureE (fun w => opR P ⟨d, op, ty, pos, after, none⟩ s w) k := by
  unfold holdOp; cases op <;> first | rfl | cases h
@[go_sem] theorem loadN_at (a : Addr) (t : Option (Option Nat)) (k : Value → Prop) : loadN P N W (.pointer (some a)) t k = ((N a.block ∧ a.block < W.heap.size) ∧ stillRes P W (loadR P (.pointer (some a)) t W) k) := propext Iff.rfl
end
theorem flowO_congr {P : Program} {n : Nat} {ops : Array Oper} {N : Nat → Prop} {W : World} {K : Slots → World → Prop} {o o' : Option Oper} {b : Bool} {r : Tree} {s : Slots} {w w' : World} (h : o = o') (hw : w = w') : flowO P n ops N W K o b r s w = flowO P n ops N W K o' b r s w' := by rw [h, hw]
theorem flowE_congr {P : Program} {n : Nat} {ops : Array Oper} {N : Nat → Prop} {W : World} {K : Slots → World → Prop} {r : Tree} {s : Slots} {w w' : World} (h : w = w') : flowE P n ops N W K r s w = flowE P n ops N W K r s w' := by rw [h]
theorem flowG_congr {P : Program} {n : Nat} {ops : Array Oper} {N : Nat → Prop} {W : World} {K : Slots → World → Prop} {r : Tree} {b : Bool} {o : Oper} {s : Slots} {w w' : World} {g g' : Value} {want : Bool} (h : g = g') (hw : w = w') : flowG P n ops N W K r b o s w g want = flowG P n ops N W K r b o s w' g' want := by rw [h, hw]
theorem flowK_congr {P : Program} {n : Nat} {ops : Array Oper} {N : Nat → Prop} {W : World} {K : Slots → World → Prop} {r : Tree} {s : Slots} {d : Option Tmp} {v v' : Value} {w w' : World} (h : v = v') (hw : w = w') : flowK P n ops N W K r s d v w = flowK P n ops N W K r s d v' w' := by rw [h, hw]
theorem flowV_congr {P : Program} {n : Nat} {ops : Array Oper} {N : Nat → Prop} {W : World} {K : Slots → World → Prop} {r : Tree} {s : Slots} {d : Option Tmp} {v v' : Value} {w : World} (h : v = v') : flowV P n ops N W K r s d w v = flowV P n ops N W K r s d w v' := by rw [h]
theorem holdOp_congr {P : Program} {N : Nat → Prop} {W : World} {o : Oper} {s : Slots} {k : Value → Prop} : holdOp P N W o s k = holdOp P N W o s k := rfl
theorem loadN_congr {P : Program} {N : Nat → Prop} {W : World} {v v' : Value} {t t' : Option (Option Nat)} {k : Value → Prop} (h : v = v') (ht : t = t') : loadN P N W v t k = loadN P N W v' t' k := by rw [h, ht]
theorem heldE_congr {N : Nat → Prop} {W w w' : World} (h : w = w') : heldE N W w = heldE N W w' := by rw [h]
attribute [congr] flowO_congr flowE_congr flowG_congr flowK_congr flowV_congr holdOp_congr loadN_congr heldE_congr
theorem flowStep_yields {P : Program} {n : Nat} {ops : Array Oper} {N : Nat → Prop} {W : World} {o : Oper} {s : Slots} {w : World} {k : Slots → World → Prop} {a : Act} (hf : Fits n ds s a) (h : flowStep P n ops N W (some o) true s w k) : ∃ v, YieldsOn (heldE N W) P ops o v a ∧ k (put n s o.dst v) w := by
  unfold flowStep at h
  simp only at h
  have run : flowRun P N W true { o with guard := none } s w (fun v w' => k (put n s o.dst v) w') → Region.wanted o (yielded ops a.tmps) = true → ∃ v, YieldsOn (heldE N W) P ops o v a ∧ k (put n s o.dst v) w := by
    intro h hw
    obtain ⟨v, hv, hk⟩ := holdOp_res (show holdOp P N W { o with guard := none } s (fun v => k (put n s o.dst v) w) from h)
    refine ⟨v, .inl ⟨hw, fun w' hw' => ?_⟩, hk⟩
    rw [hf.eval, show execOp (ev s) o = execOp (ev s) { o with guard := none } from rfl]
    exact opR_ends P _ s w' _ _ (hv w' hw')
  cases hg : o.guard with
  | none =>
    simp only [hg, Option.map_none, flowG0] at h
    exact run h (by simp [Region.wanted, hg])
  | some jw =>
    obtain ⟨j, want⟩ := jw
    simp only [hg, Option.map_some] at h
    have hw := yielded_eq hf ops j
    generalize guardS ops s j = g at h hw
    cases g with
    | bool b =>
      simp only [flowG0] at h
      by_cases hb : b = want
      · subst hb
        simp only [BEq.rfl, if_true] at h
        exact run h (by simp [Region.wanted, hg, hw])
      · have e1 : (b == want) = false := by simpa using hb
        simp only [e1, Bool.false_eq_true, if_false] at h
        exact ⟨undef, .inr ⟨by simp [Region.wanted, hg, hw, hb], rfl⟩, h⟩
    | _ => exact ⟨undef, .inr ⟨by simp [Region.wanted, hg, hw], rfl⟩, h⟩
theorem flowStep_runs {P : Program} {n : Nat} {ops : Array Oper} {N : Nat → Prop} {W : World} {o : Oper} {i : Nat} (hi : ops[i]? = some o) {s : Slots} {w : World} (hw : heldE N W w) {k : Slots → World → Prop} {a : Act} (hf : Fits n ds s a) (h : flowStep P n ops N W (some o) false s w k) {K : Act → World → Prop} {Q : Exit → Act → World → Prop}
    (hK : ∀ s' w' a', Fits n ds s' a' → heldE N W w' → k s' w' → K a' w') : wpOpIn (fR ro) 0 P ops Q i K a w := by
  unfold flowStep at h
  simp only at h
  unfold wpOpIn
  simp only [hi]
  have run : flowRun P N W false { o with guard := none } s w (fun v w' => k (put n s o.dst v) w') → o.wpIn (fR ro) 0 P a w K Q := by
    intro hr
    exact wpIn_of_resE (by rw [hf.eval, show execOp (ev s) o = execOp (ev s) { o with guard := none } from rfl]; exact resE_ends (opR_ends P _ s w) hr) (k := fun v w' => heldE N W w' ∧ k (put n s o.dst v) w') (fun v w' hk => hK _ _ _ (hf.put _ _) hk.1 hk.2)
  cases hg : o.guard with
  | none =>
    simp only [hg, Option.map_none, flowG0] at h
    rw [if_pos (by simp [Region.wanted, hg])]
    exact run h
  | some jw =>
    obtain ⟨j, want⟩ := jw
    simp only [hg, Option.map_some] at h
    have hy := yielded_eq hf ops j
    generalize guardS ops s j = g at h hy
    cases g with
    | bool b =>
      simp only [flowG0] at h
      by_cases hb : b = want
      · subst hb
        simp only [BEq.rfl, if_true] at h
        rw [if_pos (by simp [Region.wanted, hg, hy])]
        exact run h
      · have e1 : (b == want) = false := by simpa using hb
        simp only [e1, Bool.false_eq_true, if_false] at h
        rw [if_neg (by simp [Region.wanted, hg, hy, hb])]
        exact ⟨fun f _ => trivial, hK _ _ _ (hf.put _ _) hw h⟩
    | _ =>
      rw [if_neg (by simp [Region.wanted, hg, hy])]
      exact ⟨fun f _ => trivial, hK _ _ _ (hf.put _ _) hw h⟩
theorem flowE_sound {P : Program} {n : Nat} {ops : Array Oper} {N : Nat → Prop} {W : World} {K : Slots → World → Prop} {Q : Exit → Act → World → Prop} (hQ : ∀ e a w, Q e a w → e = .normal) (hK : ∀ s w a, Fits n ds s a → K s w → Q .normal a w) (hs : Region.noSelect ops = true) :
    ∀ (t : Tree) (f : Nat) (listed : Array Bool) (s : Slots) (w : World) (a : Act), heldE N W w → Fits n ds s a → treeB ops t f listed = true → flowE P n ops N W K t s w → wpAnyS ro (heldE N W) P ops Q f listed a w := by
  intro t
  induction t with
  | done =>
    intro f listed s w a hw hf hB h
    simp only [treeB, Bool.and_eq_true, beq_iff_eq] at hB
    obtain ⟨rfl, hB⟩ := hB
    exact ⟨by simpa using hB, hK s w a hf h⟩
  | pure i r ih =>
    intro f listed s w a hw hf hB h
    cases f with
    | zero => simp [treeB] at hB
    | succ f =>
      simp only [treeB, Bool.and_eq_true] at hB
      unfold flowE at h
      cases hi : ops[i]? with
      | none => simp only [hi] at h; exact h.elim
      | some o =>
        simp only [hi] at h
        obtain ⟨v, hv, hk⟩ := flowStep_yields hf h
        exact wpAnyS_first hQ hi (Region.noSelect_spec hs) f listed a w hw (Region.free_spec hi hB.1.2) (by simpa using hB.1.1) hv (ih _ _ _ _ _ hw (hf.put _ _) hB.2 hk)
  | one i r ih =>
    intro f listed s w a hw hf hB h
    cases f with
    | zero => simp [treeB] at hB
    | succ f =>
      simp only [treeB, Bool.and_eq_true, beq_iff_eq] at hB
      unfold flowE at h
      refine ⟨fun h0 => (by rw [hB.1] at h0; cases h0), fun j hj => ?_⟩
      rw [hB.1] at hj
      obtain rfl : j = i := by simpa using hj
      cases hi : ops[j]? with
      | none => simp only [hi] at h; exact h.elim
      | some o =>
        simp only [hi] at h
        exact flowStep_runs hi hw hf h fun s' w' a' hf' hw' hk => ⟨hw', ih _ _ _ _ _ hw' hf' hB.2 hk⟩
  | two i r j q ih1 ih2 =>
    intro f listed s w a hw hf hB h
    cases f with
    | zero => simp [treeB] at hB
    | succ f =>
      simp only [treeB, Bool.and_eq_true, beq_iff_eq] at hB
      unfold flowE at h
      refine ⟨fun h0 => (by rw [hB.1.1] at h0; cases h0), fun x hx => ?_⟩
      rw [hB.1.1] at hx
      rcases (by simpa using hx : x = i ∨ x = j) with rfl | rfl
      · cases hi : ops[x]? with
        | none => simp only [hi] at h; exact h.1.elim
        | some o =>
          simp only [hi] at h
          exact flowStep_runs hi hw hf h.1 fun s' w' a' hf' hw' hk => ⟨hw', ih1 _ _ _ _ _ hw' hf' hB.1.2 hk⟩
      · cases hi : ops[x]? with
        | none => simp only [hi] at h; exact h.2.elim
        | some o =>
          simp only [hi] at h
          exact flowStep_runs hi hw hf h.2 fun s' w' a' hf' hw' hk => ⟨hw', ih2 _ _ _ _ _ hw' hf' hB.2 hk⟩
theorem W_flow {P : Program} {n id : Nat} {l : List Oper} {s : Slots} {w : World} {Q : Exit → Slots → World → Prop} (N : Nat → Prop) (t : Tree) (hm : P.follows .mixedOrders = true) (hB : (Region.noSelect l.toArray && treeB l.toArray t l.length (Array.replicate l.length false)) = true)
    (h : flowE P n l.toArray N w.drew (Q .normal) t s w.drew) : W P n (.region id l.toArray true) s w Q := by
  simp only [Bool.and_eq_true] at hB
  intro ro ds a hf
  have h1 : (Code.region id l.toArray true).wpIn (fR ro) 0 P (fun e a' w' => e = .normal ∧ ∃ s', Fits n ds s' a' ∧ Q .normal s' w') a w := by
    refine wpIn_region_any hm ?_
    have h2 := wpAnyS_in _ _ _ _ (flowE_sound (ro := ro) (Q := fun e a' w' => e = .normal ∧ ∃ s', Fits n ds s' a' ∧ Q .normal s' w') (fun e a w h => h.1) (fun s' w' a' hf' hk => ⟨rfl, s', hf', hk⟩) hB.1 t l.length _ s w.drew a (held_refl _ _) hf hB.2 h)
    simpa using h2
  exact wpIn_mono h1 fun e a' w' ⟨he, s', hf', hq⟩ => by subst he; exact ⟨s', hf', hq⟩
end Go.Proofs.YtmcbcoafodmbjaaGreatDoor
namespace Go.Proofs.YtmcbcoafodmbjaaGreatDoor
open Go.RowKit
set_option linter.unusedVariables false
theorem row_keeps {O : Nat → Prop} {a b : World} {base e size n : Nat} {v : Value} {xs : List Value} (h : a.ownsRow base e size v n xs) (hk : Keeps O a b) (hv : ∀ j, v.ownBlock = some j → O j) : b.ownsRow base e size v n xs := by
  refine ⟨h.1, ?_⟩
  rcases h.2 with hn | ⟨g, cap, cur, rfl, hb, hg, rest⟩
  · exact .inl hn
  · exact .inr ⟨g, cap, cur, rfl, hb, (hk.block g (Array.getElem?_eq_some_iff.1 hg).1 (hv g rfl)).trans hg, rest⟩
theorem row_below {a b : World} {base e size n : Nat} {v : Value} {xs : List Value} (h : a.ownsRow base e size v n xs) (hk : Below a.heap.size a b) : b.ownsRow base e size v n xs := row_keeps h (Keeps.of_ext (O := fun _ => True) hk) fun _ _ => trivial
theorem row_ne {w : World} {B e size n g : Nat} {v : Value} {xs : List Value} {t : TypeId} {cs : Array Value} (h : w.ownsRow B e size v n xs) (hg : Blk w g t cs) (hne : e ≠ t) : v.ownBlock ≠ some g := by
  rcases h.2 with ⟨rfl, _⟩ | ⟨k, cap, cur, rfl, _, hk, _⟩
  · simp [Value.ownBlock]
  · intro h2
    simp only [Value.ownBlock, Option.some.injEq] at h2
    subst h2
    unfold Blk at hg
    rw [hg] at hk
    injection hk with hk
    injection hk with _ h3 _
    exact hne h3.symm
theorem Sl_on {w w' : World} {size n : Nat} {v : Value} {xs : List Value} (h : Sl w size v n xs) (hb : Below w.heap.size w w') : Sl w' size v n xs := by
  obtain ⟨A, c, h1, h2, h3⟩ := h
  exact ⟨A, c, h1, h2.keep hb, h3⟩
end Go.Proofs.YtmcbcoafodmbjaaGreatDoor
