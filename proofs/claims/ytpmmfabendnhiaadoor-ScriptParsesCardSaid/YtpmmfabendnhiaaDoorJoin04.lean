/-
  Texts joined: Range.
-/
import Derived.Test.YtpmmfabendnhiaaDoorJoin03
namespace Go.Proofs.YtpmmfabendnhiaaDoor
open Go.RowKit
set_option linter.unusedVariables false
set_option linter.unusedSimpArgs false
/-- What a world has in O's blocks, the other has too; beside that there may be new blocks. -/
structure Keeps (O : Nat → Prop) (w w' : World) : Prop where
  os : w'.os = w.os
  tape : w'.tape = w.tape
  output : w'.output = w.output
  size : w.heap.size ≤ w'.heap.size
  block : ∀ k, k < w.heap.size → O k → w'.heap[k]? = w.heap[k]?
section
variable {O O' : Nat → Prop} {a b c w w' : World}
theorem Keeps.refl (O : Nat → Prop) (w : World) : Keeps O w w := ⟨rfl, rfl, rfl, Nat.le_refl _, fun _ _ _ => rfl⟩
theorem Keeps.trans (h : Keeps O a b) (k : Keeps O b c) : Keeps O a c :=
  ⟨k.os.trans h.os, k.tape.trans h.tape, k.output.trans h.output, Nat.le_trans h.size k.size, fun i hi ho => (k.block i (Nat.lt_of_lt_of_le hi h.size) ho).trans (h.block i hi ho)⟩
theorem Keeps.mono (h : Keeps O a b) (ho : ∀ k, k < a.heap.size → O' k → O k) : Keeps O' a b := ⟨h.os, h.tape, h.output, h.size, fun k hk hk' => h.block k hk (ho k hk hk')⟩
theorem Keeps.of_below {B : Nat} (h : Below B a b) (ho : ∀ k, k < a.heap.size → O k → k < B) : Keeps O a b := ⟨h.os, h.tape, h.output, h.size, fun k hk hk' => h.block k (ho k hk hk')⟩
theorem Keeps.of_ext (h : Below a.heap.size a b) : Keeps O a b := .of_below h fun k hk _ => hk
theorem Keeps.below {B : Nat} (h : Keeps O a b) (hB : B ≤ a.heap.size) (ho : ∀ k, k < B → O k) : Below B a b := ⟨h.os, h.tape, h.output, h.size, fun k hk => h.block k (Nat.lt_of_lt_of_le hk hB) (ho k hk)⟩
theorem Keeps.alloc (O : Nat → Prop) (w : World) (o : Obj) : Keeps O w (w.alloc o) := .of_ext (ext_alloc w o)
theorem Keeps.drew (O : Nat → Prop) (w : World) : Keeps O w w.drew := .of_ext (ext_drew w)
theorem Keeps.setCell (w : World) (p : Addr) (v : Value) (h : ¬ O p.block) : Keeps O w (w.setCell p v) :=
  ⟨rfl, rfl, rfl, by rw [sz_set]; exact Nat.le_refl _, fun k hk ho => Below.heap_setCell w p v k fun e => h (e ▸ ho)⟩
theorem Keeps.setRow (w : World) (g : Nat) (cs : Array Value) (h : ¬ O g) : Keeps O w (w.setRow g cs) :=
  ⟨rfl, rfl, rfl, by simp [World.setRow], fun k hk ho => setRow_other w g k cs fun e => h (e ▸ ho)⟩
theorem Keeps.putObj (w : World) (l : Nat) (o : Obj) (h : ¬ O l) : Keeps O w (w.putObj l o) :=
  ⟨rfl, rfl, rfl, by simp, fun k hk ho => World.putObj_heap_other fun e => h (e ▸ ho)⟩
theorem Keeps.grown {row : Option Nat} (hg : w.grownBy w' row) (h : ∀ k, row = some k → ¬ O k) : Keeps O w w' :=
  ⟨hg.os, hg.tape, hg.output, hg.size, fun k hk ho => hg.block k hk fun e => h k e.symm ho⟩
theorem Keeps.blk (h : Keeps O a b) {g : Nat} {t : TypeId} {cs : Array Value} (hb : Blk a g t cs) (hg : O g) : Blk b g t cs := (h.block g hb.lt hg).trans hb
theorem Keeps.cell (h : Keeps O a b) {p : Addr} (hb : p.block < a.heap.size) (hg : O p.block) : b.cell? p = a.cell? p := World.cell?_of_block (w := a) (h.block p.block hb hg)
theorem Keeps.rd (h : Keeps O a b) {size n : Nat} {A : Option Addr} {xs : List Value} (hr : Rd a size A n xs) (hg : ∀ g o, A = some ⟨g, o, none⟩ → O g) : Rd b size A n xs :=
  ⟨hr.len, fun hn => by
    obtain ⟨g, o, e, hlt, hc⟩ := hr.cells hn
    exact ⟨g, o, e, Nat.lt_of_lt_of_le hlt h.size, fun j u hu => (h.cell (p := ⟨g, o + j, none⟩) hlt (hg g o e)).trans (hc j u hu)⟩⟩
end
/-- A record put: it and what lies elsewhere are apart. -/
theorem putObj_alloc {w : World} {l : Nat} {o o' : Obj} (h : l < w.heap.size) : (w.alloc o).putObj l o' = (w.putObj l o').alloc o := by
  unfold World.putObj World.alloc
  congr 1
  apply Array.ext_getElem?
  intro k
  simp only [Array.getElem?_push, Array.getElem?_setIfInBounds, Array.size_setIfInBounds, Array.size_push]
  by_cases h1 : l = k
  · subst h1; simp [h, Nat.lt_succ_of_lt h, Nat.ne_of_lt h]
  · simp [h1]
theorem putObj_setCell {w : World} {l b i : Nat} {o : Obj} {v : Value} (h : b ≠ l) : (w.setCell ⟨b, i, none⟩ v).putObj l o = (w.putObj l o).setCell ⟨b, i, none⟩ v := by
  unfold World.putObj World.setCell
  congr 1
  apply Array.ext_getElem?
  intro k
  simp only [Array.getElem?_modify, Array.getElem?_setIfInBounds, Array.size_modify]
  by_cases h1 : l = k
  · subst h1; rw [if_pos rfl, if_neg h, if_pos rfl]
  · rw [if_neg h1, if_neg h1]
theorem putObj_drew {w : World} {l : Nat} {o : Obj} : w.drew.putObj l o = (w.putObj l o).drew := rfl
theorem putObj_alloc_new {w : World} {l : Nat} {o o' : Obj} (h : l = w.heap.size) : (w.alloc o).putObj l o' = w.alloc o' := by
  subst h
  unfold World.putObj World.alloc
  congr 1
  apply Array.ext_getElem?
  intro k
  simp only [Array.getElem?_push, Array.getElem?_setIfInBounds, Array.size_push]
  by_cases h1 : k = w.heap.size
  · subst h1; simp
  · rw [if_neg (fun e => h1 e.symm), if_neg h1, if_neg h1]
/-- A round's body turns the blocks that are its own, and new ones, which it may make its own. -/
def Mine (O O' : Nat → Prop) (a b : World) : Prop := (∀ j, O' j → O j ∨ a.heap.size ≤ j) ∧ (∀ j, O' j → j < b.heap.size) ∧ Keeps (fun j => ¬ O j) a b
theorem Mine.same {O : Nat → Prop} {a b : World} (h : Keeps (fun j => ¬ O j) a b) (hO : ∀ j, O j → j < a.heap.size) : Mine O O a b := ⟨fun j h => .inl h, fun j hj => Nat.lt_of_lt_of_le (hO j hj) h.size, h⟩
theorem Mine.before {O O' : Nat → Prop} {a a' b : World} (h : Mine O O' a' b) (hk : Keeps (fun j => ¬ O j) a a') : Mine O O' a b :=
  ⟨fun j hj => (h.1 j hj).imp id fun h => Nat.le_trans hk.size h, h.2.1, hk.trans h.2.2⟩
theorem Mine.after {O O' : Nat → Prop} {a b b' : World} (h : Mine O O' a b) (hk : Keeps (fun j => ¬ O j) b b') : Mine O O' a b' :=
  ⟨h.1, fun j hj => Nat.lt_of_lt_of_le (h.2.1 j hj) hk.size, h.2.2.trans hk⟩
/-- yield called. -/
def yieldE (P : Program) (l : Nat) (args : Array Value) (w : World) (k : Kont) : Prop := resE P ((Instr.yield l args).run P w) k
@[go_sem] theorem resE_yield (P : Program) (l : Nat) (args : Array Value) (w : World) (k : Kont) : resE P ((Instr.yield l args).run P w) k = yieldE P l args w k := propext Iff.rfl
theorem yieldE_congr {P : Program} {l : Nat} {args args' : Array Value} {w w' : World} {k : Kont} (h : args = args') (hw : w = w') : yieldE P l args w k = yieldE P l args' w' k := by rw [h, hw]
attribute [congr] yieldE_congr
theorem resE_mono {P : Program} {r : Result Next} {k k' : Kont} (h : resE P r k) (hk : ∀ v w, k v w → k' v w) : resE P r k' := by
  cases r with
  | halt x w => exact h.elim
  | ok x w =>
    cases x with
    | value v => exact hk _ _ h
    | skip => exact hk _ _ h
    | enter f args => exact callE_of h hk
    | round l f tmps assign body => exact RoundIn.mono h fun e y ⟨v, he, hr⟩ => ⟨v, he, hk _ _ hr⟩
    | _ => exact h.elim
theorem yieldE_of {P : Program} {l : Nat} {args : Array Value} {w : World} {k k' : Kont} (h : yieldE P l args w k) (hk : ∀ v w, k v w → k' v w) : yieldE P l args w k' := resE_mono h hk
/-- What a function that is ranged over promises: it hands to yield the elements of one of the lists of S, one after another, till yield says no; it leaves alone what is not its own. It leans on the blocks of N. -/
def Seq (P : Program) {α : Type} (gf : FuncId) (lb : Array Value) (enc : α → Array Value) (S : List α → Prop) (N : Nat → Prop) (w : World) : Prop :=
  ∀ (l : Nat) (W : World) (O₀ : Nat → Prop) (J Jx : List α → (Nat → Prop) → World → Prop),
    Keeps N w W → (∀ j, N j → j < w.heap.size ∧ ¬ O₀ j) →
    (∀ pre O a b, J pre O a → Keeps (fun j => O j ∨ j < W.heap.size) a b → J pre O b) →
    (∀ pre O a b, Jx pre O a → Keeps (fun j => O j ∨ j < W.heap.size) a b → Jx pre O b) →
    (∀ pre x O a, (∃ xs, S xs ∧ (pre ++ [x]) <+: xs) → J pre O a → W.heap.size ≤ a.heap.size → (∀ j, O j → j < a.heap.size) → (∀ j, j < W.heap.size → O j → O₀ j) →
      yieldE P l (enc x) a fun v b => ∃ O', Mine O O' a b ∧ ((v = .bool true ∧ J (pre ++ [x]) O' b) ∨ (v = .bool false ∧ Jx (pre ++ [x]) O' b))) →
    J [] O₀ W → (∀ j, O₀ j → j < W.heap.size) →
    callE P gf (#[.func (.yield l) #[] #[]] ++ lb) W fun v b => ∃ O pre xs, S xs ∧ pre <+: xs ∧ W.heap.size ≤ b.heap.size ∧ ((pre = xs ∧ J pre O b) ∨ Jx pre O b)
theorem Seq.keep {P : Program} {α : Type} {gf : FuncId} {lb : Array Value} {enc : α → Array Value} {S : List α → Prop} {N : Nat → Prop} {w w' : World} (h : Seq P gf lb enc S N w) (hk : Keeps N w w') (hN : ∀ j, N j → j < w.heap.size) : Seq P gf lb enc S N w' := by
  intro l W O₀ J Jx h1 h2 h3 h4 h5 h6 h7
  exact h l W O₀ J Jx (hk.trans h1) (fun j hj => ⟨hN j hj, (h2 j hj).2⟩) h3 h4 h5 h6 h7
theorem Seq.more {P : Program} {α : Type} {gf : FuncId} {lb : Array Value} {enc : α → Array Value} {S : List α → Prop} {N N' : Nat → Prop} {w : World} (h : Seq P gf lb enc S N w) (hN : ∀ j, N j → N' j) : Seq P gf lb enc S N' w := by
  intro l W O₀ J Jx h1 h2 h3 h4 h5 h6 h7
  exact h l W O₀ J Jx (h1.mono fun j _ => hN j) (fun j hj => h2 j (hN j hj)) h3 h4 h5 h6 h7
/-! ### Code with such a loop: the marks of the frame beside the slots -/
def markOf (D : Nat) : Deferred := { target := .collected D, args := #[] }
abbrev Post := Exit → Slots → List Nat → World → Prop
def WM (P : Program) (n : Nat) (c : Code) (s : Slots) (ms : List Nat) (w : World) (Q : Post) : Prop :=
  ∀ a, Fits n (ms.map markOf) s a → c.wpIn (fR none) 0 P (fun e a' w' => ∃ s' ms', Fits n (ms'.map markOf) s' a' ∧ Q e s' ms' w') a w
theorem WM_of {P : Program} {n : Nat} {c : Code} {s : Slots} {ms : List Nat} {w : World} {Q : Post} (h : W P n c s w fun e s w => Q e s ms w) : WM P n c s ms w Q := by
  intro a hf
  exact wpIn_mono (h none _ a hf) fun e a' w' ⟨s', hf', hq⟩ => ⟨s', ms, hf', hq⟩
def thenM' (k : Slots → List Nat → World → Prop) (Q : Post) : Post
  | .normal, s, ms, w => k s ms w
  | e, s, ms, w => Q e s ms w
def blockM (id : Nat) (Q : Post) : Post
  | .exit i, s, ms, w => if i = id then Q .normal s ms w else Q (.exit i) s ms w
  | e, s, ms, w => Q e s ms w
def scopeM (Q : Post) : Post
  | .goto _, _, _, _ => False
  | e, s, ms, w => Q e s ms w
def normM (Q : Post) (ms : List Nat) : Slots → World → Prop := fun s w => Q .normal s ms w
def EM (P : Program) (n : Nat) : Code → Slots → List Nat → World → Post → Prop
  | .skip, s, ms, w, Q => Q .normal s ms w
  | .label _, s, ms, w, Q => Q .normal s ms w
  | .seq a b, s, ms, w, Q => EM P n a s ms w (thenM' (fun s ms w => EM P n b s ms w Q) Q)
  | .cond c x y, s, ms, w, Q => condE (ev s c) (EM P n x s ms w Q) (EM P n y s ms w Q)
  | .block id c, s, ms, w, Q => EM P n c s ms w (blockM id Q)
  | .exit id, s, ms, w, Q => Q (.exit id) s ms w
  | .ret, s, ms, w, Q => Q .ret s ms w
  | .scope c, s, ms, w, Q => EM P n c s ms w (scopeM Q)
  | .region _ ops false, s, ms, w, Q => opsE P n ops (normM Q ms) ops.toList s w
  | c, s, ms, w, Q => WM P n c s ms w Q
theorem EM_sound {P : Program} {n : Nat} : ∀ (c : Code) (s : Slots) (ms : List Nat) (w : World) (Q : Post), EM P n c s ms w Q → WM P n c s ms w Q := by
  intro c
  induction c with
  | skip => intro s ms w Q h a hf; exact wpIn_skip ⟨s, ms, hf, h⟩
  | label l => intro s ms w Q h a hf; exact wpIn_label ⟨s, ms, hf, h⟩
  | seq x y ihx ihy =>
    intro s ms w Q h a hf
    refine wpIn_seq (wpIn_mono (ihx _ _ _ _ h a hf) ?_)
    rintro e a' w' ⟨s', ms', hf', hq⟩
    cases e with
    | normal => exact ihy _ _ _ _ hq a' hf'
    | _ => exact ⟨s', ms', hf', hq⟩
  | cond c x y ihx ihy =>
    intro s ms w Q h a hf
    rcases h with ⟨hc, h⟩ | ⟨hc, h⟩
    · exact wpIn_cond_true (by rw [hf.eval]; exact hc) (ihx _ _ _ _ h a hf)
    · exact wpIn_cond_false (by rw [hf.eval]; exact hc) (ihy _ _ _ _ h a hf)
  | block id c ih =>
    intro s ms w Q h a hf
    refine wpIn_block (wpIn_mono (ih _ _ _ _ h a hf) ?_)
    rintro e a' w' ⟨s', ms', hf', hq⟩
    cases e with
    | exit i =>
      simp only [blockM] at hq
      simp only [Exit.inBlock]
      split
      · rename_i e1; rw [if_pos e1] at hq; exact ⟨s', ms', hf', hq⟩
      · rename_i e1; rw [if_neg e1] at hq; exact ⟨s', ms', hf', hq⟩
    | _ => exact ⟨s', ms', hf', hq⟩
  | exit id => intro s ms w Q h a hf; exact wpIn_exit ⟨s, ms, hf, h⟩
  | ret => intro s ms w Q h a hf; exact wpIn_ret ⟨s, ms, hf, h⟩
  | region id ops draw =>
    intro s ms w Q h
    cases draw with
    | true => exact h
    | false =>
      intro a hf
      exact wpIn_region_list (opsE_sound (fun s' w' a' hf' hk => ⟨s', ms, hf', hk⟩) _ _ _ _ hf h)
  | loop c ih => intro s ms w Q h; exact h
  | rangeFunc f p x y ihx ihy => intro s ms w Q h; exact h
  | goto l => intro s ms w Q h; exact h
  | scope c ih =>
    intro s ms w Q h a hf
    refine wpIn_scope (wpIn_mono (ih _ _ _ _ h a hf) ?_)
    rintro e a' w' ⟨s', ms', hf', hq⟩
    cases e with
    | goto l => exact hq.elim
    | _ => exact ⟨(fun l h => by cases h), s', ms', hf', hq⟩
  | refuse y => intro s ms w Q h; exact h
def thenM (P : Program) (n : Nat) (b : Code) (Q : Post) : Post := thenM' (fun s ms w => EM P n b s ms w Q) Q
def condM (P : Program) (n : Nat) (v : Value) (x y : Code) (s : Slots) (ms : List Nat) (w : World) (Q : Post) : Prop := condE v (EM P n x s ms w Q) (EM P n y s ms w Q)
def condMN (P : Program) (n : Nat) (i : Nat) (x y : Code) (s : Slots) (ms : List Nat) (w : World) (Q : Post) : Prop := if i = 0 then EM P n y s ms w Q else EM P n x s ms w Q
section
variable (P : Program) (n : Nat) (s : Slots) (ms : List Nat) (w : World) (Q : Post)
@[go_sem] theorem EM_skip : EM P n .skip s ms w Q = Q .normal s ms w := propext Iff.rfl
@[go_sem] theorem EM_label (l : Nat) : EM P n (.label l) s ms w Q = Q .normal s ms w := propext Iff.rfl
@[go_sem] theorem EM_seq (a b : Code) : EM P n (.seq a b) s ms w Q = EM P n a s ms w (thenM P n b Q) := propext Iff.rfl
@[go_sem] theorem EM_cond (c : Operand) (x y : Code) : EM P n (.cond c x y) s ms w Q = condM P n (ev s c) x y s ms w Q := propext Iff.rfl
@[go_sem] theorem EM_block (id : Nat) (c : Code) : EM P n (.block id c) s ms w Q = EM P n c s ms w (blockM id Q) := propext Iff.rfl
@[go_sem] theorem EM_scope (c : Code) : EM P n (.scope c) s ms w Q = EM P n c s ms w (scopeM Q) := propext Iff.rfl
@[go_sem] theorem scopeM_normal : scopeM Q .normal s ms w = Q .normal s ms w := propext Iff.rfl
@[go_sem] theorem scopeM_ret : scopeM Q .ret s ms w = Q .ret s ms w := propext Iff.rfl
@[go_sem] theorem scopeM_exit (i : Nat) : scopeM Q (.exit i) s ms w = Q (.exit i) s ms w := propext Iff.rfl
@[go_sem] theorem EM_exit (id : Nat) : EM P n (.exit id) s ms w Q = Q (.exit id) s ms w := propext Iff.rfl
@[go_sem] theorem EM_ret : EM P n .ret s ms w Q = Q .ret s ms w := propext Iff.rfl
@[go_sem] theorem EM_region (id : Nat) (l : List Oper) : EM P n (.region id l.toArray false) s ms w Q = opsE P n l.toArray (normM Q ms) l s w := propext Iff.rfl
@[go_sem] theorem EM_draw (id : Nat) (ops : Array Oper) : EM P n (.region id ops true) s ms w Q = WM P n (.region id ops true) s ms w Q := propext Iff.rfl
@[go_sem] theorem EM_loop (c : Code) : EM P n (.loop c) s ms w Q = WM P n (.loop c) s ms w Q := propext Iff.rfl
@[go_sem] theorem EM_rangeFunc (f : Operand) (p : Array Tmp) (x y : Code) : EM P n (.rangeFunc f p x y) s ms w Q = WM P n (.rangeFunc f p x y) s ms w Q := propext Iff.rfl
@[go_sem] theorem normM_eq : normM Q ms s w = Q .normal s ms w := propext Iff.rfl
@[go_sem] theorem thenM_normal (b : Code) : thenM P n b Q .normal s ms w = EM P n b s ms w Q := propext Iff.rfl
@[go_sem] theorem thenM_exit (b : Code) (i : Nat) : thenM P n b Q (.exit i) s ms w = Q (.exit i) s ms w := propext Iff.rfl
@[go_sem] theorem thenM_ret (b : Code) : thenM P n b Q .ret s ms w = Q .ret s ms w := propext Iff.rfl
@[go_sem] theorem thenM_goto (b : Code) (i : Nat) : thenM P n b Q (.goto i) s ms w = Q (.goto i) s ms w := propext Iff.rfl
@[go_sem] theorem blockM_normal (id : Nat) : blockM id Q .normal s ms w = Q .normal s ms w := propext Iff.rfl
@[go_sem] theorem blockM_ret (id : Nat) : blockM id Q .ret s ms w = Q .ret s ms w := propext Iff.rfl
@[go_sem] theorem blockM_goto (id i : Nat) : blockM id Q (.goto i) s ms w = Q (.goto i) s ms w := propext Iff.rfl
@[go_sem] theorem blockM_hit (id : Nat) : blockM id Q (.exit id) s ms w = Q .normal s ms w := by simp [blockM]
@[go_sem] theorem blockM_miss (id i : Nat) (h : i ≠ id) : blockM id Q (.exit i) s ms w = Q (.exit i) s ms w := by simp [blockM, h]
@[go_sem] theorem condM_true (x y : Code) : condM P n (.bool true) x y s ms w Q = EM P n x s ms w Q := by simp [condM, condE]
@[go_sem] theorem condM_false (x y : Code) : condM P n (.bool false) x y s ms w Q = EM P n y s ms w Q := by simp [condM, condE]
@[go_sem] theorem condM_dec (p : Prop) [Decidable p] (x y : Code) : condM P n (.bool (decide p)) x y s ms w Q = condMN P n (if p then 1 else 0) x y s ms w Q := by
  by_cases h : p
  · rw [decide_eq_true h, condM_true, if_pos h]; simp [condMN]
  · rw [decide_eq_false h, condM_false, if_neg h]; simp [condMN]
@[go_sem] theorem condM_ndec (p : Prop) [Decidable p] (x y : Code) : condM P n (.bool (!decide p)) x y s ms w Q = condMN P n (if p then 0 else 1) x y s ms w Q := by
  by_cases h : p
  · rw [decide_eq_true h, Bool.not_true, condM_false, if_pos h]; simp [condMN]
  · rw [decide_eq_false h, Bool.not_false, condM_true, if_neg h]; simp [condMN]
@[go_sem] theorem condMN_one (x y : Code) : condMN P n 1 x y s ms w Q = EM P n x s ms w Q := by simp [condMN]
@[go_sem] theorem condMN_zero (x y : Code) : condMN P n 0 x y s ms w Q = EM P n y s ms w Q := by simp [condMN]
end
section
variable {P : Program} {n : Nat} {s : Slots} {ms : List Nat} {w w' : World} {Q : Post}
theorem EM_congr {c : Code} (h : w = w') : EM P n c s ms w Q = EM P n c s ms w' Q := by rw [h]
theorem WM_congr {c : Code} (h : w = w') : WM P n c s ms w Q = WM P n c s ms w' Q := by rw [h]
theorem condM_congr {v v' : Value} {x y : Code} (h : v = v') : condM P n v x y s ms w Q = condM P n v' x y s ms w Q := by rw [h]
theorem condMN_congr {i i' : Nat} {x y : Code} (h : i = i') : condMN P n i x y s ms w Q = condMN P n i' x y s ms w Q := by rw [h]
theorem thenM_congr {b : Code} {e : Exit} (h : w = w') : thenM P n b Q e s ms w = thenM P n b Q e s ms w' := by rw [h]
theorem scopeM_congr {e : Exit} (h : w = w') : scopeM Q e s ms w = scopeM Q e s ms w' := by rw [h]
theorem blockM_congr {i : Nat} {e : Exit} (h : w = w') : blockM i Q e s ms w = blockM i Q e s ms w' := by rw [h]
theorem normM_congr (h : w = w') : normM Q ms s w = normM Q ms s w' := by rw [h]
end
attribute [congr] EM_congr WM_congr condM_congr condMN_congr thenM_congr blockM_congr scopeM_congr normM_congr
/-! A function that holds such loops: at its end the marks are taken off. -/
def leaveE (rs : Array ResultVar) (P : Program) (s : Slots) [b : Box Kont] : List Nat → World → Prop
  | [], w => endE (resO P s w rs.toList) w
  | D :: r, w => w.heap[D]? = some (.deferred (some [])) ∧ leaveE rs P s r (w.putObj D (.deferred none))
def postM (P : Program) (rs : Array ResultVar) [b : Box Kont] : Post
  | .normal, s, ms, w | .ret, s, ms, w => leaveE rs P s ms w
  | _, _, _, _ => False
section
variable (P : Program) (rs : Array ResultVar) (b : Box Kont) (s : Slots) (ms : List Nat) (w : World) (D : Nat)
@[go_sem] theorem postM_normal : @postM P rs b .normal s ms w = @leaveE rs P s b ms w := propext Iff.rfl
@[go_sem] theorem postM_ret : @postM P rs b .ret s ms w = @leaveE rs P s b ms w := propext Iff.rfl
@[go_sem] theorem leaveE_nil : @leaveE rs P s b [] w = @endE b (resO P s w rs.toList) w := propext Iff.rfl
@[go_sem] theorem leaveE_cons : @leaveE rs P s b (D :: ms) w = (w.heap[D]? = some (.deferred (some [])) ∧ @leaveE rs P s b ms (w.putObj D (.deferred none))) := propext Iff.rfl
end
theorem postM_congr {P : Program} {rs : Array ResultVar} {b : Box Kont} {e : Exit} {s : Slots} {ms : List Nat} {w w' : World} (h : w = w') : @postM P rs b e s ms w = @postM P rs b e s ms w' := by rw [h]
theorem leaveE_congr {P : Program} {rs : Array ResultVar} {b : Box Kont} {s : Slots} {ms : List Nat} {w w' : World} (h : w = w') : @leaveE rs P s b ms w = @leaveE rs P s b ms w' := by rw [h]
attribute [congr] postM_congr leaveE_congr
theorem leaveE_sound {P : Program} {fn : Func} {rs : Array ResultVar} (hr : fn.results = rs) {R : Kont} {s : Slots} {tmps : Array Value} (hs : ∀ t, tmps.getD t undef = s t) : ∀ (ms : List Nat) (w : World), @leaveE rs P s ⟨R⟩ ms w →
    LeavesInM Fence.wide 0 P fn tmps (fun e w' => ∃ v, e = .returned v ∧ R v w') (ms.map markOf) .returning w := by
  intro ms
  induction ms with
  | nil =>
    intro w h
    have he : results fn tmps = resultsS rs s := by
      have hs : s = fun t => tmps.getD t undef := funext fun t => (hs t).symm
      subst hr; subst hs; rfl
    obtain ⟨v, h1, h2⟩ := endE_run h
    exact ⟨v, by rw [he]; exact h1, v, rfl, h2⟩
  | cons D r ih =>
    intro w h
    exact ⟨by simp, .inl ⟨D, _, rfl, run_takeDeferred h.1, ih _ h.2⟩⟩
theorem calls_M {P : Program} {f : FuncId} {fn : Func} {c : Code} {args : Array Value} {w : World} {R : Kont} {n : Nat} {rs : Array ResultVar} (hf : P.funcs[f]? = some fn) (hb : fn.body = some c) (hn : fn.ntmps = n) (hr : fn.results = rs) (hle : args.size ≤ n)
    (h : EM P n c (argsE args) [] w (@postM P rs ⟨R⟩)) : callE P f args w R := by
  suffices h0 : CallsIn Fence.wide 0 P f args w (fun e w' => ∃ v, e = .returned v ∧ R v w') from callsIn_wide.1 h0
  refine callsIn_of_wp_marks hf hb trivial ?_
  have hfit : Fits n [] (argsE args) { tmps := args ++ Array.replicate (fn.ntmps - args.size) undef, defers := [] } := by
    refine ⟨by simp; omega, rfl, fun t => ?_⟩
    simp only [argsE, Array.getD_eq_getD_getElem?]
    by_cases ht : t < args.size
    · rw [Array.getElem?_append_left ht]
    · rw [Array.getElem?_append_right (by omega), Array.getElem?_replicate, Array.getElem?_eq_none (show args.size ≤ t by omega)]
      split <;> rfl
  have h1 := EM_sound c _ _ w _ h _ hfit
  refine wpIn_mono h1 ?_
  rintro e a' w' ⟨s', ms', hf', hq⟩
  cases e with
  | normal => rw [show bodyPostM Fence.wide 0 P fn _ .normal a' w' = LeavesInM Fence.wide 0 P fn a'.tmps _ a'.defers .returning w' from rfl, hf'.defers]; exact leaveE_sound hr hf'.at_ _ _ hq
  | ret => rw [show bodyPostM Fence.wide 0 P fn _ .ret a' w' = LeavesInM Fence.wide 0 P fn a'.tmps _ a'.defers .returning w' from rfl, hf'.defers]; exact leaveE_sound hr hf'.at_ _ _ hq
  | _ => exact hq.elim
/-! ### The loop -/
def putPs (n : Nat) (s : Slots) : List (Tmp × Value) → Slots
  | [] => s
  | (t, v) :: r => putPs n (put n s (some t) v) r
@[go_sem] theorem putPs_nil (n : Nat) (s : Slots) : putPs n s [] = s := Eq.trans rfl rfl
@[go_sem] theorem putPs_cons (n : Nat) (s : Slots) (t : Tmp) (v : Value) (r : List (Tmp × Value)) : putPs n s ((t, v) :: r) = putPs n (put n s (some t) v) r := Eq.trans rfl rfl
theorem fits_ps {n : Nat} : ∀ (r : List (Tmp × Value)) (s : Slots) (tmps : Array Value), tmps.size = n → (∀ t, tmps.getD t undef = s t) → Fits n [] (putPs n s r) { tmps := r.foldl (fun t (p, v) => t.setIfInBounds p v) tmps, defers := [] }
  | [], s, tmps, h1, h2 => ⟨h1, rfl, h2⟩
  | (t, v) :: r, s, tmps, h1, h2 => by
    have h := (Fits.mk (a := { tmps := tmps, defers := [] }) (ds := []) h1 rfl h2).put (some t) v
    exact fits_ps r _ _ (by simpa [Act.put] using h.size) h.at_
/-- How a round's body may be left. -/
def roundQ {α : Type} (J : List α → (Nat → Prop) → World → Prop) (Jx : Exit → List α → (Nat → Prop) → World → Prop) (xs : List α) (O : Nat → Prop) (a : World) : Exit → Slots → World → Prop
  | .normal, _, b => ∃ O', Mine O O' a b ∧ J xs O' b
  | .ret, _, b => ∃ O', Mine O O' a b ∧ Jx .ret xs O' b
  | .exit i, _, b => ∃ O', Mine O O' a b ∧ Jx (.exit i) xs O' b
  | .goto i, _, b => ∃ O', Mine O O' a b ∧ Jx (.goto i) xs O' b
  | _, _, _ => False
section
variable {α : Type} (J : List α → (Nat → Prop) → World → Prop) (Jx : Exit → List α → (Nat → Prop) → World → Prop) (xs : List α) (O : Nat → Prop) (a b : World) (s : Slots)
@[go_sem] theorem roundQ_normal : roundQ J Jx xs O a .normal s b = (∃ O', Mine O O' a b ∧ J xs O' b) := propext Iff.rfl
@[go_sem] theorem roundQ_ret : roundQ J Jx xs O a .ret s b = (∃ O', Mine O O' a b ∧ Jx .ret xs O' b) := propext Iff.rfl
@[go_sem] theorem roundQ_exit (i : Nat) : roundQ J Jx xs O a (.exit i) s b = (∃ O', Mine O O' a b ∧ Jx (.exit i) xs O' b) := propext Iff.rfl
end
/-- The assignment to the loop's left sides, and the body behind it. -/
def asgQ (P : Program) (n : Nat) (body : Code) (l : Nat) (o : Loop) (h : Option Obj) (Q : Exit → Slots → World → Prop) : Exit → Slots → World → Prop
  | .normal, s, b => b.heap[l]? = h ∧ E P n body s (b.putObj l (.loop o)) Q
  | _, _, _ => False
@[go_sem] theorem asgQ_normal (P : Program) (n : Nat) (body : Code) (l : Nat) (o : Loop) (h : Option Obj) (Q : Exit → Slots → World → Prop) (s : Slots) (b : World) :
    asgQ P n body l o h Q .normal s b = (b.heap[l]? = h ∧ E P n body s (b.putObj l (.loop o)) Q) := propext Iff.rfl
def jumpOf : Exit → Option Code
  | .ret => some .ret
  | .exit i => some (.exit i)
  | .goto i => some (.goto i)
  | _ => none
theorem jump_walk {ro : Option Nat} {P : Program} {e : Exit} {c : Code} (h : jumpOf e = some c) {Q : Exit → Act → World → Prop} {a : Act} {w : World} (hq : Q e a w) : c.wpIn (fR ro) 0 P Q a w := by
  cases e <;> simp only [jumpOf, Option.some.injEq] at h <;> try cases h
  · exact wpIn_exit hq
  · exact wpIn_goto hq
  · exact wpIn_ret hq
theorem WM_range {P : Program} {n : Nat} {g : Operand} {ps : Array Tmp} {assign body : Code} {s : Slots} {ms : List Nat} {w : World} {Q : Post} {α : Type} {gf : FuncId} {lb : Array Value} {enc : α → Array Value} {S : List α → Prop} {N : Nat → Prop} {w0 : World}
    (hg : ev s g = .func (.func gf) #[] lb) (eg : ∀ args w, (callFunc gf args).run P w = .ok (.enter gf args) w) (hseq : Seq P gf lb enc S N w0) (hk0 : Keeps N w0 w) (hps : ∀ x, (enc x).size = ps.size)
    (O₀ : Nat → Prop) (hN : ∀ j, N j → j < w0.heap.size ∧ ¬ O₀ j) (hO : ∀ j, O₀ j → j < w.heap.size)
    (J : List α → (Nat → Prop) → World → Prop) (Jx : Exit → List α → (Nat → Prop) → World → Prop)
    (hJ : ∀ pre O a b, J pre O a → Keeps (fun j => O j ∨ j < w.heap.size) a b → J pre O b) (hJx : ∀ e pre O a b, Jx e pre O a → Keeps (fun j => O j ∨ j < w.heap.size) a b → Jx e pre O b) (h0 : J [] O₀ w)
    (round : ∀ pre x O a b l o, (∃ xs, S xs ∧ (pre ++ [x]) <+: xs) → a.putObj l (.loop o) = b → l < a.heap.size → ¬ O l → w.heap.size ≤ l → (∃ r, a.heap[l]? = some (.loop r)) → b.heap.size = a.heap.size → w.heap.size ≤ a.heap.size → (∀ j, O j → j < a.heap.size) → (∀ j, j < w.heap.size → O j → O₀ j) → J pre O a → J pre O b →
      E P n assign (putPs n s (ps.zip (enc x)).toList) a (asgQ P n body l o a.heap[l]? (roundQ J Jx (pre ++ [x]) O b)))
    (done : ∀ xs O b D, S xs → J xs O b → ¬ O D → w.heap.size ≤ D → b.heap[D]? = some (.deferred (some [])) → w.heap.size ≤ b.heap.size → Q .normal s (D :: ms) b)
    (stop : ∀ e pre xs O b D, S xs → pre <+: xs → Jx e pre O b → ¬ O D → w.heap.size ≤ D → b.heap[D]? = some (.deferred (some [])) → w.heap.size ≤ b.heap.size → Q e s (D :: ms) b) : WM P n (.rangeFunc g ps assign body) s ms w Q := by
  intro a hf
  refine wpIn_rangeFunc ?_
  intro fn _
  rw [show (fR none).round = none from rfl]
  obtain ⟨rec, hrec⟩ : ∃ rec : LoopState → Option Code → Loop, rec = fun st pe => { state := st, pending := pe, fn, tmps := a.tmps, params := ps, assign, body, defers := w.heap.size } := ⟨_, rfl⟩
  obtain ⟨W1, hW1⟩ : ∃ W1, (w.alloc (.deferred (some []))).alloc (.loop (rec .ready none)) = W1 := ⟨_, rfl⟩
  have hL1 : W1.heap[w.heap.size + 1]? = some (.loop (rec .ready none)) := by
    rw [← hW1]; have := World.alloc_heap_new (w.alloc (.deferred (some []))) (.loop (rec .ready none)); rwa [World.size_alloc] at this
  have hK1 : W1.heap[w.heap.size]? = some (.deferred (some [])) := by
    rw [← hW1]; exact (Below.heap_alloc _ _ _ (by simp)).trans (World.alloc_heap_new w _)
  have hs1 : W1.heap.size = w.heap.size + 2 := by rw [← hW1]; simp
  have hb1 : Below w.heap.size w W1 := by rw [← hW1]; exact ext_trans (ext_alloc _ _) (ext_alloc _ _)
  refine ⟨w.heap.size + 1, [markOf w.heap.size], W1, { target := .fn (.func gf) lb, args := #[.func (.yield (w.heap.size + 1)) #[] #[]] }, W1, gf,
    #[.func (.yield (w.heap.size + 1)) #[] #[]] ++ lb, W1, ?_, ?_, fun f' _ => trivial, ?_, fun h => (by cases h), ?_⟩
  · rw [← hW1, hrec]; exact run_enterLoop_outer _ _ _ _ _
  · have hg' : a.eval g = .func (.func gf) #[] lb := by rw [hf.eval]; exact hg
    simp only [resolve, hg']
    simp [go_sem]
  · simp [invoke, go_sem, eg]
  · -- the function's promise, at the caller's invariant and the record
    let L := w.heap.size + 1
    let D := w.heap.size
    have hmap : ∀ {O : Nat → Prop} {x y : World}, Keeps (fun j => (O j ∨ j = L ∨ j = D) ∨ j < W1.heap.size) x y → Keeps (fun j => O j ∨ j < w.heap.size) x y := fun h => h.mono fun j _ hj => hj.elim (fun h => .inl (.inl h)) fun h => .inr (by omega)
    have hcall := hseq L W1 (fun j => O₀ j ∨ j = L ∨ j = D)
      (fun pre O' b => ∃ O, O' = (fun j => O j ∨ j = L ∨ j = D) ∧ ¬ O L ∧ ¬ O D ∧ J pre O b ∧ b.heap[L]? = some (.loop (rec .ready none)) ∧ b.heap[D]? = some (.deferred (some [])))
      (fun pre O' b => ∃ O e c, O' = (fun j => O j ∨ j = L ∨ j = D) ∧ ¬ O L ∧ ¬ O D ∧ jumpOf e = some c ∧ Jx e pre O b ∧ b.heap[L]? = some (.loop (rec .done (some c))) ∧ b.heap[D]? = some (.deferred (some [])))
      (hk0.trans (Keeps.of_ext hb1))
      (fun j hj => ⟨(hN j hj).1, fun h => by have h1 := (hN j hj).1; have h2 := hk0.size; rcases h with h | h | h; exact (hN j hj).2 h; all_goals (simp only [L, D] at h; omega)⟩)
      (fun pre O' x y ⟨O, e1, hl, hd, hj, h1, h2⟩ hk => by
        subst e1
        have s1 : x.heap[L]?.isSome := by rw [h1]; rfl
        exact ⟨O, rfl, hl, hd, hJ _ _ _ _ hj (hmap hk), (hk.block L (Array.getElem?_eq_some_iff.1 h1).1 (.inl (.inr (.inl rfl)))).trans h1, (hk.block D (Array.getElem?_eq_some_iff.1 h2).1 (.inl (.inr (.inr rfl)))).trans h2⟩)
      (fun pre O' x y ⟨O, e, c, e1, hl, hd, he, hj, h1, h2⟩ hk => by
        subst e1
        exact ⟨O, e, c, rfl, hl, hd, he, hJx _ _ _ _ _ hj (hmap hk), (hk.block L (Array.getElem?_eq_some_iff.1 h1).1 (.inl (.inr (.inl rfl)))).trans h1, (hk.block D (Array.getElem?_eq_some_iff.1 h2).1 (.inl (.inr (.inr rfl)))).trans h2⟩)
      ?_
      ⟨O₀, rfl, fun h => by have := hO _ h; simp only [L] at this; omega, fun h => by have := hO _ h; simp only [D] at this; omega, hJ _ _ _ _ h0 (Keeps.of_ext hb1), hL1, hK1⟩
      (fun j hj => by rcases hj with h | h | h; have := hO j h; omega; all_goals (simp only [L, D] at h; omega))
    · have h2 : CallsIn (fR none) (0 - 1) P gf (#[.func (.yield (w.heap.size + 1)) #[] #[]] ++ lb) W1 _ := callsIn_wide.2 hcall
      refine CallsIn.mono h2 ?_
      rintro e W2 ⟨v, rfl, O', pre, xs, hS, hpre, hsz, (⟨rfl, O, _, hl, hd, hj, h1, h2⟩ | ⟨O, e, c, _, hl, hd, he, hj, h1, h2⟩)⟩
      · have hkp : Keeps (fun j => O j ∨ j < w.heap.size) W2 (W2.putObj L (.loop { rec .ready none with state := .exhausted })) → J pre O (W2.putObj L (.loop { rec .ready none with state := .exhausted })) := fun h => hJ _ _ _ _ hj h
        refine ⟨none, W2.putObj L (.loop { rec .ready none with state := .exhausted }), ?_, s, w.heap.size :: ms, ⟨hf.size, by simp [hf.defers], hf.at_⟩, ?_⟩
        · have := run_endLoop (P := P) h1 (by rw [hrec]; simp); rw [hrec] at this ⊢; exact this
        · exact done _ _ _ _ hS (hkp (Keeps.putObj _ _ _ (by rintro (h | h); exact hl h; simp only [L] at h; omega))) hd (Nat.le_refl _) ((World.putObj_heap_other (by simp only [L]; omega)).trans h2) (by simp; omega)
      · refine ⟨some c, W2.putObj L (.loop { rec .done (some c) with state := .exhausted }), ?_, ?_⟩
        · have := run_endLoop (P := P) h1 (by rw [hrec]; simp); rw [hrec] at this ⊢; exact this
        · refine jump_walk (ro := none) he ⟨s, w.heap.size :: ms, ⟨hf.size, by simp [hf.defers], hf.at_⟩, ?_⟩
          exact stop _ _ _ _ _ _ hS hpre (hJx _ _ _ _ _ hj (Keeps.putObj _ _ _ (by rintro (h | h); exact hl h; simp only [L] at h; omega))) hd (Nat.le_refl _) ((World.putObj_heap_other (by simp only [L]; omega)).trans h2) (by simp; omega)
    · rintro pre x O' x0 hxs ⟨O, rfl, hl, hd, hj, h1, h2⟩ hsz hO' hOO
      have hlt : L < x0.heap.size := (Array.getElem?_eq_some_iff.1 h1).1
      have hy := run_yield (P := P) (args := enc x) h1 (by rw [hrec]; exact hps x)
      rw [hrec] at hy
      unfold yieldE
      rw [hy]
      have hjb : J pre O (x0.putObj L (.loop { rec .ready none with state := .busy })) := hJ _ _ _ _ hj (Keeps.putObj _ _ _ (by rintro (h | h); exact hl h; simp only [L] at h; omega))
      have hE := round pre x O x0 _ L { rec .ready none with state := .busy } hxs rfl hlt hl (by simp only [L]; omega) ⟨_, h1⟩ (by simp) (by omega) (fun j h => hO' j (.inl h)) (fun j hlt' h => by
        rcases hOO j (by omega) (.inl h) with h3 | h3 | h3
        · exact h3
        · simp only [L] at h3; omega
        · simp only [D] at h3; omega) hj hjb
      have hfit := fits_ps (n := n) (ps.zip (enc x)).toList s a.tmps hf.size hf.at_
      have hW := E_sound assign _ _ _ hE (some L) [] _ hfit
      refine roundIn_of_wpIn (F := Fence.wide) trivial ?_
      rw [Array.foldl_toList] at hW
      refine wpIn_mono hW ?_
      rintro e a1 b1 ⟨s1, hf1, hq1⟩
      cases e with
      | normal =>
        obtain ⟨hh, hE2⟩ := hq1
        have h3 : b1.heap[L]? = some (.loop (rec .ready none)) := hh.trans h1
        refine ⟨_, run_beginRound h3 (by rw [hrec]), ?_⟩
        have hW2 := E_sound body _ _ _ hE2 (some L) [] _ hf1
        refine wpIn_mono hW2 ?_
        have hl2 : (x0.putObj L (.loop { rec .ready none with state := .busy })).heap[L]? = some (.loop { rec .ready none with state := .busy }) := World.putObj_heap_same hlt
        have hd2 : (x0.putObj L (.loop { rec .ready none with state := .busy })).heap[D]? = some (.deferred (some [])) := (World.putObj_heap_other (by simp only [L, D]; omega)).trans h2
        have hdlt : D < x0.heap.size := (Array.getElem?_eq_some_iff.1 h2).1
        have fin : ∀ (jump : Option Code) (O2 : Nat → Prop) (b2 : World), Mine O O2 (x0.putObj L (.loop { rec .ready none with state := .busy })) b2 →
            (Instr.endRound L jump).run P b2 = .ok (.bool jump.isNone) (b2.putObj L (.loop (rec (if jump.isNone then .ready else .done) jump))) ∧
            (b2.putObj L (.loop (rec (if jump.isNone then .ready else .done) jump))).heap[L]? = some (.loop (rec (if jump.isNone then .ready else .done) jump)) ∧
            (b2.putObj L (.loop (rec (if jump.isNone then .ready else .done) jump))).heap[D]? = some (.deferred (some [])) ∧
            Mine (fun j => O j ∨ j = L ∨ j = D) (fun j => O2 j ∨ j = L ∨ j = D) x0 (b2.putObj L (.loop (rec (if jump.isNone then .ready else .done) jump))) ∧ ¬ O2 L ∧ ¬ O2 D ∧
            Keeps (fun j => O2 j ∨ j < w.heap.size) b2 (b2.putObj L (.loop (rec (if jump.isNone then .ready else .done) jump))) := fun jump O2 b2 ⟨m1, m2, m3⟩ => by
          have hl3 := (m3.block L (by simpa using hlt) hl).trans hl2
          have hd3 := (m3.block D (by simpa using hdlt) hd).trans hd2
          have hlb := (Array.getElem?_eq_some_iff.1 hl3).1
          have := run_endRound (P := P) jump hl3
          rw [hrec] at this ⊢
          have hsz2 := m3.size
          simp only [World.putObj_size] at hsz2
          have n1 : ¬ O2 L := fun h => by rcases m1 _ h with h | h; exact hl h; simp only [World.putObj_size, L] at h hlt; omega
          have n2 : ¬ O2 D := fun h => by rcases m1 _ h with h | h; exact hd h; simp only [World.putObj_size, D] at h hdlt; omega
          refine ⟨this, World.putObj_heap_same hlb, (World.putObj_heap_other (by simp only [L, D]; omega)).trans hd3, ⟨?_, ?_, ?_⟩, n1, n2, Keeps.putObj _ _ _ (by rintro (h | h); exact n1 h; simp only [L] at h; omega)⟩
          · rintro j (h | h)
            · rcases m1 j h with h | h
              · exact .inl (.inl h)
              · exact .inr (by simpa using h)
            · exact .inl (.inr h)
          · rintro j (h | h | h)
            · simpa using m2 j h
            · subst h; simpa using hlb
            · subst h; simp; omega
          · refine ⟨m3.os, m3.tape, m3.output, by simpa using hsz2, fun k hk hnk => ?_⟩
            have k1 : k ≠ L := fun e => hnk (.inr (.inl e))
            rw [World.putObj_heap_other k1, m3.block k (by simpa using hk) (fun h => hnk (.inl h)), World.putObj_heap_other k1]
        rintro e a3 W3 ⟨s3, hf3, hp⟩
        cases e with
        | normal =>
          obtain ⟨O2, hm, hj2⟩ := hp
          obtain ⟨hr, hl4, hd4, hm4, n1, n2, hk4⟩ := fin none O2 W3 hm
          exact ⟨_, _, hr, _, rfl, _, hm4, .inl ⟨rfl, O2, rfl, n1, n2, hJ _ _ _ _ hj2 hk4, hl4, hd4⟩⟩
        | ret =>
          obtain ⟨O2, hm, hj2⟩ := hp
          obtain ⟨hr, hl4, hd4, hm4, n1, n2, hk4⟩ := fin (some .ret) O2 W3 hm
          exact ⟨_, _, hr, _, rfl, _, hm4, .inr ⟨rfl, O2, .ret, _, rfl, n1, n2, rfl, hJx _ _ _ _ _ hj2 hk4, hl4, hd4⟩⟩
        | exit id =>
          obtain ⟨O2, hm, hj2⟩ := hp
          obtain ⟨hr, hl4, hd4, hm4, n1, n2, hk4⟩ := fin (some (.exit id)) O2 W3 hm
          exact ⟨_, _, hr, _, rfl, _, hm4, .inr ⟨rfl, O2, .exit id, _, rfl, n1, n2, rfl, hJx _ _ _ _ _ hj2 hk4, hl4, hd4⟩⟩
        | goto id =>
          obtain ⟨O2, hm, hj2⟩ := hp
          obtain ⟨hr, hl4, hd4, hm4, n1, n2, hk4⟩ := fin (some (.goto id)) O2 W3 hm
          exact ⟨_, _, hr, _, rfl, _, hm4, .inr ⟨rfl, O2, .goto id, _, rfl, n1, n2, rfl, hJx _ _ _ _ _ hj2 hk4, hl4, hd4⟩⟩
        | _ => exact hp.elim
      | _ => exact hq1.elim
end Go.Proofs.YtpmmfabendnhiaaDoor
