/-
  Texts joined: Range.
-/
import Derived.Test.YtmcbcoafodmbjaaGreatDoorJoin02
namespace Go.Proofs.YtmcbcoafodmbjaaGreatDoor
open Go.RowKit
set_option linter.unusedVariables false
set_option linter.unusedSimpArgs false
structure Keeps (O : Nat → Prop) (w w' : World) : Prop where
  os : w'.os = w.os
  tape : w'.tape = w.tape
  output : w'.output = w.output
  size : w.heap.size ≤ w'.heap.size
  block : ∀ k, k < w.heap.size → O k → w'.heap[k]? = w.heap[k]?
section
variable {O O' : Nat → Prop} {a b c w w' : World}
theorem Keeps.refl (O : Nat → Prop) (w : World) : Keeps O w w := ⟨rfl, rfl, rfl, Nat.le_refl _, fun _ _ _ => rfl⟩
theorem Keeps.trans (h : Keeps O a b) (k : Keeps O b c) : Keeps O a c :=
  ⟨k.os.trans h.os, k.tape.trans h.tape, k.output.trans h.output, Nat.le_trans h.size k.size, fun i hi ho => (k.block i (Nat.lt_of_lt_of_le hi h.size) ho).trans (h.block i hi ho)⟩
theorem Keeps.mono (h : Keeps O a b) (ho : ∀ k, k < a.heap.size → O' k → O k) : Keeps O' a b := ⟨h.os, h.tape, h.output, h.size, fun k hk hk' => h.block k hk (ho k hk hk')⟩
theorem Keeps.of_below {B : Nat} (h : Below B a b) (ho : ∀ k, k < a.heap.size → O k → k < B) : Keeps O a b := ⟨h.os, h.tape, h.output, h.size, fun k hk hk' => h.block k (ho k hk hk')⟩
theorem Keeps.of_ext (h : Below a.heap.size a b) : Keeps O a b := .of_below h fun k hk _ => hk
theorem Keeps.below {B : Nat} (h : Keeps O a b) (hB : B ≤ a.heap.size) (ho : ∀ k, k < B → O k) : Below B a b := ⟨h.os, h.tape, h.output, h.size, fun k hk => h.block k (Nat.lt_of_lt_of_le hk hB) (ho k hk)⟩
theorem Keeps.alloc (O : Nat → Prop) (w : World) (o : Obj) : Keeps O w (w.alloc o) := .of_ext (ext_alloc w o)
theorem Keeps.drew (O : Nat → Prop) (w : World) : Keeps O w w.drew := .of_ext (ext_drew w)
theorem Keeps.setCell (w : World) (p : Addr) (v : Value) (h : ¬ O p.block) : Keeps O w (w.setCell p v) :=
  ⟨rfl, rfl, rfl, by rw [sz_set]; exact Nat.le_refl _, fun k hk ho => Below.heap_setCell w p v k fun e => h (e ▸ ho)⟩
theorem Keeps.setRow (w : World) (g : Nat) (cs : Array Value) (h : ¬ O g) : Keeps O w (w.setRow g cs) :=
  ⟨rfl, rfl, rfl, by simp [World.setRow], fun k hk ho => setRow_other w g k cs fun e => h (e ▸ ho)⟩
theorem Keeps.putObj (w : World) (l : Nat) (o : Obj) (h : ¬ O l) : Keeps O w (w.putObj l o) :=
  ⟨rfl, rfl, rfl, by simp, fun k hk ho => World.putObj_heap_other fun e => h (e ▸ ho)⟩
theorem Keeps.grown {row : Option Nat} (hg : w.grownBy w' row) (h : ∀ k, row = some k → ¬ O k) : Keeps O w w' :=
  ⟨hg.os, hg.tape, hg.output, hg.size, fun k hk ho => hg.block k hk fun e => h k e.symm ho⟩
theorem Keeps.blk (h : Keeps O a b) {g : Nat} {t : TypeId} {cs : Array Value} (hb : Blk a g t cs) (hg : O g) : Blk b g t cs := (h.block g hb.lt hg).trans hb
theorem Keeps.cell (h : Keeps O a b) {p : Addr} (hb : p.block < a.heap.size) (hg : O p.block) : b.cell? p = a.cell? p := World.cell?_of_block (w := a) (h.block p.block hb hg)
theorem Keeps.rd (h : Keeps O a b) {size n : Nat} {A : Option Addr} {xs : List Value} (hr : Rd a size A n xs) (hg : ∀ g o, A = some ⟨g, o, none⟩ → O g) : Rd b size A n xs :=
  ⟨hr.len, fun hn => by
    obtain ⟨g, o, e, hlt, hc⟩ := hr.cells hn
    exact ⟨g, o, e, Nat.lt_of_lt_of_le hlt h.size, fun j u hu => (h.cell (p := ⟨g, o + j, none⟩) hlt (hg g o e)).trans (hc j u hu)⟩⟩
end
def Mine (O O' : Nat → Prop) (a b : World) : Prop := (∀ j, O' j → O j ∨ a.heap.size ≤ j) ∧ (∀ j, O' j → j < b.heap.size) ∧ Keeps (fun j => ¬ O j) a b
theorem Mine.after {O O' : Nat → Prop} {a b b' : World} (h : Mine O O' a b) (hk : Keeps (fun j => ¬ O j) b b') : Mine O O' a b' :=
  ⟨h.1, fun j hj => Nat.lt_of_lt_of_le (h.2.1 j hj) hk.size, h.2.2.trans hk⟩
def yieldE (P : Program) (l : Nat) (args : Array Value) (w : World) (k : Kont) : Prop := resE P ((Instr.yield l args).run P w) k
@[go_sem] theorem resE_yield (P : Program) (l : Nat) (args : Array Value) (w : World) (k : Kont) : resE P ((Instr.yield l args).run P w) k = yieldE P l args w k := propext Iff.rfl
theorem yieldE_congr {P : Program} {l : Nat} {args args' : Array Value} {w w' : World} {k : Kont} (h : args = args') (hw : w = w') : yieldE P l args w k = yieldE P l args' w' k := by rw [h, hw]
attribute [congr] yieldE_congr
theorem resE_mono {P : Program} {r : Result Next} {k k' : Kont} (h : resE P r k) (hk : ∀ v w, k v w → k' v w) : resE P r k' := by
  cases r with
  | halt x w => exact h.elim
  | ok x w =>
    cases x with
    | value v => exact hk _ _ h
    | skip => exact hk _ _ h
    | enter f args => exact callE_of h hk
    | round l f tmps assign body => exact RoundIn.mono h fun e y ⟨v, he, hr⟩ => ⟨v, he, hk _ _ hr⟩
    | _ => exact h.elim
def Seq (P : Program) {α : Type} (gf : FuncId) (lb : Array Value) (enc : α → Array Value) (S : List α → Prop) (N : Nat → Prop) (w : World) : Prop :=
  ∀ (l : Nat) (W : World) (O₀ : Nat → Prop) (J Jx : List α → (Nat → Prop) → World → Prop),
    Keeps N w W → (∀ j, N j → j < w.heap.size ∧ ¬ O₀ j) →
    (∀ pre O a b, J pre O a → Keeps (fun j => O j ∨ j < W.heap.size) a b → J pre O b) →
    (∀ pre O a b, Jx pre O a → Keeps (fun j => O j ∨ j < W.heap.size) a b → Jx pre O b) →
    (∀ pre x O a, (∃ xs, S xs ∧ (pre ++ [x]) <+: xs) → J pre O a → W.heap.size ≤ a.heap.size → (∀ j, O j → j < a.heap.size) → (∀ j, j < W.heap.size → O j → O₀ j) →
      yieldE P l (enc x) a fun v b => ∃ O', Mine O O' a b ∧ ((v = .bool true ∧ J (pre ++ [x]) O' b) ∨ (v = .bool false ∧ Jx (pre ++ [x]) O' b))) →
    J [] O₀ W → (∀ j, O₀ j → j < W.heap.size) →
    callE P gf (#[.func (.yield l) #[] #[]] ++ lb) W fun v b => ∃ O pre xs, S xs ∧ pre <+: xs ∧ W.heap.size ≤ b.heap.size ∧ ((pre = xs ∧ J pre O b) ∨ Jx pre O b)
theorem Seq.keep {P : Program} {α : Type} {gf : FuncId} {lb : Array Value} {enc : α → Array Value} {S : List α → Prop} {N : Nat → Prop} {w w' : World} (h : Seq P gf lb enc S N w) (hk : Keeps N w w') (hN : ∀ j, N j → j < w.heap.size) : Seq P gf lb enc S N w' := by
  intro l W O₀ J Jx h1 h2 h3 h4 h5 h6 h7
  exact h l W O₀ J Jx (hk.trans h1) (fun j hj => ⟨hN j hj, (h2 j hj).2⟩) h3 h4 h5 h6 h7
theorem Seq.more {P : Program} {α : Type} {gf : FuncId} {lb : Array Value} {enc : α → Array Value} {S : List α → Prop} {N N' : Nat → Prop} {w : World} (h : Seq P gf lb enc S N w) (hN : ∀ j, N j → N' j) : Seq P gf lb enc S N' w := by
  intro l W O₀ J Jx h1 h2 h3 h4 h5 h6 h7
  exact h l W O₀ J Jx (h1.mono fun j _ => hN j) (fun j hj => h2 j (hN j hj)) h3 h4 h5 h6 h7
/-! ### Code with such a loop: the marks of the frame beside the slots -/
def markOf (D : Nat) : Deferred := { target := .collected D, args := #[] }
abbrev Post := Exit → Slots → List Nat → World → Prop
def WM (P : Program) (n : Nat) (c : Code) (s : Slots) (ms : List Nat) (w : World) (Q : Post) : Prop :=
  ∀ a, Fits n (ms.map markOf) s a → c.wpIn (fR none) 0 P (fun e a' w' => ∃ s' ms', Fits n (ms'.map markOf) s' a' ∧ Q e s' ms' w') a w
def thenM' (k : Slots → List Nat → World → Prop) (Q : Post) : Post
  | .normal, s, ms, w => k s ms w
  | e, s, ms, w => Q e s ms w
def blockM (id : Nat) (Q : Post) : Post
  | .exit i, s, ms, w => if i = id then Q .normal s ms w else Q (.exit i) s ms w
  | e, s, ms, w => Q e s ms w
def scopeM (Q : Post) : Post
  | .goto _, _, _, _ => False
  | e, s, ms, w => Q e s ms w
def normM (Q : Post) (ms : List Nat) : Slots → World → Prop := fun s w => Q .normal s ms w
def EM (P : Program) (n : Nat) : Code → Slots → List Nat → World → Post → Prop
  | .skip, s, ms, w, Q => Q .normal s ms w
  | .label _, s, ms, w, Q => Q .normal s ms w
  | .seq a b, s, ms, w, Q => EM P n a s ms w (thenM' (fun s ms w => EM P n b s ms w Q) Q)
  | .cond c x y, s, ms, w, Q => condE (ev s c) (EM P n x s ms w Q) (EM P n y s ms w Q)
  | .block id c, s, ms, w, Q => EM P n c s ms w (blockM id Q)
  | .exit id, s, ms, w, Q => Q (.exit id) s ms w
  | .ret, s, ms, w, Q => Q .ret s ms w
  | .scope c, s, ms, w, Q => EM P n c s ms w (scopeM Q)
  | .region _ ops false, s, ms, w, Q => opsE P n ops (normM Q ms) ops.toList s w
  | c, s, ms, w, Q => WM P n c s ms w Q
def thenM (P : Program) (n : Nat) (b : Code) (Q : Post) : Post := thenM' (fun s ms w => EM P n b s ms w Q) Q
def condM (P : Program) (n : Nat) (v : Value) (x y : Code) (s : Slots) (ms : List Nat) (w : World) (Q : Post) : Prop := condE v (EM P n x s ms w Q) (EM P n y s ms w Q)
def condMN (P : Program) (n : Nat) (i : Nat) (x y : Code) (s : Slots) (ms : List Nat) (w : World) (Q : Post) : Prop := if i = 0 then EM P n y s ms w Q else EM P n x s ms w Q
section
variable (P : Program) (n : Nat) (s : Slots) (ms : List Nat) (w : World) (Q : Post)
@[go_sem] theorem EM_skip : EM P n .skip s ms w Q = Q .normal s ms w := propext Iff.rfl
@[go_sem] theorem EM_label (l : Nat) : EM P n (.label l) s ms w Q = Q .normal s ms w := propext Iff.rfl
@[go_sem] theorem EM_seq (a b : Code) : EM P n (.seq a b) s ms w Q = EM P n a s ms w (thenM P n b Q) := propext Iff.rfl
@[go_sem] theorem EM_cond (c : Operand) (x y : Code) : EM P n (.cond c x y) s ms w Q = condM P n (ev s c) x y s ms w Q := propext Iff.rfl
@[go_sem] theorem EM_block (id : Nat) (c : Code) : EM P n (.block id c) s ms w Q = EM P n c s ms w (blockM id Q) := propext Iff.rfl
@[go_sem] theorem EM_scope (c : Code) : EM P n (.scope c) s ms w Q = EM P n c s ms w (scopeM Q) := propext Iff.rfl
@[go_sem] theorem scopeM_normal : scopeM Q .normal s ms w = Q .normal s ms w := propext Iff.rfl
@[go_sem] theorem scopeM_ret : scopeM Q .ret s ms w = Q .ret s ms w := propext Iff.rfl
@[go_sem] theorem scopeM_exit (i : Nat) : scopeM Q (.exit i) s ms w = Q (.exit i) s ms w := propext Iff.rfl
@[go_sem] theorem EM_exit (id : Nat) : EM P n (.exit id) s ms w Q = Q (.exit id) s ms w := propext Iff.rfl
@[go_sem] theorem EM_ret : EM P n .ret s ms w Q = Q .ret s ms w := propext Iff.rfl
@[go_sem] theorem EM_region (id : Nat) (l : List Oper) : EM P n (.region id l.toArray false) s ms w Q = opsE P n l.toArray (normM Q ms) l s w := propext Iff.rfl
@[go_sem] theorem EM_draw (id : Nat) (ops : Array Oper) : EM P n (.region id ops true) s ms w Q = WM P n (.region id ops true) s ms w Q := propext Iff.rfl
@[go_sem] theorem EM_loop (c : Code) : EM P n (.loop c) s ms w Q = WM P n (.loop c) s ms w Q := propext Iff.rfl
@[go_sem] theorem EM_rangeFunc (f : Operand) (p : Array Tmp) (x y : Code) : EM P n (.rangeFunc f p x y) s ms w Q = WM P n (.rangeFunc f p x y) s ms w Q := propext Iff.rfl
@[go_sem] theorem normM_eq : normM Q ms s w = Q .normal s ms w := propext Iff.rfl
@[go_sem] theorem thenM_normal (b : Code) : thenM P n b Q .normal s ms w = EM P n b s ms w Q := propext Iff.rfl
@[go_sem] theorem thenM_exit (b : Code) (i : Nat) : thenM P n b Q (.exit i) s ms w = Q (.exit i) s ms w := propext Iff.rfl
@[go_sem] theorem thenM_ret (b : Code) : thenM P n b Q .ret s ms w = Q .ret s ms w := propext Iff.rfl
@[go_sem] theorem thenM_goto (b : Code) (i : Nat) : thenM P n b Q (.goto i) s ms w = Q (.goto i) s ms w := propext Iff.rfl
@[go_sem] theorem blockM_normal (id : Nat) : blockM id Q .normal s ms w = Q .normal s ms w := propext Iff.rfl
@[go_sem] theorem blockM_ret (id : Nat) : blockM id Q .ret s ms w = Q .ret s ms w := propext Iff.rfl
@[go_sem] theorem blockM_goto (id i : Nat) : blockM id Q (.goto i) s ms w = Q (.goto i) s ms w := propext Iff.rfl
@[go_sem] theorem blockM_hit (id : Nat) : blockM id Q (.exit id) s ms w = Q .normal s ms w := by simp [blockM]
@[go_sem] theorem blockM_miss (id i : Nat) (h : i ≠ id) : blockM id Q (.exit i) s ms w = Q (.exit i) s ms w := by simp [blockM, h]
@[go_sem] theorem condM_true (x y : Code) : condM P n (.bool true) x y s ms w Q = EM P n x s ms w Q := by simp [condM, condE]
@[go_sem] theorem condM_false (x y : Code) : condM P n (.bool false) x y s ms w Q = EM P n y s ms w Q := by simp [condM, condE]
@[go_sem] theorem condM_dec (p : Prop) [Decidable p] (x y : Code) : condM P n (.bool (decide p)) x y s ms w Q = condMN P n (if p then 1 else 0) x y s ms w Q := by
  by_cases h : p
  · rw [decide_eq_true h, condM_true, if_pos h]; simp [condMN]
  · rw [decide_eq_false h, condM_false, if_neg h]; simp [condMN]
@[go_sem] theorem condM_ndec (p : Prop) [Decidable p] (x y : Code) : condM P n (.bool (!decide p)) x y s ms w Q = condMN P n (if p then 0 else 1) x y s ms w Q := by
  by_cases h : p
  · rw [decide_eq_true h, Bool.not_true, condM_false, if_pos h]; simp [condMN]
  · rw [decide_eq_false h, Bool.not_false, condM_true, if_neg h]; simp [condMN]
@[go_sem] theorem condMN_one (x y : Code) : condMN P n 1 x y s ms w Q = EM P n x s ms w Q := by simp [condMN]
@[go_sem] theorem condMN_zero (x y : Code) : condMN P n 0 x y s ms w Q = EM P n y s ms w Q := by simp [condMN]
end
section
variable {P : Program} {n : Nat} {s : Slots} {ms : List Nat} {w w' : World} {Q : Post}
theorem EM_congr {c : Code} (h : w = w') : EM P n c s ms w Q = EM P n c s ms w' Q := by rw [h]
theorem WM_congr {c : Code} (h : w = w') : WM P n c s ms w Q = WM P n c s ms w' Q := by rw [h]
theorem condM_congr {v v' : Value} {x y : Code} (h : v = v') : condM P n v x y s ms w Q = condM P n v' x y s ms w Q := by rw [h]
theorem condMN_congr {i i' : Nat} {x y : Code} (h : i = i') : condMN P n i x y s ms w Q = condMN P n i' x y s ms w Q := by rw [h]
theorem thenM_congr {b : Code} {e : Exit} (h : w = w') : thenM P n b Q e s ms w = thenM P n b Q e s ms w' := by rw [h]
theorem scopeM_congr {e : Exit} (h : w = w') : scopeM Q e s ms w = scopeM Q e s ms w' := by rw [h]
theorem blockM_congr {i : Nat} {e : Exit} (h : w = w') : blockM i Q e s ms w = blockM i Q e s ms w' := by rw [h]
theorem normM_congr (h : w = w') : normM Q ms s w = normM Q ms s w' := by rw [h]
end
attribute [congr] EM_congr WM_congr condM_congr condMN_congr thenM_congr blockM_congr scopeM_congr normM_congr
/-! A function that holds such loops: at its end the marks are taken off. -/
def leaveE (rs : Array ResultVar) (P : Program) (s : Slots) [b : Box Kont] : List Nat → World → Prop
  | [], w => endE (resO P s w rs.toList) w
  | D :: r, w => w.heap[D]? = some (.deferred (some [])) ∧ leaveE rs P s r (w.putObj D (.deferred none))
def postM (P : Program) (rs : Array ResultVar) [b : Box Kont] : Post
  | .normal, s, ms, w | .ret, s, ms, w => leaveE rs P s ms w
  | _, _, _, _ => False
section
variable (P : Program) (rs : Array ResultVar) (b : Box Kont) (s : Slots) (ms : List Nat) (w : World) (D : Nat)
@[go_sem] theorem postM_normal : @postM P rs b .normal s ms w = @leaveE rs P s b ms w := propext Iff.rfl
@[go_sem] theorem postM_ret : @postM P rs b .ret s ms w = @leaveE rs P s b ms w := propext Iff.rfl
@[go_sem] theorem leaveE_nil : @leaveE rs P s b [] w = @endE b (resO P s w rs.toList) w := propext Iff.rfl
@[go_sem] theorem leaveE_cons : @leaveE rs P s b (D :: ms) w = (w.heap[D]? = some (.deferred (some [])) ∧ @leaveE rs P s b ms (w.putObj D (.deferred none))) := propext Iff.rfl
end
theorem postM_congr {P : Program} {rs : Array ResultVar} {b : Box Kont} {e : Exit} {s : Slots} {ms : List Nat} {w w' : World} (h : w = w') : @postM P rs b e s ms w = @postM P rs b e s ms w' := by rw [h]
theorem leaveE_congr {P : Program} {rs : Array ResultVar} {b : Box Kont} {s : Slots} {ms : List Nat} {w w' : World} (h : w = w') : @leaveE rs P s b ms w = @leaveE rs P s b ms w' := by rw [h]
attribute [congr] postM_congr leaveE_congr
theorem leaveE_sound {P : Program} {fn : Func} {rs : Array ResultVar} (hr : fn.results = rs) {R : Kont} {s : Slots} {tmps : Array Value} (hs : ∀ t, tmps.getD t undef = s t) : ∀ (ms : List Nat) (w : World), @leaveE rs P s ⟨R⟩ ms w →
    LeavesInM Fence.wide 0 P fn tmps (fun e w' => ∃ v, e = .returned v ∧ R v w') (ms.map markOf) .returning w := by
  intro ms
  induction ms with
  | nil =>
    intro w h
    have he : results fn tmps = resultsS rs s := by
      have hs : s = fun t => tmps.getD t undef := funext fun t => (hs t).symm
      subst hr; subst hs; rfl
    obtain ⟨v, h1, h2⟩ := endE_run h
    exact ⟨v, by rw [he]; exact h1, v, rfl, h2⟩
  | cons D r ih =>
    intro w h
    exact ⟨by simp, .inl ⟨D, _, rfl, run_takeDeferred h.1, ih _ h.2⟩⟩
/-! ### The loop -/
def putPs (n : Nat) (s : Slots) : List (Tmp × Value) → Slots
  | [] => s
  | (t, v) :: r => putPs n (put n s (some t) v) r
@[go_sem] theorem putPs_nil (n : Nat) (s : Slots) : putPs n s [] = s := Eq.trans rfl rfl
@[go_sem] theorem putPs_cons (n : Nat) (s : Slots) (t : Tmp) (v : Value) (r : List (Tmp × Value)) : putPs n s ((t, v) :: r) = putPs n (put n s (some t) v) r := Eq.trans rfl rfl
theorem fits_ps {n : Nat} : ∀ (r : List (Tmp × Value)) (s : Slots) (tmps : Array Value), tmps.size = n → (∀ t, tmps.getD t undef = s t) → Fits n [] (putPs n s r) { tmps := r.foldl (fun t (p, v) => t.setIfInBounds p v) tmps, defers := [] }
  | [], s, tmps, h1, h2 => ⟨h1, rfl, h2⟩
  | (t, v) :: r, s, tmps, h1, h2 => by
    have h := (Fits.mk (a := { tmps := tmps, defers := [] }) (ds := []) h1 rfl h2).put (some t) v
    exact fits_ps r _ _ (by simpa [Act.put] using h.size) h.at_
section
variable {α : Type} (J : List α → (Nat → Prop) → World → Prop) (Jx : Exit → List α → (Nat → Prop) → World → Prop) (xs : List α) (O : Nat → Prop) (a b : World) (s : Slots)
end
end Go.Proofs.YtmcbcoafodmbjaaGreatDoor
