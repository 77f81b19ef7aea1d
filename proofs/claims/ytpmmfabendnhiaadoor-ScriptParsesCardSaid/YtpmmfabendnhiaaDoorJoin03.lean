/-
  Texts joined: Any.
-/
import Derived.Test.YtpmmfabendnhiaaDoorJoin02
namespace Go.Proofs.YtpmmfabendnhiaaDoor
open Go.RowKit
set_option linter.unusedVariables false
variable {ro : Option Nat} {ds : List Deferred}
theorem opR_congr {P : Program} {o : Oper} {s s' : Slots} (hs : ∀ cs b, o.op ≠ .select cs b) (h : ∀ x ∈ o.op.operands, ev s x = ev s' x) (w : World) : opR P o s w = opR P o s' w := by
  have he : execOp (ev s) o = execOp (ev s') o := execOp_congr o hs h
  have pairs : ∀ ps : Array (Nat × Operand), (∀ x ∈ ps.map (·.2), ev s x = ev s' x) →
      (ps.map fun (i, x) => (i, ev s x)) = (ps.map fun (i, x) => (i, ev s' x)) := fun ps hp =>
    Array.map_congr_left fun p hm => by
      obtain ⟨i, x⟩ := p
      simp only [hp x (Array.mem_map.2 ⟨(i, x), hm, rfl⟩)]
  obtain ⟨dst, op, type, pos, after, guard⟩ := o
  cases op <;> simp only [Op.operands] at h <;> simp only [opR, he]
  case load t x => rw [h x (by simp)]
  case store t x y => rw [h x (by simp), h y (by simp)]
  case index t x i => rw [h x (by simp), h i (by simp)]
  case build t ps => rw [pairs ps fun x hx => h x (by simpa using hx)]
  case call c =>
    unfold callR
    split
    · rename_i x y t u
      rw [h x (by simp [Call.operands]), h y (by simp [Call.operands])]
    · rename_i x y t u
      rw [h x (by simp [Call.operands]), h y (by simp [Call.operands])]
    · rfl
theorem oneE_congr {P : Program} {ops : Array Oper} {R : World → Prop} {s s' : Slots} {o : Oper} {v : Value} (hs : ∀ cs b, o.op ≠ .select cs b) (h : ∀ t ∈ o.looksAt ops, s t = s' t) (h1 : oneE P ops R s o v) : oneE P ops R s' o v := by
  have hop : ∀ x ∈ o.op.operands, ev s x = ev s' x := by
    intro x hx
    cases x with
    | tmp t => exact h t (List.mem_append_left _ (List.mem_filterMap.2 ⟨.tmp t, by simpa using hx, rfl⟩))
    | _ => rfl
  unfold oneE at h1 ⊢
  cases hg : o.guard with
  | none =>
    simp only [hg] at h1 ⊢
    intro w hw
    rw [← opR_congr hs hop]
    exact h1 w hw
  | some jw =>
    obtain ⟨j, want⟩ := jw
    simp only [hg] at h1 ⊢
    have hgs : guardS ops s j = guardS ops s' j := by
      unfold guardS
      cases hd : (ops[j]?).bind (·.dst) with
      | none => rfl
      | some d => exact h d (List.mem_append_right _ (by simp only [hg, hd]; simp))
    rw [hgs] at h1
    cases hg2 : guardS ops s' j with
    | bool b =>
      simp only [hg2] at h1 ⊢
      split
      · rename_i e1
        rw [if_pos e1] at h1
        intro w hw
        rw [← opR_congr (o := { o with guard := none }) hs hop]
        exact h1 w hw
      · rename_i e1; rw [if_neg e1] at h1; exact h1
    | _ => simp only [hg2] at h1 ⊢; exact h1
/-- An operation's value is the same in every world that keeps what W has. -/
def anyRes (P : Program) (W : World) (r : World → Result Next) (k : Value → Prop) : Prop :=
  ∃ v, (∀ w, Below W.heap.size W w → resE P (r w) fun u w' => u = v ∧ Below W.heap.size W w') ∧ k v
def anyCall (P : Program) (f : FuncId) (args : Array Value) (W : World) (k : Value → Prop) : Prop :=
  ∃ v, (∀ w, Below W.heap.size W w → callE P f args w fun u w' => u = v ∧ Below W.heap.size W w') ∧ k v
theorem anyCall_of {P : Program} {W : World} {f : FuncId} {args : Array Value} {k : Value → Prop} (v : Value) (h : ∀ w, Below W.heap.size W w → callE P f args w fun u w' => u = v ∧ Below w.heap.size w w') (hk : k v) : anyCall P f args W k :=
  ⟨v, fun w hw => callE_of (h w hw) fun u w' ⟨e, hb⟩ => ⟨e, ext_trans hw hb⟩, hk⟩
theorem callE_done {P : Program} {f : FuncId} {args : Array Value} {w : World} {k : Kont} (hi : P.inits.idxOf? f = none) (h : callE P f args w k) : ∃ n v w', runN P n (lone (Frame.enter P f args .normal) [] w) = .ended (.done v) w' ∧ k v w' := by
  have h' : Calls P f args w fun | .returned x, y => k x y | _, _ => False := h.mono fun e y ⟨x, he, hk⟩ => by subst he; exact hk
  obtain ⟨n, x, y, hr, hk⟩ := h'.done hi
  exact ⟨n, x, y, hr, hk⟩
/-- Two posts of one call. -/
theorem callE_and {P : Program} {f : FuncId} {args : Array Value} {w : World} {k k' : Kont} (hi : P.inits.idxOf? f = none) (h : callE P f args w k) (h' : callE P f args w k') : ∃ v w', k v w' ∧ k' v w' := by
  obtain ⟨n, v, w1, hr, hk⟩ := callE_done hi h
  obtain ⟨n', v', w1', hr', hk'⟩ := callE_done hi h'
  obtain ⟨e1, e2⟩ := ended_one hr hr'
  injection e1 with e1
  subst e1; subst e2
  exact ⟨_, _, hk, hk'⟩
/-- A call whose value is known: a rule for rewriting. -/
theorem anyCall_eq {P : Program} {W : World} {f : FuncId} {args : Array Value} {v : Value} (hi : P.inits.idxOf? f = none) (h : ∀ w, Below W.heap.size W w → callE P f args w fun u w' => u = v ∧ Below w.heap.size w w') (k : Value → Prop) : anyCall P f args W k = k v := by
  apply propext
  constructor
  · rintro ⟨v', h', hk⟩
    obtain ⟨u, w', ⟨e1, _⟩, e2, _⟩ := callE_and hi (h W (Below.refl _ _)) (h' W (Below.refl _ _))
    have : v' = v := e2.symm.trans e1
    exact this ▸ hk
  · exact fun hk => anyCall_of v h hk
/-- Decided where linear arithmetic decides it. -/
def onOne (i : Nat) (p : Prop) : Prop := i = 1 ∧ p
@[go_sem] theorem onOne_one (p : Prop) : onOne 1 p = p := by simp [onOne]
theorem onOne_congr {i j : Nat} {p : Prop} (h : i = j) : onOne i p = onOne j p := by rw [h]
attribute [congr] onOne_congr
def anyLoad (P : Program) (W : World) (v : Value) (t : Option (Option Nat)) (k : Value → Prop) : Prop :=
  match v with
  | .pointer (some a) => onOne (if a.block < W.heap.size then 1 else 0) (stillRes P W (loadR P (.pointer (some a)) t W) k)
  | _ => False
def isLoad : Op → Bool
  | .load _ _ => true
  | _ => false
def anyOp (P : Program) (W : World) (o : Oper) (s : Slots) (k : Value → Prop) : Prop :=
  match o.op with
  | .load ty x => anyLoad P W (ev s x) (shapeOf P ty) k
  | _ => anyRes P W (fun w => opR P o s w) k
def anyE (P : Program) (n : Nat) (ops : Array Oper) (W : World) (K : Slots → Prop) : List Oper → Slots → Prop
  | [], s => K s
  | o :: rest, s =>
    match o.guard with
    | none => anyOp P W o s (fun v => anyE P n ops W K rest (put n s o.dst v))
    | some (j, want) =>
      match guardS ops s j with
      | .bool b => if b == want then anyOp P W { o with guard := none } s (fun v => anyE P n ops W K rest (put n s o.dst v)) else anyE P n ops W K rest (put n s o.dst undef)
      | _ => anyE P n ops W K rest (put n s o.dst undef)
def anyK (P : Program) (n : Nat) (ops : Array Oper) (W : World) (K : Slots → Prop) (rest : List Oper) (s : Slots) (d : Option Tmp) : Value → Prop := fun v => anyE P n ops W K rest (put n s d v)
def anyG (P : Program) (n : Nat) (ops : Array Oper) (W : World) (K : Slots → Prop) (o : Oper) (rest : List Oper) (s : Slots) (g : Value) (want : Bool) : Prop :=
  match g with
  | .bool b => if b == want then anyOp P W o s (anyK P n ops W K rest s o.dst) else anyE P n ops W K rest (put n s o.dst undef)
  | _ => anyE P n ops W K rest (put n s o.dst undef)
section
variable (P : Program) (n : Nat) (ops : Array Oper) (W : World) (K : Slots → Prop) (rest : List Oper) (s : Slots) (o : Oper)
@[go_sem] theorem anyE_nil : anyE P n ops W K [] s = K s := propext Iff.rfl
@[go_sem] theorem anyE_plain (d : Option Tmp) (op : Op) (ty : TypeId) (pos : String) (after : Array Edge) :
    anyE P n ops W K (⟨d, op, ty, pos, after, none⟩ :: rest) s = anyOp P W ⟨d, op, ty, pos, after, none⟩ s (anyK P n ops W K rest s d) := propext Iff.rfl
@[go_sem] theorem anyE_guard (d : Option Tmp) (op : Op) (ty : TypeId) (pos : String) (after : Array Edge) (j : Nat) (want : Bool) :
    anyE P n ops W K (⟨d, op, ty, pos, after, some (j, want)⟩ :: rest) s = anyG P n ops W K ⟨d, op, ty, pos, after, none⟩ rest s (guardS ops s j) want := propext Iff.rfl
@[go_sem] theorem anyK_eq (d : Option Tmp) (v : Value) : anyK P n ops W K rest s d v = anyE P n ops W K rest (put n s d v) := propext Iff.rfl
@[go_sem] theorem anyG_true : anyG P n ops W K o rest s (.bool true) true = anyOp P W o s (anyK P n ops W K rest s o.dst) := propext Iff.rfl
@[go_sem] theorem anyG_false : anyG P n ops W K o rest s (.bool false) false = anyOp P W o s (anyK P n ops W K rest s o.dst) := propext Iff.rfl
@[go_sem] theorem anyG_skip1 : anyG P n ops W K o rest s (.bool true) false = anyE P n ops W K rest (put n s o.dst undef) := propext Iff.rfl
@[go_sem] theorem anyG_skip2 : anyG P n ops W K o rest s (.bool false) true = anyE P n ops W K rest (put n s o.dst undef) := propext Iff.rfl
@[go_sem] theorem anyG_skip3 (want : Bool) : anyG P n ops W K o rest s undef want = anyE P n ops W K rest (put n s o.dst undef) := propext Iff.rfl
@[go_sem] theorem anyG_dec (p : Prop) [Decidable p] (want : Bool) : anyG P n ops W K o rest s (.bool (decide p)) want = anyG P n ops W K o rest s (.bool (natB (if p then 1 else 0))) want := by
  by_cases h : p <;> simp [h, natB]
@[go_sem] theorem anyG_ndec (p : Prop) [Decidable p] (want : Bool) : anyG P n ops W K o rest s (.bool (!decide p)) want = anyG P n ops W K o rest s (.bool (natB (if p then 0 else 1))) want := by
  by_cases h : p <;> simp [h, natB]
@[go_sem] theorem anyOp_load (d : Option Tmp) (t : TypeId) (x : Operand) (ty : TypeId) (pos : String) (after : Array Edge) (k : Value → Prop) : anyOp P W ⟨d, .load t x, ty, pos, after, none⟩ s k = anyLoad P W (ev s x) (shapeOf P t) k := propext Iff.rfl
@[go_sem] theorem anyOp_other (d : Option Tmp) (op : Op) (ty : TypeId) (pos : String) (after : Array Edge) (k : Value → Prop) (h : isLoad op = false) : anyOp P W ⟨d, op, ty, pos, after, none⟩ s k = anyRes P W (fun w => opR P ⟨d, op, ty, pos, after, none⟩ s w) k := by
  unfold anyOp; cases op <;> first | rfl | cases h
@[go_sem] theorem anyLoad_at (a : Addr) (t : Option (Option Nat)) (k : Value → Prop) : anyLoad P W (.pointer (some a)) t k = onOne (if a.block < W.heap.size then 1 else 0) (stillRes P W (loadR P (.pointer (some a)) t W) k) := propext Iff.rfl
@[go_sem] theorem anyRes_value (v : Value) (k : Value → Prop) : anyRes P W (fun w => .ok (.value v) w) k = k v := by
  apply propext
  constructor
  · rintro ⟨u, hu, hk⟩
    have := (hu W (Below.refl _ _)).1
    exact this ▸ hk
  · exact fun hk => ⟨v, fun w hw => ⟨rfl, hw⟩, hk⟩
@[go_sem] theorem anyRes_enter (f : FuncId) (args : Array Value) (k : Value → Prop) : anyRes P W (fun w => .ok (.enter f args) w) k = anyCall P f args W k := propext Iff.rfl
end
@[go_sem] theorem isLoad_move (x : Operand) : isLoad (.move x) = false := Eq.trans rfl rfl
@[go_sem] theorem isLoad_assign (x : Operand) : isLoad (.assign x) = false := Eq.trans rfl rfl
@[go_sem] theorem isLoad_box (t : TypeId) (x : Operand) : isLoad (.box t x) = false := Eq.trans rfl rfl
@[go_sem] theorem isLoad_build (t : TypeId) (l : Array (Nat × Operand)) : isLoad (.build t l) = false := Eq.trans rfl rfl
@[go_sem] theorem isLoad_nilCheck (x : Operand) : isLoad (.nilCheck x) = false := Eq.trans rfl rfl
@[go_sem] theorem isLoad_binOp (b : BinOp) (t : TypeId) (x y : Operand) (u : TypeId) : isLoad (.binOp b t x y u) = false := Eq.trans rfl rfl
@[go_sem] theorem isLoad_unOp (b : UnOp) (t : TypeId) (x : Operand) : isLoad (.unOp b t x) = false := Eq.trans rfl rfl
@[go_sem] theorem isLoad_convert (t u : TypeId) (x : Operand) : isLoad (.convert t u x) = false := Eq.trans rfl rfl
@[go_sem] theorem isLoad_makeInterface (t : TypeId) (x : Operand) : isLoad (.makeInterface t x) = false := Eq.trans rfl rfl
@[go_sem] theorem isLoad_makeFunc (f : Fn) (l m : Array Operand) : isLoad (.makeFunc f l m) = false := Eq.trans rfl rfl
@[go_sem] theorem isLoad_slice (t : TypeId) (x : Operand) (l h m : Option Operand) : isLoad (.slice t x l h m) = false := Eq.trans rfl rfl
@[go_sem] theorem isLoad_fieldAddr (t : TypeId) (x : Operand) (f : Nat) : isLoad (.fieldAddr t x f) = false := Eq.trans rfl rfl
@[go_sem] theorem isLoad_field (t : TypeId) (x : Operand) (f : Nat) : isLoad (.field t x f) = false := Eq.trans rfl rfl
@[go_sem] theorem isLoad_indexAddr (t : TypeId) (x y : Operand) : isLoad (.indexAddr t x y) = false := Eq.trans rfl rfl
@[go_sem] theorem isLoad_index (t : TypeId) (x y : Operand) : isLoad (.index t x y) = false := Eq.trans rfl rfl
@[go_sem] theorem isLoad_lookup (t : TypeId) (x y : Operand) (c : Bool) : isLoad (.lookup t x y c) = false := Eq.trans rfl rfl
@[go_sem] theorem isLoad_extract (x : Operand) (i : Nat) : isLoad (.extract x i) = false := Eq.trans rfl rfl
@[go_sem] theorem isLoad_call (c : Call) : isLoad (.call c) = false := Eq.trans rfl rfl
@[go_sem] theorem isLoad_pick (c x y : Operand) : isLoad (.pick c x y) = false := Eq.trans rfl rfl
@[go_sem] theorem isLoad_typeAssert (x : Operand) (t u : TypeId) (c : Bool) : isLoad (.typeAssert x t u c) = false := Eq.trans rfl rfl
@[go_sem] theorem isLoad_sliceToArrayPointer (t : TypeId) (x : Operand) : isLoad (.sliceToArrayPointer t x) = false := Eq.trans rfl rfl
@[go_sem] theorem isLoad_store (t : TypeId) (x y : Operand) : isLoad (.store t x y) = false := Eq.trans rfl rfl
@[go_sem] theorem isLoad_panic (x : Operand) : isLoad (.panic x) = false := Eq.trans rfl rfl
/-- What stands behind such a region. -/
def belowK (W : World) (Q : Exit → Slots → World → Prop) : Slots → Prop := fun s => ∀ w', Below W.heap.size W w' → Q .normal s w'
@[go_sem] theorem belowK_eq (W : World) (Q : Exit → Slots → World → Prop) (s : Slots) : belowK W Q s = ∀ w', Below W.heap.size W w' → Q .normal s w' := propext Iff.rfl
theorem anyG_congr {P : Program} {n : Nat} {ops : Array Oper} {W : World} {K : Slots → Prop} {o : Oper} {rest : List Oper} {s : Slots} {g g' : Value} {want : Bool} (h : g = g') : anyG P n ops W K o rest s g want = anyG P n ops W K o rest s g' want := by rw [h]
theorem anyRes_congr {P : Program} {W : World} {r r' : World → Result Next} {k : Value → Prop} (h : ∀ w, r w = r' w) : anyRes P W r k = anyRes P W r' k := by rw [show r = r' from funext h]
theorem anyCall_congr {P : Program} {W : World} {f : FuncId} {args args' : Array Value} {k : Value → Prop} (h : args = args') : anyCall P f args W k = anyCall P f args' W k := by rw [h]
theorem anyLoad_congr {P : Program} {W : World} {v v' : Value} {t t' : Option (Option Nat)} {k : Value → Prop} (h : v = v') (ht : t = t') : anyLoad P W v t k = anyLoad P W v' t' k := by rw [h, ht]
theorem anyOp_congr {P : Program} {W : World} {o : Oper} {s : Slots} {k : Value → Prop} : anyOp P W o s k = anyOp P W o s k := rfl
theorem anyE_congr {P : Program} {n : Nat} {ops : Array Oper} {W : World} {K : Slots → Prop} {l : List Oper} {s : Slots} : anyE P n ops W K l s = anyE P n ops W K l s := rfl
theorem anyK_congr {P : Program} {n : Nat} {ops : Array Oper} {W : World} {K : Slots → Prop} {l : List Oper} {s : Slots} {d : Option Tmp} {v v' : Value} (h : v = v') : anyK P n ops W K l s d v = anyK P n ops W K l s d v' := by rw [h]
attribute [congr] anyG_congr anyRes_congr anyCall_congr anyLoad_congr anyOp_congr anyE_congr anyK_congr
theorem readCells_below {W w : World} (hb : Below W.heap.size W w) {a : Addr} (ha : a.block < W.heap.size) : ∀ (n i : Nat), readCells w a i n = readCells W a i n
  | 0, i => rfl
  | n + 1, i => by
    have hc : w.cell? (a.add i) = W.cell? (a.add i) := hb.cell (by unfold Addr.add; split <;> exact ha)
    simp only [readCells, hc, readCells_below hb ha n (i + 1)]
theorem loadR_below {P : Program} {W w : World} (hb : Below W.heap.size W w) {a : Addr} (ha : a.block < W.heap.size) {t : Option (Option Nat)} {k : Value → Prop} (h : stillRes P W (loadR P (.pointer (some a)) t W) k) :
    ∃ v, loadR P (.pointer (some a)) t w = .ok (.value v) w ∧ loadR P (.pointer (some a)) t W = .ok (.value v) W ∧ k v := by
  unfold loadR at h ⊢
  cases t with
  | none => exact h.elim
  | some t =>
    cases t with
    | none =>
      simp only at h ⊢
      have hc : w.cell? a = W.cell? a := hb.cell ha
      rw [hc]
      cases hv : W.cell? a with
      | none => rw [hv] at h; exact h.elim
      | some v => rw [hv] at h; exact ⟨v, rfl, rfl, h.2⟩
    | some m =>
      simp only at h ⊢
      rw [readCells_below hb ha]
      cases hv : readCells W a 0 m with
      | none => rw [hv] at h; exact h.elim
      | some v => rw [hv] at h; exact ⟨_, rfl, rfl, h.2⟩
theorem anyOp_res {P : Program} {W : World} {o : Oper} {s : Slots} {k : Value → Prop} (h : anyOp P W o s k) : anyRes P W (fun w => opR P o s w) k := by
  unfold anyOp at h
  split at h
  · rename_i ty x ho
    unfold anyLoad at h
    split at h
    · rename_i a he
      obtain ⟨h0, h⟩ := h
      split at h0
      · rename_i ha
        have e : ∀ w, opR P o s w = loadR P (.pointer (some a)) (shapeOf P ty) w := by intro w; unfold opR; simp only [ho, he]
        obtain ⟨v, _, h2, hk⟩ := loadR_below (Below.refl _ W) ha h
        refine ⟨v, fun w hw => ?_, hk⟩
        obtain ⟨v', h1, h2', _⟩ := loadR_below hw ha h
        rw [h2] at h2'
        injection h2' with h2'
        injection h2' with h2'
        simp only [e, h1]
        exact ⟨h2'.symm, hw⟩
      · cases h0
    · exact h.elim
  · exact h
theorem anyE_vals {P : Program} {n : Nat} {ops : Array Oper} {W : World} {K : Slots → Prop} : ∀ (l : List Oper) (s : Slots), anyE P n ops W K l s →
    ∃ vs : List Value, vs.length = l.length ∧ (∀ (i : Nat) (o : Oper), l[i]? = some o → ∃ v, vs[i]? = some v ∧ oneE P ops (Below W.heap.size W) (putAll n (l.take i) (vs.take i) s) o v) ∧ K (putAll n l vs s)
  | [], s, h => ⟨[], rfl, fun i o h => by simp at h, h⟩
  | o :: rest, s, h => by
    have key : ∃ v, oneE P ops (Below W.heap.size W) s o v ∧ anyE P n ops W K rest (put n s o.dst v) := by
      unfold anyE at h
      unfold oneE
      cases hg : o.guard with
      | none =>
        simp only [hg] at h ⊢
        obtain ⟨v, hv, hk⟩ := anyOp_res h
        exact ⟨v, hv, hk⟩
      | some jw =>
        obtain ⟨j, want⟩ := jw
        simp only [hg] at h ⊢
        generalize guardS ops s j = g at h
        cases g with
        | bool b =>
          simp only at h ⊢
          split at h
          · rename_i e1
            obtain ⟨v, hv, hk⟩ := anyOp_res h
            exact ⟨v, by rw [if_pos e1]; exact hv, hk⟩
          · rename_i e1; exact ⟨undef, by rw [if_neg e1], h⟩
        | _ => exact ⟨undef, rfl, h⟩
    obtain ⟨v, h1, h2⟩ := key
    obtain ⟨vs, hl, hi, hk⟩ := anyE_vals rest _ h2
    refine ⟨v :: vs, by simp [hl], fun i p hp => ?_, hk⟩
    cases i with
    | zero => simp at hp; subst hp; exact ⟨v, rfl, h1⟩
    | succ i => obtain ⟨u, hu, hone⟩ := hi i p (by simpa using hp); exact ⟨u, by simpa using hu, hone⟩
theorem eachE_of {P : Program} {ops : Array Oper} {R : World → Prop} {s : Slots} : ∀ (l : List Oper) (vs : List Value), vs.length = l.length → (∀ (i : Nat) (o : Oper), l[i]? = some o → ∃ v, vs[i]? = some v ∧ oneE P ops R s o v) → eachE P ops R s l vs
  | [], [], _, _ => trivial
  | [], _ :: _, h, _ => by simp at h
  | _ :: _, [], h, _ => by simp at h
  | o :: l, v :: vs, h, hi => by
    obtain ⟨u, hu, h1⟩ := hi 0 o rfl
    simp at hu; subst hu
    exact ⟨h1, eachE_of l vs (by simpa using h) fun i p hp => hi (i + 1) p (by simpa using hp)⟩
theorem putAll_append (n : Nat) : ∀ (l : List Oper) (vs : List Value) (l2 : List Oper) (v2 : List Value) (s : Slots), vs.length = l.length → putAll n (l ++ l2) (vs ++ v2) s = putAll n l2 v2 (putAll n l vs s)
  | [], [], l2, v2, s, _ => rfl
  | [], _ :: _, _, _, _, h => by simp at h
  | _ :: _, [], _, _, _, h => by simp at h
  | o :: l, v :: vs, l2, v2, s, h => putAll_append n l vs l2 v2 _ (by simpa using h)
/-- A drawn region whose operations' values do not hang on the order: in the order of the text. -/
theorem W_below {P : Program} {n id : Nat} {l : List Oper} {s : Slots} {w : World} {Q : Exit → Slots → World → Prop} (hm : P.follows .mixedOrders = true) (hB : ordB l.toArray = true)
    (h : anyE P n l.toArray w (belowK w Q) l s) : W P n (.region id l.toArray true) s w Q := by
  obtain ⟨vs, hl, hi, hk⟩ := anyE_vals l s h
  refine W_any vs (Below w.heap.size w) hm hB (ext_drew w) (eachE_of l vs hl fun i o ho => ?_) hk
  obtain ⟨v, hv, h1⟩ := hi i o ho
  obtain ⟨hsel, hback, hdst⟩ := ordB_at hB (i := i) (o := o) (by simpa using ho)
  refine ⟨v, hv, oneE_congr hsel (fun t ht => ?_) h1⟩
  have e : putAll n l vs s = putAll n (l.drop i) (vs.drop i) (putAll n (l.take i) (vs.take i) s) := by
    rw [← putAll_append n (l.take i) (vs.take i) _ _ s (by simp [hl]), List.take_append_drop, List.take_append_drop]
  rw [e]
  refine (putAll_far n _ _ _ t fun p hp hd => ?_).symm
  obtain ⟨j, hj⟩ := List.mem_iff_getElem?.1 hp
  rw [List.getElem?_drop] at hj
  obtain ⟨e1, he1, hb1, he2⟩ := (hdst (i + j) p t (by simpa using hj) hd).1 ht
  have := hback e1 he1 hb1
  omega

/-! Along a tree of orders: pure operations first, else whichever is ready. -/
inductive Tree where
  | done
  | pure (i : Nat) (r : Tree)
  | one (i : Nat) (r : Tree)
  | two (i : Nat) (r : Tree) (j : Nat) (q : Tree)
def treeB (ops : Array Oper) : Tree → Nat → Array Bool → Bool
  | .done, f, listed => f == 0 && (Region.ready .any ops listed).isEmpty
  | .pure i r, f + 1, listed => (Region.ready .any ops listed).contains i && Region.free .any ops listed i && treeB ops r f (listed.setIfInBounds i true)
  | .one i r, f + 1, listed => Region.ready .any ops listed == [i] && treeB ops r f (listed.setIfInBounds i true)
  | .two i r j q, f + 1, listed => Region.ready .any ops listed == [i, j] && treeB ops r f (listed.setIfInBounds i true) && treeB ops q f (listed.setIfInBounds j true)
  | _, _, _ => false
def runO (P : Program) (b : Bool) (o : Oper) (s : Slots) (w : World) (k : Value → World → Prop) : Prop :=
  match b with
  | true => pureE (fun w => opR P o s w) (fun v => k v w)
  | false => resE P (opR P o s w) k
def stepG (P : Program) (n : Nat) (b : Bool) (o : Oper) (g : Option (Value × Bool)) (s : Slots) (w : World) (k : Slots → World → Prop) : Prop :=
  match g with
  | none => runO P b o s w fun v w' => k (put n s o.dst v) w'
  | some (.bool c, want) => if c == want then runO P b o s w fun v w' => k (put n s o.dst v) w' else k (put n s o.dst undef) w
  | some _ => k (put n s o.dst undef) w
def stepO (P : Program) (n : Nat) (ops : Array Oper) (o : Option Oper) (b : Bool) (s : Slots) (w : World) (k : Slots → World → Prop) : Prop :=
  match o with
  | none => False
  | some o => stepG P n b { o with guard := none } (o.guard.map fun (j, want) => (guardS ops s j, want)) s w k
def treeE (P : Program) (n : Nat) (ops : Array Oper) (K : Slots → World → Prop) : Tree → Slots → World → Prop
  | .done, s, w => K s w
  | .pure i r, s, w => stepO P n ops ops[i]? true s w (treeE P n ops K r)
  | .one i r, s, w => stepO P n ops ops[i]? false s w (treeE P n ops K r)
  | .two i r j q, s, w => stepO P n ops ops[i]? false s w (treeE P n ops K r) ∧ stepO P n ops ops[j]? false s w (treeE P n ops K q)
def treeK (P : Program) (n : Nat) (ops : Array Oper) (K : Slots → World → Prop) (r : Tree) (s : Slots) (d : Option Tmp) : Kont := fun v w => treeE P n ops K r (put n s d v) w
def treeV (P : Program) (n : Nat) (ops : Array Oper) (K : Slots → World → Prop) (r : Tree) (s : Slots) (d : Option Tmp) (w : World) : Value → Prop := fun v => treeE P n ops K r (put n s d v) w
/-- One operation of a tree, its guard's value at hand. -/
def treeG (P : Program) (n : Nat) (ops : Array Oper) (K : Slots → World → Prop) (r : Tree) (b : Bool) (o : Oper) (s : Slots) (w : World) (g : Value) (want : Bool) : Prop := stepG P n b o (some (g, want)) s w (treeE P n ops K r)
def treeO (P : Program) (n : Nat) (ops : Array Oper) (K : Slots → World → Prop) (o : Option Oper) (b : Bool) (r : Tree) (s : Slots) (w : World) : Prop := stepO P n ops o b s w (treeE P n ops K r)
section
variable (P : Program) (n : Nat) (ops : Array Oper) (K : Slots → World → Prop) (r q : Tree) (s : Slots) (w : World) (i j : Nat) (d : Option Tmp) (o : Oper)
@[go_sem] theorem treeE_done : treeE P n ops K .done s w = K s w := propext Iff.rfl
@[go_sem] theorem treeE_pure : treeE P n ops K (.pure i r) s w = treeO P n ops K ops[i]? true r s w := propext Iff.rfl
@[go_sem] theorem treeE_one : treeE P n ops K (.one i r) s w = treeO P n ops K ops[i]? false r s w := propext Iff.rfl
@[go_sem] theorem treeE_two : treeE P n ops K (.two i r j q) s w = (treeO P n ops K ops[i]? false r s w ∧ treeO P n ops K ops[j]? false q s w) := propext Iff.rfl
@[go_sem] theorem treeO_pure (op : Op) (ty : TypeId) (pos : String) (after : Array Edge) : treeO P n ops K (some ⟨d, op, ty, pos, after, none⟩) true r s w = pureE (fun w => opR P ⟨d, op, ty, pos, after, none⟩ s w) (treeV P n ops K r s d w) := propext Iff.rfl
@[go_sem] theorem treeO_loud (op : Op) (ty : TypeId) (pos : String) (after : Array Edge) : treeO P n ops K (some ⟨d, op, ty, pos, after, none⟩) false r s w = resE P (opR P ⟨d, op, ty, pos, after, none⟩ s w) (treeK P n ops K r s d) := propext Iff.rfl
@[go_sem] theorem treeO_guard (op : Op) (ty : TypeId) (pos : String) (after : Array Edge) (want b : Bool) : treeO P n ops K (some ⟨d, op, ty, pos, after, some (j, want)⟩) b r s w = treeG P n ops K r b ⟨d, op, ty, pos, after, none⟩ s w (guardS ops s j) want := propext Iff.rfl
@[go_sem] theorem treeG_true : treeG P n ops K r true o s w (.bool true) true = pureE (fun w => opR P o s w) (treeV P n ops K r s o.dst w) := propext Iff.rfl
@[go_sem] theorem treeG_false : treeG P n ops K r true o s w (.bool false) false = pureE (fun w => opR P o s w) (treeV P n ops K r s o.dst w) := propext Iff.rfl
@[go_sem] theorem treeG_ltrue : treeG P n ops K r false o s w (.bool true) true = resE P (opR P o s w) (treeK P n ops K r s o.dst) := propext Iff.rfl
@[go_sem] theorem treeG_lfalse : treeG P n ops K r false o s w (.bool false) false = resE P (opR P o s w) (treeK P n ops K r s o.dst) := propext Iff.rfl
@[go_sem] theorem treeG_skip1 (b : Bool) : treeG P n ops K r b o s w (.bool true) false = treeE P n ops K r (put n s o.dst undef) w := propext Iff.rfl
@[go_sem] theorem treeG_skip2 (b : Bool) : treeG P n ops K r b o s w (.bool false) true = treeE P n ops K r (put n s o.dst undef) w := propext Iff.rfl
@[go_sem] theorem treeG_skip3 (b want : Bool) : treeG P n ops K r b o s w undef want = treeE P n ops K r (put n s o.dst undef) w := propext Iff.rfl
@[go_sem] theorem treeG_dec (p : Prop) [Decidable p] (b want : Bool) : treeG P n ops K r b o s w (.bool (decide p)) want = treeG P n ops K r b o s w (.bool (natB (if p then 1 else 0))) want := by
  by_cases h : p <;> simp [h, natB]
@[go_sem] theorem treeG_ndec (p : Prop) [Decidable p] (b want : Bool) : treeG P n ops K r b o s w (.bool (!decide p)) want = treeG P n ops K r b o s w (.bool (natB (if p then 0 else 1))) want := by
  by_cases h : p <;> simp [h, natB]
@[go_sem] theorem treeK_eq (v : Value) : treeK P n ops K r s d v w = treeE P n ops K r (put n s d v) w := propext Iff.rfl
@[go_sem] theorem treeV_eq (v : Value) : treeV P n ops K r s d w v = treeE P n ops K r (put n s d v) w := propext Iff.rfl
end
theorem treeO_congr {P : Program} {n : Nat} {ops : Array Oper} {K : Slots → World → Prop} {o o' : Option Oper} {b : Bool} {r : Tree} {s : Slots} {w w' : World} (h : o = o') (hw : w = w') : treeO P n ops K o b r s w = treeO P n ops K o' b r s w' := by rw [h, hw]
theorem treeE_congr {P : Program} {n : Nat} {ops : Array Oper} {K : Slots → World → Prop} {r : Tree} {s : Slots} {w w' : World} (h : w = w') : treeE P n ops K r s w = treeE P n ops K r s w' := by rw [h]
theorem treeG_congr {P : Program} {n : Nat} {ops : Array Oper} {K : Slots → World → Prop} {r : Tree} {b : Bool} {o : Oper} {s : Slots} {w w' : World} {g g' : Value} {want : Bool} (h : g = g') (hw : w = w') : treeG P n ops K r b o s w g want = treeG P n ops K r b o s w' g' want := by rw [h, hw]
theorem treeK_congr {P : Program} {n : Nat} {ops : Array Oper} {K : Slots → World → Prop} {r : Tree} {s : Slots} {d : Option Tmp} {v v' : Value} {w w' : World} (h : v = v') (hw : w = w') : treeK P n ops K r s d v w = treeK P n ops K r s d v' w' := by rw [h, hw]
theorem treeV_congr {P : Program} {n : Nat} {ops : Array Oper} {K : Slots → World → Prop} {r : Tree} {s : Slots} {d : Option Tmp} {v v' : Value} {w : World} (h : v = v') : treeV P n ops K r s d w v = treeV P n ops K r s d w v' := by rw [h]
attribute [congr] treeO_congr treeE_congr treeG_congr treeK_congr treeV_congr
theorem stepO_yields {P : Program} {n : Nat} {ops : Array Oper} {o : Oper} {s : Slots} {w : World} {k : Slots → World → Prop} {a : Act} (hf : Fits n ds s a) (h : stepO P n ops (some o) true s w k) : ∃ v, YieldsAll P ops o v a ∧ k (put n s o.dst v) w := by
  unfold stepO at h
  simp only at h
  have run : runO P true { o with guard := none } s w (fun v w' => k (put n s o.dst v) w') → Region.wanted o (yielded ops a.tmps) = true → ∃ v, YieldsAll P ops o v a ∧ k (put n s o.dst v) w := by
    rintro ⟨v, hv, hk⟩ hw
    refine ⟨v, .inl ⟨hw, fun w' => ?_⟩, hk⟩
    rw [hf.eval, show execOp (ev s) o = execOp (ev s) { o with guard := none } from rfl]
    exact opR_ends P _ s w' _ _ (hv w')
  cases hg : o.guard with
  | none =>
    simp only [hg, Option.map_none, stepG] at h
    exact run h (by simp [Region.wanted, hg])
  | some jw =>
    obtain ⟨j, want⟩ := jw
    simp only [hg, Option.map_some] at h
    have hw := yielded_eq hf ops j
    generalize guardS ops s j = g at h hw
    cases g with
    | bool b =>
      simp only [stepG] at h
      by_cases hb : b = want
      · subst hb
        simp only [BEq.rfl, if_true] at h
        exact run h (by simp [Region.wanted, hg, hw])
      · have e1 : (b == want) = false := by simpa using hb
        simp only [e1, Bool.false_eq_true, if_false] at h
        exact ⟨undef, .inr ⟨by simp [Region.wanted, hg, hw, hb], rfl⟩, h⟩
    | _ => exact ⟨undef, .inr ⟨by simp [Region.wanted, hg, hw], rfl⟩, h⟩
theorem stepO_runs {P : Program} {n : Nat} {ops : Array Oper} {o : Oper} {i : Nat} (hi : ops[i]? = some o) {s : Slots} {w : World} {k : Slots → World → Prop} {a : Act} (hf : Fits n ds s a) (h : stepO P n ops (some o) false s w k) {K : Act → World → Prop} {Q : Exit → Act → World → Prop}
    (hK : ∀ s' w' a', Fits n ds s' a' → k s' w' → K a' w') : wpOpIn (fR ro) 0 P ops Q i K a w := by
  unfold stepO at h
  simp only at h
  unfold wpOpIn
  simp only [hi]
  have run : runO P false { o with guard := none } s w (fun v w' => k (put n s o.dst v) w') → o.wpIn (fR ro) 0 P a w K Q := by
    intro hr
    exact wpIn_of_resE (by rw [hf.eval, show execOp (ev s) o = execOp (ev s) { o with guard := none } from rfl]; exact resE_ends (opR_ends P _ s w) hr) (fun v w' hk => hK _ _ _ (hf.put _ _) hk)
  cases hg : o.guard with
  | none =>
    simp only [hg, Option.map_none, stepG] at h
    rw [if_pos (by simp [Region.wanted, hg])]
    exact run h
  | some jw =>
    obtain ⟨j, want⟩ := jw
    simp only [hg, Option.map_some] at h
    have hw := yielded_eq hf ops j
    generalize guardS ops s j = g at h hw
    cases g with
    | bool b =>
      simp only [stepG] at h
      by_cases hb : b = want
      · subst hb
        simp only [BEq.rfl, if_true] at h
        rw [if_pos (by simp [Region.wanted, hg, hw])]
        exact run h
      · have e1 : (b == want) = false := by simpa using hb
        simp only [e1, Bool.false_eq_true, if_false] at h
        rw [if_neg (by simp [Region.wanted, hg, hw, hb])]
        exact ⟨fun f _ => trivial, hK _ _ _ (hf.put _ _) h⟩
    | _ =>
      rw [if_neg (by simp [Region.wanted, hg, hw])]
      exact ⟨fun f _ => trivial, hK _ _ _ (hf.put _ _) h⟩
theorem treeE_sound {P : Program} {n : Nat} {ops : Array Oper} {K : Slots → World → Prop} {Q : Exit → Act → World → Prop} (hQ : ∀ e a w, Q e a w → e = .normal) (hK : ∀ s w a, Fits n ds s a → K s w → Q .normal a w) (hs : Region.noSelect ops = true) :
    ∀ (t : Tree) (f : Nat) (listed : Array Bool) (s : Slots) (w : World) (a : Act), Fits n ds s a → treeB ops t f listed = true → treeE P n ops K t s w → wpAnyIn (fR ro) 0 P .any ops Q f listed a w := by
  intro t
  induction t with
  | done =>
    intro f listed s w a hf hB h
    simp only [treeB, Bool.and_eq_true, beq_iff_eq] at hB
    obtain ⟨rfl, hB⟩ := hB
    exact ⟨by simpa using hB, hK s w a hf h⟩
  | pure i r ih =>
    intro f listed s w a hf hB h
    cases f with
    | zero => simp [treeB] at hB
    | succ f =>
      simp only [treeB, Bool.and_eq_true] at hB
      unfold treeE at h
      cases hi : ops[i]? with
      | none => simp only [hi] at h; exact h.elim
      | some o =>
        simp only [hi] at h
        obtain ⟨v, hv, hk⟩ := stepO_yields hf h
        exact wpAny_first hQ hi (Region.noSelect_spec hs) f listed a w (Region.free_spec hi hB.1.2) (by simpa using hB.1.1) hv (ih _ _ _ _ _ (hf.put _ _) hB.2 hk)
  | one i r ih =>
    intro f listed s w a hf hB h
    cases f with
    | zero => simp [treeB] at hB
    | succ f =>
      simp only [treeB, Bool.and_eq_true, beq_iff_eq] at hB
      unfold treeE at h
      refine ⟨fun h0 => (by rw [hB.1] at h0; cases h0), fun j hj => ?_⟩
      rw [hB.1] at hj
      obtain rfl : j = i := by simpa using hj
      cases hi : ops[j]? with
      | none => simp only [hi] at h; exact h.elim
      | some o =>
        simp only [hi] at h
        exact stepO_runs hi hf h fun s' w' a' hf' hk => ih _ _ _ _ _ hf' hB.2 hk
  | two i r j q ih1 ih2 =>
    intro f listed s w a hf hB h
    cases f with
    | zero => simp [treeB] at hB
    | succ f =>
      simp only [treeB, Bool.and_eq_true, beq_iff_eq] at hB
      unfold treeE at h
      refine ⟨fun h0 => (by rw [hB.1.1] at h0; cases h0), fun x hx => ?_⟩
      rw [hB.1.1] at hx
      rcases (by simpa using hx : x = i ∨ x = j) with rfl | rfl
      · cases hi : ops[x]? with
        | none => simp only [hi] at h; exact h.1.elim
        | some o =>
          simp only [hi] at h
          exact stepO_runs hi hf h.1 fun s' w' a' hf' hk => ih1 _ _ _ _ _ hf' hB.1.2 hk
      · cases hi : ops[x]? with
        | none => simp only [hi] at h; exact h.2.elim
        | some o =>
          simp only [hi] at h
          exact stepO_runs hi hf h.2 fun s' w' a' hf' hk => ih2 _ _ _ _ _ hf' hB.2 hk
theorem W_tree {P : Program} {n id : Nat} {l : List Oper} {s : Slots} {w : World} {Q : Exit → Slots → World → Prop} (t : Tree) (hm : P.follows .mixedOrders = true) (hB : (Region.noSelect l.toArray && treeB l.toArray t l.length (Array.replicate l.length false)) = true)
    (h : treeE P n l.toArray (Q .normal) t s w.drew) : W P n (.region id l.toArray true) s w Q := by
  simp only [Bool.and_eq_true] at hB
  intro ro ds a hf
  have h1 : (Code.region id l.toArray true).wpIn (fR ro) 0 P (fun e a' w' => e = .normal ∧ ∃ s', Fits n ds s' a' ∧ Q .normal s' w') a w := by
    refine wpIn_region_any hm ?_
    have h2 := treeE_sound (ro := ro) (Q := fun e a' w' => e = .normal ∧ ∃ s', Fits n ds s' a' ∧ Q .normal s' w') (fun e a w h => h.1) (fun s' w' a' hf' hk => ⟨rfl, s', hf', hk⟩) hB.1 t l.length _ s w.drew a hf hB.2 h
    simpa using h2
  exact wpIn_mono h1 fun e a' w' ⟨he, s', hf', hq⟩ => by subst he; exact ⟨s', hf', hq⟩
/-- A piece of code, and what stands behind it by what it has come to alone. -/
theorem W_cut {P : Program} {n : Nat} {c : Code} {s : Slots} {w : World} {Q : Exit → Slots → World → Prop} (Q' : Exit → Slots → World → Prop) (h : W P n c s w Q') (hQ : ∀ e s w, Q' e s w → Q e s w) : W P n c s w Q := by
  intro ro ds a hf
  exact wpIn_mono (h ro ds a hf) fun e a' w' ⟨s', hf', hq⟩ => ⟨s', hf', hQ e s' w' hq⟩
/-- A loop that is left by one exit, whichever way: what holds behind it is said once. -/
def exitsAt (id : Nat) (F : Slots → World → Prop) : Exit → Slots → World → Prop := fun e s w => e = .exit id ∧ F s w
@[go_sem] theorem exitsAt_exit (id : Nat) (F : Slots → World → Prop) (s : Slots) (w : World) : exitsAt id F (.exit id) s w = F s w := by simp [exitsAt]
theorem W_loopAt {P : Program} {n : Nat} {c : Code} {s : Slots} {w : World} {Q : Exit → Slots → World → Prop} (id : Nat) (I : Slots → World → Prop) (m : Slots → World → Nat) (F : Slots → World → Prop) (h0 : I s w)
    (round : ∀ s w, I s w → E P n c s w (@loopQ ⟨I⟩ ⟨m⟩ (m s w) (exitsAt id F))) (hF : ∀ s w, F s w → Q (.exit id) s w) : W P n (.loop c) s w Q :=
  W_cut (exitsAt id F) (W_loop I m h0 round) fun e s w ⟨he, hf⟩ => by subst he; exact hF s w hf
end Go.Proofs.YtpmmfabendnhiaaDoor
