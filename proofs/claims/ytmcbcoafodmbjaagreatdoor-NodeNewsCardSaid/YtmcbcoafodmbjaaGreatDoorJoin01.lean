/-
  Texts joined: Eng.
-/
import Derived.Test.YtmcbcoafodmbjaaGreatDoorJoin00
import Derived.RangeFuncNested
import Derived.OrdersIn
import Derived.TacticsIn
namespace Go.Proofs.YtmcbcoafodmbjaaGreatDoor
open Go.RowKit
set_option linter.unusedVariables false
variable {ro : Option Nat} {ds : List Deferred}

abbrev Slots := Nat → Value
def put (n : Nat) (s : Slots) : Option Tmp → Value → Slots
  | some d, v => fun t => if t = d ∧ d < n then v else s t
  | none, _ => s
theorem put_same (n : Nat) (s : Slots) (d : Nat) (v : Value) (h : d < n) : put n s (some d) v d = v := by simp [put, h]
theorem put_other (n : Nat) (s : Slots) (d t : Nat) (v : Value) (h : t ≠ d) : put n s (some d) v t = s t := by simp [put, h]
theorem put_none (n : Nat) (s : Slots) (v : Value) : put n s none v = s := Eq.trans rfl rfl
def ev (s : Slots) : Operand → Value
  | .tmp t => s t
  | .const v => v
  | .global g => .pointer (some ⟨g, 0, none⟩)
  | .func f => .func (.func f) #[] #[]
theorem ev_tmp (s : Slots) (t : Tmp) : ev s (.tmp t) = s t := Eq.trans rfl rfl
theorem ev_const (s : Slots) (v : Value) : ev s (.const v) = v := Eq.trans rfl rfl
theorem ev_global (s : Slots) (g : Nat) : ev s (.global g) = .pointer (some ⟨g, 0, none⟩) := Eq.trans rfl rfl
theorem ev_func (s : Slots) (f : FuncId) : ev s (.func f) = .func (.func f) #[] #[] := Eq.trans rfl rfl
structure Fits (n : Nat) (ds : List Deferred) (s : Slots) (a : Act) : Prop where
  size : a.tmps.size = n
  defers : a.defers = ds
  at_ : ∀ t, a.tmps.getD t undef = s t
theorem Fits.eval {n : Nat} {s : Slots} {a : Act} (h : Fits n ds s a) : a.eval = ev s := by
  funext o; cases o <;> simp [Act.eval, ev, ← h.at_]
theorem Fits.put {n : Nat} {s : Slots} {a : Act} (h : Fits n ds s a) (d : Option Tmp) (v : Value) : Fits n ds (put n s d v) (a.put d v) := by
  cases d with
  | none => exact h
  | some d =>
    refine ⟨by simp [Act.put, h.size], h.defers, fun t => ?_⟩
    have := h.at_ t
    simp only [Act.put, YtmcbcoafodmbjaaGreatDoor.put, ← this, Array.getD_eq_getD_getElem?]
    have hs := h.size
    by_cases htd : t = d
    · subst htd
      by_cases hlt : t < n
      · rw [if_pos ⟨rfl, hlt⟩, Array.getElem?_setIfInBounds_self_of_lt (by omega)]; rfl
      · rw [if_neg (fun h => hlt h.2), Array.setIfInBounds_eq_of_size_le (by omega)]
    · rw [if_neg (by omega), Array.getElem?_setIfInBounds_ne (fun e => htd e.symm)]
def guardS (ops : Array Oper) (s : Slots) (j : Nat) : Value := match (ops[j]?).bind (·.dst) with | some d => s d | none => undef
theorem yielded_eq {n : Nat} {s : Slots} {a : Act} (h : Fits n ds s a) (ops : Array Oper) (j : Nat) :
    yielded ops a.tmps j = match guardS ops s j with | .bool b => some b | _ => none := by
  unfold yielded guardS
  cases h1 : (ops[j]?).bind (·.dst) with
  | none => rfl
  | some d =>
    simp only [Option.bind_some]
    rw [← h.at_ d, Array.getD_eq_getD_getElem?]
    cases h2 : a.tmps[d]? with
    | none => rfl
    | some v => simp only [Option.getD_some]; cases v <;> rfl

abbrev Kont := Value → World → Prop
class Box (α : Type) where
  of : α
def callE (P : Program) (f : FuncId) (args : Array Value) (w : World) (k : Kont) : Prop :=
  Calls P f args w fun e w' => ∃ v, e = .returned v ∧ k v w'
def Runs (P : Program) (f : FuncId) (args : Array Value) (w : World) (v : Value) (w' : World) : Prop :=
  Calls P f args w fun e w'' => e = .returned v ∧ w'' = w'
theorem ended_one {P : Program} {m : Machine} {n n' : Nat} {o o' : Outcome} {w w' : World} (h : runN P n m = .ended o w) (h' : runN P n' m = .ended o' w') : o = o' ∧ w = w' := by
  have key : ∀ a b : Nat, runN P a m = .ended o w → runN P (a + b) m = .ended o w := by
    intro a b h; rw [runN_add, h]
  have e1 := key n n' h
  have key' : runN P (n' + n) m = .ended o' w' := by rw [runN_add, h']
  rw [Nat.add_comm, key'] at e1
  injection e1 with e1 e2
  exact ⟨e1.symm, e2.symm⟩
theorem Runs.done {P : Program} {f : FuncId} {args : Array Value} {w w' : World} {v : Value} (h : Runs P f args w v w') (hi : P.inits.idxOf? f = none) :
    ∃ n, runN P n (lone (Frame.enter P f args .normal) [] w) = .ended (.done v) w' := by
  have h' : Calls P f args w fun | .returned x, y => x = v ∧ y = w' | _, _ => False := h.mono fun e y ⟨he, hy⟩ => by subst he; exact ⟨rfl, hy⟩
  obtain ⟨n, x, y, hr, rfl, rfl⟩ := h'.done hi
  exact ⟨n, hr⟩
theorem callE_eq {P : Program} {f : FuncId} {args : Array Value} {w w' : World} {v : Value} (hi : P.inits.idxOf? f = none) (h : Runs P f args w v w') (k : Kont) :
    callE P f args w k = k v w' := by
  apply propext
  constructor
  · intro hc
    have hc' : Calls P f args w fun | .returned x, y => k x y | _, _ => False := hc.mono fun e y ⟨x, he, hk⟩ => by subst he; exact hk
    obtain ⟨n, x, y, hr, hk⟩ := hc'.done hi
    obtain ⟨n', hr'⟩ := h.done hi
    obtain ⟨e1, e2⟩ := ended_one hr hr'
    injection e1 with e1
    subst e1; subst e2
    exact hk
  · intro hk
    exact h.mono fun e y ⟨he, hy⟩ => ⟨v, he, hy ▸ hk⟩
theorem callE_at {P : Program} {f : FuncId} {args : Array Value} {w : World} {k : Kont} (h : ∀ W, W = w → callE P f args W k) : callE P f args w k := h w rfl
theorem callE_of {P : Program} {f : FuncId} {args : Array Value} {w : World} {R : Value → World → Prop} {k : Kont} (h : callE P f args w R) (hk : ∀ v w', R v w' → k v w') : callE P f args w k :=
  h.mono fun e y ⟨v, he, hr⟩ => ⟨v, he, hk _ _ hr⟩

def wrapO (k : IntKind) (n : Int) : Int := k.wrap n
@[go_sem] theorem wrap_i64_if (n : Int) : IntKind.i64.wrap n = if -9223372036854775808 ≤ n ∧ n ≤ 9223372036854775807 then n else wrapO .i64 n := by
  split
  · rename_i h; exact IntWalk.i64_in n h
  · rfl
theorem wrap_u64_if (n : Int) : IntKind.u64.wrap n = if 0 ≤ n ∧ n ≤ 18446744073709551615 then n else wrapO .u64 n := by
  split
  · rename_i h; exact IntWalk.u64_in n h
  · rfl
/-! Reading and writing memory, a struct or an array as a whole too. -/
def shapeOf (P : Program) (ty : TypeId) : Option (Option Nat) :=
  match P.underlying ty with
  | none => none
  | some (.struct _) | some (.array _ _) => (P.info? ty).map fun i => some i.size
  | some _ => (P.info? ty).bind fun i => if i.size = 1 then some none else none
def readCells (w : World) (a : Addr) : Nat → Nat → Option (List Value)
  | _, 0 => some []
  | i, n + 1 => match w.cell? (a.add i) with
    | some v => (readCells w a (i + 1) n).map (v :: ·)
    | none => none
def canWrite (w : World) (a : Addr) : Nat → Nat → Bool
  | _, 0 => true
  | i, n + 1 => (w.cell? (a.add i)).isSome && !w.frozen? (a.add i) && canWrite w a (i + 1) n
def storeSeg (w : World) (a : Addr) : Nat → List Value → World
  | _, [] => w
  | i, v :: vs => storeSeg (w.setCell (a.add i) v) a (i + 1) vs
def allOne : List Value → Bool
  | [] => true
  | v :: l => v.oneCell' && allOne l
theorem allOne_mem : ∀ {l : List Value}, allOne l = true → ∀ v ∈ l, v.oneCell' = true
  | [], _, v, h => by cases h
  | x :: l, h, v, hv => by
    simp only [allOne, Bool.and_eq_true] at h
    rcases List.mem_cons.1 hv with rfl | hv
    · exact h.1
    · exact allOne_mem h.2 v hv
theorem allOne_of : ∀ {l : List Value}, (∀ v ∈ l, v.oneCell' = true) → allOne l = true
  | [], _ => rfl
  | x :: l, h => by simp only [allOne, Bool.and_eq_true]; exact ⟨h x (by simp), allOne_of fun v hv => h v (by simp [hv])⟩
def stuckR {α : Type} (w : World) : Result α := .halt (.stuck "") w
def oneR (c : Option Value) (w : World) : Result Next := match c with | some v => .ok (.value v) w | none => stuckR w
def manyR (c : Option (List Value)) (w : World) : Result Next := match c with | some l => .ok (.value (.agg l.toArray)) w | none => stuckR w
def loadR (P : Program) (v : Value) (t : Option (Option Nat)) (w : World) : Result Next :=
  match v, t with
  | .pointer (some a), some none => oneR (w.cell? a) w
  | .pointer (some a), some (some n) => manyR (readCells w a 0 n) w
  | _, _ => stuckR w
def putR (c : Option Value) (f one : Bool) (a : Addr) (y : Value) (w : World) : Result Next :=
  match c, f, one with
  | some _, false, true => .ok .skip (w.setCell a y)
  | _, _, _ => stuckR w
def putsR (ok size one : Bool) (a : Addr) (l : List Value) (w : World) : Result Next :=
  match ok, size, one with
  | true, true, true => .ok .skip (storeSeg w a 0 l)
  | _, _, _ => stuckR w
def storeR (P : Program) (x y : Value) (t : Option (Option Nat)) (w : World) : Result Next :=
  match x, t with
  | .pointer (some a), some none => putR (w.cell? a) (w.frozen? a) y.oneCell' a y w
  | .pointer (some a), some (some n) =>
    match y with
    | .agg cs => putsR (canWrite w a 0 n) (cs.size == n) (allOne cs.toList) a cs.toList w
    | _ => stuckR w
  | _, _ => stuckR w
def indexR (P : Program) (t : Option TypeDesc) (x i : Value) (w : World) (other : Result Next) : Result Next :=
  match t, x, i with
  | some (.array len elem), .agg cs, .int _ n =>
    if 0 ≤ n ∧ n < len then
      match shapeOf P elem with
      | some none => oneR cs[n.toNat]? w
      | some (some m) => .ok (.value (.agg (cs.extract (n.toNat * m) (n.toNat * m + m)))) w
      | none => stuckR w
    else stuckR w
  | _, _, _ => other
def buildR (P : Program) (t : TypeId) (parts : Array (Nat × Value)) (n : Nat) (w : World) (other : Result Next) : Result Next :=
  if n ≤ 12 then other else
  match P.built t parts.toList with
  | some cs => .ok (.value (.agg cs)) w
  | none => stuckR w
def appendR (P : Program) (t u ty : TypeId) (x y : Value) (w : World) : Result Next := ((Builtin.append_ #[t, u] ty #[x, y]).run P w).andThen fun v w => .ok (.value v) w
def copyR (P : Program) (t u ty : TypeId) (x y : Value) (w : World) : Result Next := ((Builtin.copy_ #[t, u] ty #[x, y]).run P w).andThen fun v w => .ok (.value v) w
def callR (P : Program) (c : Call) (ty : TypeId) (s : Slots) (w : World) (other : Result Next) : Result Next :=
  match c with
  | ⟨.builtin .append, ⟨[x, y]⟩, ⟨[t, u]⟩⟩ => appendR P t u ty (ev s x) (ev s y) w
  | ⟨.builtin .copy, ⟨[x, y]⟩, ⟨[t, u]⟩⟩ => copyR P t u ty (ev s x) (ev s y) w
  | _ => other
def opR (P : Program) (o : Oper) (s : Slots) (w : World) : Result Next :=
  match o.op with
  | .load ty x => loadR P (ev s x) (shapeOf P ty) w
  | .store ty x y => storeR P (ev s x) (ev s y) (shapeOf P ty) w
  | .index t x i => indexR P (P.underlying t) (ev s x) (ev s i) w ((execOp (ev s) o).run P w)
  | .build t parts => buildR P t (parts.map fun (i, x) => (i, ev s x)) parts.size w ((execOp (ev s) o).run P w)
  | .call c => callR P c o.type s w ((execOp (ev s) o).run P w)
  | _ => (execOp (ev s) o).run P w
def Ends {α : Type} (a b : Result α) : Prop := ∀ x w, a = .ok x w → b = .ok x w
theorem shape_some {P : Program} {ty : TypeId} {t : Option Nat} (h : shapeOf P ty = some t) : ∃ d i, P.underlying ty = some d ∧ P.info? ty = some i ∧ i.size = t.getD 1 ∧ (match d with | .struct _ | .array _ _ => true | _ => false) = t.isSome := by
  unfold shapeOf at h
  cases hu : P.underlying ty with
  | none => rw [hu] at h; cases h
  | some d =>
    rw [hu] at h
    cases hi : P.info? ty with
    | none => rw [hi] at h; cases d <;> simp at h
    | some i =>
      rw [hi] at h
      refine ⟨d, i, rfl, rfl, ?_⟩
      cases d <;> simp only [Option.map_some, Option.bind_some, Option.some.injEq] at h <;>
        first
        | (subst h; exact ⟨rfl, rfl⟩)
        | (split at h
           · rename_i h1; injection h with h; subst h; exact ⟨h1, rfl⟩
           · cases h)
theorem run_isAgg {P : Program} {ty : TypeId} {w : World} {t : Option Nat} (h : shapeOf P ty = some t) : (isAgg ty).run P w = .ok t.isSome w := by
  obtain ⟨d, i, hu, _, _, hd⟩ := shape_some h
  rw [← hd]
  cases d <;> simp [isAgg, run_underlying hu]
theorem run_sizeOf_shape {P : Program} {ty : TypeId} {w : World} {t : Option Nat} (h : shapeOf P ty = some t) : (sizeOf ty).run P w = .ok (t.getD 1) w := by
  obtain ⟨d, i, _, hi, hs, _⟩ := shape_some h
  simp [sizeOf, typeInfo, program, Sem.run, hi, hs]
theorem run_readCells {P : Program} {w : World} {a : Addr} : ∀ (n i : Nat) (l : List Value) (acc : Array Value), readCells w a i n = some l → (loadCellsFrom a i n acc).run P w = .ok (acc ++ l.toArray) w := by
  intro n
  induction n with
  | zero => intro i l acc h; simp only [readCells, Option.some.injEq] at h; subst h; simp [loadCellsFrom]
  | succ n ih =>
    intro i l acc h
    simp only [readCells] at h
    cases hc : w.cell? (a.add i) with
    | none => rw [hc] at h; cases h
    | some v =>
      rw [hc] at h
      simp only [Option.map_eq_some_iff] at h
      obtain ⟨l', hl, rfl⟩ := h
      simp only [loadCellsFrom, Sem.run_bind, run_load, hc, Result.andThen_ok, ih _ _ _ hl]
      simp
theorem run_storeSeg {P : Program} {a : Addr} : ∀ (l : List Value) (i : Nat) (w : World), canWrite w a i l.length = true → (∀ v ∈ l, v.oneCell' = true) → (storeCells a l i).run P w = .ok () (storeSeg w a i l) := by
  intro l
  induction l with
  | nil => intro i w _ _; rfl
  | cons v l ih =>
    intro i w hc h1
    simp only [List.length_cons, canWrite, Bool.and_eq_true, Bool.not_eq_true', Option.isSome_iff_exists] at hc
    obtain ⟨⟨⟨u, hu⟩, hf⟩, hc⟩ := hc
    have hs : (store (a.add i) v).run P w = .ok () (w.setCell (a.add i) v) := by
      rw [run_store P w _ v _ (h1 v (by simp)), hu]; simp [hf]
    have hc' : ∀ n j, canWrite w a j n = true → canWrite (w.setCell (a.add i) v) a j n = true := by
      intro n
      induction n with
      | zero => intro j _; rfl
      | succ n ihn =>
        intro j hj
        simp only [canWrite, Bool.and_eq_true, Bool.not_eq_true', Option.isSome_iff_exists] at hj ⊢
        obtain ⟨⟨⟨x, hx⟩, hfx⟩, hj⟩ := hj
        refine ⟨⟨?_, ?_⟩, ihn _ hj⟩
        · obtain ⟨y, hy⟩ := cell?_setCell_some (w := w) (p := a.add i) (x := v) (q := a.add j) (v := x) hx
          exact ⟨_, hy⟩
        · rw [← hfx]; simp
    simp only [storeCells, Sem.run_bind, hs, Result.andThen_ok, ih _ _ (hc' _ _ hc) (fun x hx => h1 x (by simp [hx])), storeSeg]
theorem opR_ends (P : Program) (o : Oper) (s : Slots) (w : World) : Ends (opR P o s w) ((execOp (ev s) o).run P w) := by
  intro x w' h
  unfold opR at h
  split at h
  · rename_i ty y ho
    have he : (execOp (ev s) o).run P w = ((Instr.sureAddr (ev s y)).run P w).andThen fun a w => ((loadVar ty a).run P w).andThen fun v w => .ok (.value v) w := by
      unfold execOp; simp only [ho, Instr.loadAt]; simp [Sem.run_bind]
    rw [he]
    unfold loadR at h
    split at h
    · rename_i a hp ht
      have ha : (isAgg ty).run P w = .ok false w := run_isAgg ht
      unfold oneR at h
      split at h
      · rename_i v hc
        rw [← h]
        simp [Instr.sureAddr, hp, loadVar, ha, hc]
      · cases h
    · rename_i a n hp ht
      have ha : (isAgg ty).run P w = .ok true w := run_isAgg ht
      unfold manyR at h
      split at h
      · rename_i l hc
        rw [← h]
        simp [Instr.sureAddr, hp, loadVar, ha, run_sizeOf_shape ht, loadCells, run_readCells n 0 l #[] hc]
      · cases h
    · cases h
  · rename_i ty y z ho
    have he : (execOp (ev s) o).run P w = ((Instr.sureAddr (ev s y)).run P w).andThen fun a w => ((storeVar ty a (ev s z)).run P w).andThen fun _ w => .ok .skip w := by
      unfold execOp; simp only [ho, Instr.storeAt]; simp [Sem.run_bind]
    rw [he]
    unfold storeR at h
    split at h
    · rename_i a hp ht
      unfold putR at h
      split at h
      · rename_i u hc hf h1
        rw [← h]
        have hcs : (ev s z).cells = #[ev s z] := by
          generalize ev s z = v at h1
          cases v <;> first | rfl | cases h1
        have hs : (store (a.add 0) (ev s z)).run P w = .ok () (w.setCell a (ev s z)) := by
          rw [run_store P w _ _ _ h1]; simp [Addr.add, hc, hf]
        simp [Instr.sureAddr, hp, storeVar, hcs, run_sizeOf_shape ht, storeCells, hs]
      · cases h
    · rename_i a n hp ht
      split at h
      · rename_i cs hz
        unfold putsR at h
        split at h
        · rename_i h1 h2 h3
          rw [← h]
          have h2' : cs.size = n := by simpa using h2
          have hs := run_storeSeg (P := P) (a := a) cs.toList 0 w (by simpa [h2'] using h1) (allOne_mem h3)
          simp [Instr.sureAddr, hp, storeVar, hz, Value.cells, run_sizeOf_shape ht, h2', hs]
        · cases h
      · cases h
    · cases h
  · rename_i t y i ho
    unfold indexR at h
    split at h
    · rename_i len elem cs k n hx1 hx2 hx3
      split at h
      · rename_i hn
        have hn' : (0 : Int) ≤ n ∧ n < len := hn
        split at h
        · rename_i hs
          unfold oneR at h
          split at h
          · rename_i v hc
            rw [← h]
            unfold execOp
            simp [ho, Instr.index, asIntOf, hx2, hx3, run_underlying hx1, hn', part, run_isAgg hs, run_sizeOf_shape hs, hc]
          · cases h
        · rename_i m hs
          rw [← h]
          unfold execOp
          simp [ho, Instr.index, asIntOf, hx2, hx3, run_underlying hx1, hn', part, run_isAgg hs, run_sizeOf_shape hs]
        · cases h
      · cases h
    · exact h
  · rename_i t parts ho
    unfold buildR at h
    split at h
    · exact h
    · split at h
      · rename_i cs hc
        rw [← h]
        unfold execOp
        simp only [ho, Sem.run_bind, run_build w t _ cs hc, Result.andThen_ok, Sem.run_pure]
      · cases h
  · rename_i c ho
    unfold callR at h
    split at h
    · rename_i x y t u
      rw [← h]
      unfold execOp
      simp [ho, resolve, invoke, builtin, appendR]
    · rename_i x y t u
      rw [← h]
      unfold execOp
      simp [ho, resolve, invoke, builtin, copyR]
    · exact h
  · exact h
section
variable (P : Program) (s : Slots) (w : World) (d : Option Tmp) (ty : TypeId) (pos : String) (after : Array Edge)
@[go_sem] theorem opR_move (x : Operand) : opR P ⟨d, .move x, ty, pos, after, none⟩ s w = .ok (.value (ev s x)) w := Eq.trans rfl rfl
@[go_sem] theorem opR_assign (x : Operand) : opR P ⟨d, .assign x, ty, pos, after, none⟩ s w = .ok (.value (ev s x)) w := Eq.trans rfl rfl
@[go_sem] theorem opR_load (t : TypeId) (x : Operand) : opR P ⟨d, .load t x, ty, pos, after, none⟩ s w = loadR P (ev s x) (shapeOf P t) w := Eq.trans rfl rfl
@[go_sem] theorem opR_store (t : TypeId) (x y : Operand) : opR P ⟨d, .store t x y, ty, pos, after, none⟩ s w = storeR P (ev s x) (ev s y) (shapeOf P t) w := Eq.trans rfl rfl
@[go_sem] theorem opR_index (t : TypeId) (x y : Operand) : opR P ⟨d, .index t x y, ty, pos, after, none⟩ s w = indexR P (P.underlying t) (ev s x) (ev s y) w ((execOp (ev s) ⟨d, .index t x y, ty, pos, after, none⟩).run P w) := Eq.trans rfl rfl
@[go_sem] theorem opR_pick (c x y : Operand) : opR P ⟨d, .pick c x y, ty, pos, after, none⟩ s w = (execOp (ev s) ⟨d, .pick c x y, ty, pos, after, none⟩).run P w := Eq.trans rfl rfl
@[go_sem] theorem opR_alloc (t : TypeId) : opR P ⟨d, .alloc t, ty, pos, after, none⟩ s w = (execOp (ev s) ⟨d, .alloc t, ty, pos, after, none⟩).run P w := Eq.trans rfl rfl
@[go_sem] theorem opR_box (t : TypeId) (x : Operand) : opR P ⟨d, .box t x, ty, pos, after, none⟩ s w = (execOp (ev s) ⟨d, .box t x, ty, pos, after, none⟩).run P w := Eq.trans rfl rfl
@[go_sem] theorem opR_build (t : TypeId) (l : Array (Nat × Operand)) : opR P ⟨d, .build t l, ty, pos, after, none⟩ s w = buildR P t (l.map fun (i, x) => (i, ev s x)) l.size w ((execOp (ev s) ⟨d, .build t l, ty, pos, after, none⟩).run P w) := Eq.trans rfl rfl
@[go_sem] theorem buildR_small (t : TypeId) (l : Array (Nat × Value)) (n : Nat) (r : Result Next) (h : n ≤ 12) : buildR P t l n w r = r := if_pos h
theorem buildR_great (t : TypeId) (l : Array (Nat × Value)) (n : Nat) (r : Result Next) (cs : Array Value) (h : ¬ n ≤ 12) (hc : P.built t l.toList = some cs) : buildR P t l n w r = .ok (.value (.agg cs)) w := by
  unfold buildR; rw [if_neg h, hc]
@[go_sem] theorem opR_buildSlice (t : TypeId) (m : Nat) (l : Array (Nat × Operand)) : opR P ⟨d, .buildSlice t m l, ty, pos, after, none⟩ s w = (execOp (ev s) ⟨d, .buildSlice t m l, ty, pos, after, none⟩).run P w := Eq.trans rfl rfl
@[go_sem] theorem opR_nilCheck (x : Operand) : opR P ⟨d, .nilCheck x, ty, pos, after, none⟩ s w = (execOp (ev s) ⟨d, .nilCheck x, ty, pos, after, none⟩).run P w := Eq.trans rfl rfl
@[go_sem] theorem opR_binOp (b : BinOp) (t : TypeId) (x y : Operand) (u : TypeId) : opR P ⟨d, .binOp b t x y u, ty, pos, after, none⟩ s w = (execOp (ev s) ⟨d, .binOp b t x y u, ty, pos, after, none⟩).run P w := Eq.trans rfl rfl
@[go_sem] theorem opR_unOp (b : UnOp) (t : TypeId) (x : Operand) : opR P ⟨d, .unOp b t x, ty, pos, after, none⟩ s w = (execOp (ev s) ⟨d, .unOp b t x, ty, pos, after, none⟩).run P w := Eq.trans rfl rfl
@[go_sem] theorem opR_convert (t u : TypeId) (x : Operand) : opR P ⟨d, .convert t u x, ty, pos, after, none⟩ s w = (execOp (ev s) ⟨d, .convert t u x, ty, pos, after, none⟩).run P w := Eq.trans rfl rfl
@[go_sem] theorem opR_sliceToArrayPointer (t : TypeId) (x : Operand) : opR P ⟨d, .sliceToArrayPointer t x, ty, pos, after, none⟩ s w = (execOp (ev s) ⟨d, .sliceToArrayPointer t x, ty, pos, after, none⟩).run P w := Eq.trans rfl rfl
@[go_sem] theorem opR_makeInterface (t : TypeId) (x : Operand) : opR P ⟨d, .makeInterface t x, ty, pos, after, none⟩ s w = (execOp (ev s) ⟨d, .makeInterface t x, ty, pos, after, none⟩).run P w := Eq.trans rfl rfl
@[go_sem] theorem opR_makeFunc (f : Fn) (l m : Array Operand) : opR P ⟨d, .makeFunc f l m, ty, pos, after, none⟩ s w = (execOp (ev s) ⟨d, .makeFunc f l m, ty, pos, after, none⟩).run P w := Eq.trans rfl rfl
@[go_sem] theorem opR_makeMap (t : TypeId) (x : Option Operand) : opR P ⟨d, .makeMap t x, ty, pos, after, none⟩ s w = (execOp (ev s) ⟨d, .makeMap t x, ty, pos, after, none⟩).run P w := Eq.trans rfl rfl
@[go_sem] theorem opR_makeSlice (t : TypeId) (x y : Operand) : opR P ⟨d, .makeSlice t x y, ty, pos, after, none⟩ s w = (execOp (ev s) ⟨d, .makeSlice t x y, ty, pos, after, none⟩).run P w := Eq.trans rfl rfl
@[go_sem] theorem opR_slice (t : TypeId) (x : Operand) (l h m : Option Operand) : opR P ⟨d, .slice t x l h m, ty, pos, after, none⟩ s w = (execOp (ev s) ⟨d, .slice t x l h m, ty, pos, after, none⟩).run P w := Eq.trans rfl rfl
@[go_sem] theorem opR_fieldAddr (t : TypeId) (x : Operand) (f : Nat) : opR P ⟨d, .fieldAddr t x f, ty, pos, after, none⟩ s w = (execOp (ev s) ⟨d, .fieldAddr t x f, ty, pos, after, none⟩).run P w := Eq.trans rfl rfl
@[go_sem] theorem opR_field (t : TypeId) (x : Operand) (f : Nat) : opR P ⟨d, .field t x f, ty, pos, after, none⟩ s w = (execOp (ev s) ⟨d, .field t x f, ty, pos, after, none⟩).run P w := Eq.trans rfl rfl
@[go_sem] theorem opR_indexAddr (t : TypeId) (x y : Operand) : opR P ⟨d, .indexAddr t x y, ty, pos, after, none⟩ s w = (execOp (ev s) ⟨d, .indexAddr t x y, ty, pos, after, none⟩).run P w := Eq.trans rfl rfl
@[go_sem] theorem opR_lookup (t : TypeId) (x y : Operand) (c : Bool) : opR P ⟨d, .lookup t x y c, ty, pos, after, none⟩ s w = (execOp (ev s) ⟨d, .lookup t x y c, ty, pos, after, none⟩).run P w := Eq.trans rfl rfl
@[go_sem] theorem opR_mapUpdate (t : TypeId) (x y z : Operand) : opR P ⟨d, .mapUpdate t x y z, ty, pos, after, none⟩ s w = (execOp (ev s) ⟨d, .mapUpdate t x y z, ty, pos, after, none⟩).run P w := Eq.trans rfl rfl
@[go_sem] theorem opR_insert (t : TypeId) (x y z : Operand) : opR P ⟨d, .insert t x y z, ty, pos, after, none⟩ s w = (execOp (ev s) ⟨d, .insert t x y z, ty, pos, after, none⟩).run P w := Eq.trans rfl rfl
@[go_sem] theorem opR_mapEntry (t : TypeId) (x y : Operand) : opR P ⟨d, .mapEntry t x y, ty, pos, after, none⟩ s w = (execOp (ev s) ⟨d, .mapEntry t x y, ty, pos, after, none⟩).run P w := Eq.trans rfl rfl
@[go_sem] theorem opR_entryStore (t : TypeId) (x y z : Operand) : opR P ⟨d, .entryStore t x y z, ty, pos, after, none⟩ s w = (execOp (ev s) ⟨d, .entryStore t x y z, ty, pos, after, none⟩).run P w := Eq.trans rfl rfl
@[go_sem] theorem opR_range (t : TypeId) (x : Operand) : opR P ⟨d, .range t x, ty, pos, after, none⟩ s w = (execOp (ev s) ⟨d, .range t x, ty, pos, after, none⟩).run P w := Eq.trans rfl rfl
@[go_sem] theorem opR_next (x : Operand) (c : Bool) : opR P ⟨d, .next x c, ty, pos, after, none⟩ s w = (execOp (ev s) ⟨d, .next x c, ty, pos, after, none⟩).run P w := Eq.trans rfl rfl
@[go_sem] theorem opR_entry (x : Operand) : opR P ⟨d, .entry x, ty, pos, after, none⟩ s w = (execOp (ev s) ⟨d, .entry x, ty, pos, after, none⟩).run P w := Eq.trans rfl rfl
@[go_sem] theorem opR_typeAssert (x : Operand) (t u : TypeId) (c : Bool) : opR P ⟨d, .typeAssert x t u c, ty, pos, after, none⟩ s w = (execOp (ev s) ⟨d, .typeAssert x t u c, ty, pos, after, none⟩).run P w := Eq.trans rfl rfl
@[go_sem] theorem opR_extract (x : Operand) (i : Nat) : opR P ⟨d, .extract x i, ty, pos, after, none⟩ s w = (execOp (ev s) ⟨d, .extract x i, ty, pos, after, none⟩).run P w := Eq.trans rfl rfl
@[go_sem] theorem opR_call (c : Call) : opR P ⟨d, .call c, ty, pos, after, none⟩ s w = callR P c ty s w ((execOp (ev s) ⟨d, .call c, ty, pos, after, none⟩).run P w) := Eq.trans rfl rfl
@[go_sem] theorem callR_append (x y : Operand) (t u : TypeId) (r : Result Next) : callR P ⟨.builtin .append, #[x, y], #[t, u]⟩ ty s w r = appendR P t u ty (ev s x) (ev s y) w := Eq.trans rfl rfl
@[go_sem] theorem callR_copy (x y : Operand) (t u : TypeId) (r : Result Next) : callR P ⟨.builtin .copy, #[x, y], #[t, u]⟩ ty s w r = copyR P t u ty (ev s x) (ev s y) w := Eq.trans rfl rfl
@[go_sem] theorem callR_value (f : Operand) (l : Array Operand) (t : Array TypeId) (r : Result Next) : callR P ⟨.value f, l, t⟩ ty s w r = r := Eq.trans rfl rfl
@[go_sem] theorem callR_invoke (f : Operand) (m : String) (l : Array Operand) (t : Array TypeId) (r : Result Next) : callR P ⟨.invoke f m, l, t⟩ ty s w r = r := Eq.trans rfl rfl
@[go_sem] theorem callR_builtin (b : Builtin) (l : Array Operand) (t : Array TypeId) (r : Result Next) (h : b ≠ .append) (h2 : b ≠ .copy) : callR P ⟨.builtin b, l, t⟩ ty s w r = r := by
  unfold callR; split <;> simp_all
@[go_sem] theorem opR_panic (x : Operand) : opR P ⟨d, .panic x, ty, pos, after, none⟩ s w = (execOp (ev s) ⟨d, .panic x, ty, pos, after, none⟩).run P w := Eq.trans rfl rfl
@[go_sem] theorem opR_ready (g : Nat) : opR P ⟨d, .ready g, ty, pos, after, none⟩ s w = (execOp (ev s) ⟨d, .ready g, ty, pos, after, none⟩).run P w := Eq.trans rfl rfl
@[go_sem] theorem opR_waits (g : Nat) : opR P ⟨d, .waits g, ty, pos, after, none⟩ s w = (execOp (ev s) ⟨d, .waits g, ty, pos, after, none⟩).run P w := Eq.trans rfl rfl
@[go_sem] theorem loadR_one (a : Addr) : loadR P (.pointer (some a)) (some none) w = oneR (w.cell? a) w := Eq.trans rfl rfl
@[go_sem] theorem loadR_many (a : Addr) (n : Nat) : loadR P (.pointer (some a)) (some (some n)) w = manyR (readCells w a 0 n) w := Eq.trans rfl rfl
@[go_sem] theorem oneR_some (v : Value) : oneR (some v) w = .ok (.value v) w := Eq.trans rfl rfl
@[go_sem] theorem manyR_some (l : List Value) : manyR (some l) w = .ok (.value (.agg l.toArray)) w := Eq.trans rfl rfl
@[go_sem] theorem storeR_one (a : Addr) (y : Value) : storeR P (.pointer (some a)) y (some none) w = putR (w.cell? a) (w.frozen? a) y.oneCell' a y w := Eq.trans rfl rfl
@[go_sem] theorem storeR_many (a : Addr) (cs : Array Value) (n : Nat) : storeR P (.pointer (some a)) (.agg cs) (some (some n)) w = putsR (canWrite w a 0 n) (cs.size == n) (allOne cs.toList) a cs.toList w := Eq.trans rfl rfl
@[go_sem] theorem putR_ok (v : Value) (a : Addr) (y : Value) : putR (some v) false true a y w = .ok .skip (w.setCell a y) := Eq.trans rfl rfl
@[go_sem] theorem putsR_ok (a : Addr) (l : List Value) : putsR true true true a l w = .ok .skip (storeSeg w a 0 l) := Eq.trans rfl rfl
@[go_sem] theorem indexR_one (len elem : Nat) (cs : Array Value) (k : IntKind) (n : Int) (r : Result Next) : indexR P (some (.array len elem)) (.agg cs) (.int k n) w r = if 0 ≤ n ∧ n < len then (match shapeOf P elem with | some none => oneR cs[n.toNat]? w | some (some m) => .ok (.value (.agg (cs.extract (n.toNat * m) (n.toNat * m + m)))) w | none => stuckR w) else stuckR w := Eq.trans rfl rfl
@[go_sem] theorem indexR_string (t : TypeDesc) (x : ByteArray) (i : Value) (r : Result Next) : indexR P (some t) (.string x) i w r = r := by unfold indexR; split <;> simp_all
end
section
variable (w : World) (a : Addr) (i n : Nat)
@[go_sem] theorem one_int (k : IntKind) (n : Int) : (Value.int k n).oneCell' = true := Eq.trans rfl rfl
@[go_sem] theorem one_bool (b : Bool) : (Value.bool b).oneCell' = true := Eq.trans rfl rfl
@[go_sem] theorem one_string (s : ByteArray) : (Value.string s).oneCell' = true := Eq.trans rfl rfl
@[go_sem] theorem one_pointer (a : Option Addr) : (Value.pointer a).oneCell' = true := Eq.trans rfl rfl
@[go_sem] theorem one_slice (a : Option Addr) (n m : Nat) : (Value.slice a n m).oneCell' = true := Eq.trans rfl rfl
@[go_sem] theorem one_map (r : Option Nat) : (Value.map r).oneCell' = true := Eq.trans rfl rfl
@[go_sem] theorem one_iface (t : TypeId) (v : Value) : (Value.iface t v).oneCell' = true := Eq.trans rfl rfl
@[go_sem] theorem one_func (f : Fn) (x y : Array Value) : (Value.func f x y).oneCell' = true := Eq.trans rfl rfl
@[go_sem] theorem one_nilFunc : Value.nilFunc.oneCell' = true := Eq.trans rfl rfl
@[go_sem] theorem one_nilIface : Value.nilIface.oneCell' = true := Eq.trans rfl rfl
@[go_sem] theorem allOne_nil : allOne [] = true := Eq.trans rfl rfl
@[go_sem] theorem allOne_cons (v : Value) (l : List Value) : allOne (v :: l) = (v.oneCell' && allOne l) := Eq.trans rfl rfl
@[go_sem] theorem readCells_zero : readCells w a i 0 = some [] := Eq.trans rfl rfl
@[go_sem] theorem readCells_succ (h : n < 12) : readCells w a i (n + 1) = match w.cell? (a.add i) with | some v => (readCells w a (i + 1) n).map (v :: ·) | none => none := Eq.trans rfl rfl
@[go_sem] theorem canWrite_zero : canWrite w a i 0 = true := Eq.trans rfl rfl
@[go_sem] theorem canWrite_succ (h : n < 12) : canWrite w a i (n + 1) = ((w.cell? (a.add i)).isSome && !w.frozen? (a.add i) && canWrite w a (i + 1) n) := Eq.trans rfl rfl
end
theorem add_none (g o i : Nat) : (⟨g, o, none⟩ : Addr).add i = ⟨g, o + i, none⟩ := by unfold Addr.add; split <;> simp_all
/-! Slices: one that is read; append onto a slice of the call's own. -/
structure Rd (w : World) (size : Nat) (A : Option Addr) (n : Nat) (xs : List Value) : Prop where
  len : xs.length = n * size
  cells : 0 < n → ∃ b o, A = some ⟨b, o, none⟩ ∧ b < w.heap.size ∧ ∀ j u, xs[j]? = some u → w.cell? ⟨b, o + j, none⟩ = some u
theorem Rd.nil_ (w : World) (size : Nat) (A : Option Addr) : Rd w size A 0 [] := ⟨by simp, fun h => absurd h (by omega)⟩
theorem Rd.keep {w w' : World} {size n : Nat} {A : Option Addr} {xs : List Value} (h : Rd w size A n xs) (hb : Below w.heap.size w w') : Rd w' size A n xs :=
  ⟨h.len, fun hn => by
    obtain ⟨b, o, e, hlt, hc⟩ := h.cells hn
    exact ⟨b, o, e, Nat.lt_of_lt_of_le hlt hb.size, fun j u hu => (hb.cell (p := ⟨b, o + j, none⟩) hlt).trans (hc j u hu)⟩⟩
theorem Rd.of_own {w : World} {base : Nat} {e : TypeId} {size n c : Nat} {A : Option Addr} {xs : List Value} (h : w.ownsRow base e size (.slice A n c) n xs) : Rd w size A n xs := by
  refine ⟨h.1, fun hn => ?_⟩
  rcases h.2 with ⟨he, h0⟩ | ⟨g, cap, cur, hv, hb, hg, h1, h2, h3, h4⟩
  · omega
  · injection hv with hA _ _
    refine ⟨g, 0, hA, (Array.getElem?_eq_some_iff.1 hg).1, fun j u hu => ?_⟩
    rw [cell_of_row w g (0 + j) cur e (0, 0) hg, Nat.zero_add, ← Array.getElem?_toList]
    rw [← h4, List.getElem?_take] at hu
    split at hu
    · exact hu
    · cases hu
def El (P : Program) (e : TypeId) (size bytes : Nat) : Prop := ∃ i z, P.info? e = some i ∧ i.zero = some z ∧ i.size = size ∧ i.bytes = bytes ∧ z.cells.size = size ∧ 0 < size
theorem el_of {P : Program} {e : TypeId} {z : Value} {size bytes : Nat} (h : (P.info? e).map (fun i => (i.zero, i.size, i.bytes)) = some (some z, size, bytes)) (hz : z.cells.size = size) (hp : 0 < size) : El P e size bytes := by
  obtain ⟨i, h1, h2, h3, h4⟩ := info_parts h
  exact ⟨i, z, h1, h2, h3, h4, hz, hp⟩
theorem append_own {P : Program} {w : World} {base : Nat} {t ty e : TypeId} {size bytes : Nat} (ht : P.underlying t = some (.slice e)) (he : El P e size bytes) {v : Value} {n : Nat} {xs : List Value} (hown : w.ownsRow base e size v n xs)
    {A : Option Addr} {m c : Nat} {news : List Value} (hs : Rd w size A m news) (h1 : allOne news = true) (h63 : n + m ≤ maxLen) (hbytes : (n + m) * bytes ≤ 140737488355328) (hbase : base ≤ w.heap.size) {k : Next → World → Prop}
    (hk : ∀ v' w', w'.ownsRow base e size v' (n + m) (xs ++ news) → w.grownBy w' v.ownBlock → (v'.ownBlock = v.ownBlock ∨ v'.ownBlock = some w.heap.size) → k (.value v') w') :
    ∃ x w', appendR P t t ty v (.slice A m c) w = .ok x w' ∧ k x w' := by
  obtain ⟨i, z, hi, hz, hsz, hby, hzs, hpos⟩ := he
  rcases A with _ | ad
  · have hm : m = 0 := by
      rcases Nat.eq_zero_or_pos m with h0 | h0
      · exact h0
      · obtain ⟨b, o, h, _⟩ := hs.cells h0; cases h
    subst hm
    have hn : news = [] := List.eq_nil_of_length_eq_zero (by simpa using hs.len)
    subst hn
    have hrun : (Builtin.append_ #[t, t] ty #[v, .slice none 0 c]).run P w = .ok v w := by
      rcases hown.2 with ⟨rfl, rfl⟩ | ⟨g, cap, cur, rfl, _, _, hnc, _⟩
      · simp [Builtin.append_, run_underlying ht, sizeOf, typeInfo, hi, Builtin.lenOf, Builtin.firstCells]
      · simp [Builtin.append_, run_underlying ht, sizeOf, typeInfo, hi, Builtin.lenOf, Builtin.firstCells, hnc, storeCells]
    exact ⟨_, w, by rw [appendR, hrun]; rfl, hk v w (by simpa using hown) (World.grownBy.refl w _) (.inl rfl)⟩
  · have hcells : ∀ j u, news[j]? = some u → w.cell? (ad.add j) = some u := by
      intro j u hu
      rcases Nat.eq_zero_or_pos m with h0 | h0
      · subst h0
        have hn : news = [] := List.eq_nil_of_length_eq_zero (by simpa using hs.len)
        subst hn
        simp at hu
      · obtain ⟨b, o, h, _, hc⟩ := hs.cells h0
        injection h with h
        subst h
        rw [add_none]; exact hc j u hu
    obtain ⟨v', w', hrun, h2, h3, _, h5⟩ := run_append_own_at (P := P) w base t ty e i z size bytes ht hi hz hsz hby hzs hpos v n xs hown ad m c news hs.len hcells (allOne_mem h1) h63 hbytes hbase
    exact ⟨_, w', by rw [appendR, hrun]; rfl, hk v' w' h2 h3 h5⟩
/-! A block that is known whole: read, written as a whole or in part. -/
theorem readCells_blk {w : World} {g : Nat} {t : TypeId} {cs : Array Value} (h : Blk w g t cs) : ∀ (n o i : Nat) (l : List Value), l.length = n → (∀ j v, l[j]? = some v → cs[o + i + j]? = some v) → readCells w ⟨g, o, none⟩ i n = some l := by
  intro n
  induction n with
  | zero => intro o i l hl _; rw [List.length_eq_zero_iff.1 hl]; rfl
  | succ n ih =>
    intro o i l hl hc
    cases l with
    | nil => cases hl
    | cons v l =>
      have h0 : w.cell? ⟨g, o + i, none⟩ = some v := (h.cell _).trans (hc 0 v rfl)
      simp only [readCells, add_none, h0]
      rw [ih o (i + 1) l (by simpa using hl) (fun j u hj => by have := hc (j + 1) u (by simpa using hj); rw [← this]; congr 1; omega)]
      rfl
theorem readCells_all {w : World} {g : Nat} {t : TypeId} {cs : Array Value} (h : Blk w g t cs) (n : Nat) (hn : cs.size = n) : readCells w ⟨g, 0, none⟩ 0 n = some cs.toList :=
  readCells_blk h n 0 0 cs.toList (by simpa using hn) (fun j v hj => by simpa using hj)
theorem canWrite_blk {w : World} {g : Nat} {t : TypeId} {cs : Array Value} (h : Blk w g t cs) : ∀ (n o i : Nat), o + i + n ≤ cs.size → canWrite w ⟨g, o, none⟩ i n = true := by
  intro n
  induction n with
  | zero => intro o i _; rfl
  | succ n ih =>
    intro o i hle
    simp only [canWrite, add_none, h.cell, h.frozen, ih o (i + 1) (by omega), Array.getElem?_eq_getElem (show o + i < cs.size by omega)]
    rfl
theorem canWrite_all {w : World} {g : Nat} {t : TypeId} {cs : Array Value} (h : Blk w g t cs) (n : Nat) (hn : cs.size = n) : canWrite w ⟨g, 0, none⟩ 0 n = true := canWrite_blk h n 0 0 (by omega)
theorem storeSeg_blk {g : Nat} {t : TypeId} : ∀ (l : List Value) (i : Nat) (w : World) (cs : Array Value), Blk w g t cs → i + l.length ≤ cs.size → storeSeg w ⟨g, 0, none⟩ i l = w.setRow g (cs.toList.take i ++ l ++ cs.toList.drop (i + l.length)).toArray := by
  intro l
  induction l with
  | nil =>
    intro i w cs h hle
    simp only [storeSeg, List.append_nil, List.length_nil, Nat.add_zero, List.take_append_drop, Array.toArray_toList]
    exact (setRow_self w g cs t (0, 0) h).symm
  | cons v l ih =>
    intro i w cs h hle
    simp only [List.length_cons] at hle
    simp only [storeSeg, add_none, Nat.zero_add]
    rw [ih (i + 1) _ _ (Blk_set h) (by simp; omega), setCell_eq_setRow w g i cs t (0, 0) v h, setRow_setRow]
    congr 2
    have hi : i < cs.toList.length := by simp; omega
    simp only [Array.toList_setIfInBounds, List.length_cons]
    rw [List.take_add_one, List.take_set_of_le (Nat.le_refl _), List.getElem?_set_self hi, List.drop_set_of_lt (by omega), show i + 1 + l.length = i + (l.length + 1) by omega]
    simp
@[go_sem] theorem storeSeg_drew (w : World) (a : Addr) : ∀ (l : List Value) (i : Nat), storeSeg w.drew a i l = (storeSeg w a i l).drew := by
  intro l
  induction l generalizing w with
  | nil => intro i; rfl
  | cons v l ih => intro i; simp only [storeSeg]; rw [← ih]; rfl
theorem storeSeg_all {w : World} {g : Nat} {t : TypeId} {cs : Array Value} (h : Blk w g t cs) (l : List Value) (hl : l.length = cs.size) : storeSeg w ⟨g, 0, none⟩ 0 l = w.setRow g l.toArray := by
  rw [storeSeg_blk (t := t) l 0 w cs h (by omega), List.drop_of_length_le (by simp; omega)]
  simp
theorem setRow_new {w : World} {cs cs' : Array Value} {t : TypeId} : (w.alloc (.cells cs t)).setRow w.heap.size cs' = w.alloc (.cells cs' t) := by
  unfold World.setRow World.alloc
  congr 1
  apply Array.ext
  · simp
  · intro i h1 h2
    simp only [Array.getElem_modify, Array.getElem_push]
    by_cases hi : i < w.heap.size
    · rw [if_neg (by omega), dif_pos hi, dif_pos hi]
    · rw [if_pos (by simp at h2; omega), dif_neg hi, dif_neg hi]
@[go_sem] theorem storeSeg_new {w : World} {g : Nat} {cs : Array Value} {t : TypeId} {l : List Value} (hg : g = w.heap.size) (hl : l.length = cs.size) : storeSeg (w.alloc (.cells cs t)) ⟨g, 0, none⟩ 0 l = w.alloc (.cells l.toArray t) := by
  subst hg
  rw [storeSeg_all (t := t) (cs := cs) (Blk.self_ rfl) l hl, setRow_new]
theorem setCell_alloc {w : World} {g i : Nat} {o : Obj} {v : Value} (h : g < w.heap.size) : (w.alloc o).setCell ⟨g, i, none⟩ v = (w.setCell ⟨g, i, none⟩ v).alloc o := by
  unfold World.setCell World.alloc
  congr 1
  apply Array.ext_getElem?
  intro k
  simp only [Array.getElem?_modify, Array.getElem?_push, Array.size_modify]
  by_cases h1 : g = k
  · subst h1; simp [Nat.ne_of_lt h]
  · simp [h1]
@[go_sem] theorem storeSeg_old {w : World} {g k : Nat} {o : Obj} {l : List Value} (h : g < w.heap.size) : storeSeg (w.alloc o) ⟨g, k, none⟩ 0 l = (storeSeg w ⟨g, k, none⟩ 0 l).alloc o := by
  have key : ∀ (l : List Value) (i : Nat) (w : World), g < w.heap.size → storeSeg (w.alloc o) ⟨g, k, none⟩ i l = (storeSeg w ⟨g, k, none⟩ i l).alloc o := by
    intro l
    induction l with
    | nil => intro i w _; rfl
    | cons v l ih =>
      intro i w h
      simp only [storeSeg, add_none]
      rw [setCell_alloc h, ih _ _ (by rw [sz_set]; exact h)]
  exact key l 0 w h
def resE (P : Program) (r : Result Next) (k : Kont) : Prop :=
  match r with
  | .ok (.value v) w => k v w
  | .ok .skip w => k undef w
  | .ok (.enter f args) w => callE P f args w k
  | .ok (.round l f tmps assign body) w => RoundIn Fence.wide 0 P l f tmps assign body w fun e w' => ∃ v, e = .returned v ∧ k v w'
  | _ => False
def fR (ro : Option Nat) : Fence := { Fence.wide with round := ro }
theorem resE_value (P : Program) (v : Value) (w : World) (k : Kont) : resE P (.ok (.value v) w) k = k v w := propext Iff.rfl
theorem resE_skip (P : Program) (w : World) (k : Kont) : resE P (.ok .skip w) k = k undef w := propext Iff.rfl
theorem resE_enter (P : Program) (f : FuncId) (args : Array Value) (w : World) (k : Kont) : resE P (.ok (.enter f args) w) k = callE P f args w k := propext Iff.rfl
theorem not_defer {P : Program} {ρ : Operand → Value} {o : Oper} {w w' : World} {x : Next} (h : (execOp ρ o).run P w = .ok x w') (hx : ∀ d, x ≠ .defer d) : ∀ c, o.op ≠ .defer c := by
  intro c hc
  unfold execOp at h
  rw [hc] at h
  simp only [Sem.run_bind] at h
  cases hr : (resolve ρ c o.type).run P w with
  | halt e w1 => rw [hr] at h; cases h
  | ok d w1 =>
    rw [hr] at h
    simp only [Result.andThen, Sem.run_pure, Result.ok.injEq] at h
    exact hx d h.1.symm
theorem resE_at {P : Program} {ρ : Operand → Value} {o : Oper} {w : World} {k : Kont} (h : resE P ((execOp ρ o).run P w) k) : (o.semAt ro ρ).run P w = (execOp ρ o).run P w := by
  cases hr : (execOp ρ o).run P w with
  | halt x w' => rw [hr] at h; exact h.elim
  | ok x w' =>
    rw [hr] at h
    have hn : ∀ c, o.op ≠ .defer c := not_defer hr (fun d e => by subst e; exact h.elim)
    rw [Oper.semAt_eq _ _ _ hn, hr]
theorem resE_upon {P : Program} {o : Oper} {a : Act} {next : Act → World → Prop} {Q : Exit → Act → World → Prop} {r : Result Next} {k : Kont}
    (h : resE P r k) (hk : ∀ v w, k v w → next (a.put o.dst v) w) : o.uponIn (fR ro) 0 P a next Q r := by
  cases r with
  | halt x w => exact h.elim
  | ok x w =>
    cases x with
    | value v => exact hk _ _ h
    | skip => exact hk _ _ h
    | enter f args =>
      refine ⟨fun h0 => (by cases h0), ?_⟩
      have h1 : CallsIn Fence.wide 0 P f args w _ := callsIn_wide.2 h
      exact CallsIn.mono h1 fun e y ⟨v, he, hr⟩ => by subst he; exact hk _ _ hr
    | round l f tmps assign body =>
      refine ⟨fun h0 => (by cases h0), ?_⟩
      exact RoundIn.mono h fun e y ⟨v, he, hr⟩ => by subst he; exact hk _ _ hr
    | _ => exact h.elim
theorem wpIn_of_resE {P : Program} {o : Oper} {a : Act} {w : World} {next : Act → World → Prop} {Q : Exit → Act → World → Prop} {k : Kont}
    (h : resE P ((execOp a.eval o).run P w) k) (hk : ∀ v w, k v w → next (a.put o.dst v) w) : o.wpIn (fR ro) 0 P a w next Q := by
  refine ⟨fun f _ => trivial, ?_⟩
  show o.uponIn (fR ro) 0 P a next Q ((o.semAt ro a.eval).run P w)
  rw [resE_at h]
  exact resE_upon h hk
theorem resE_ends {P : Program} {a b : Result Next} {k : Kont} (h : Ends a b) (hr : resE P a k) : resE P b k := by
  cases a with
  | halt x w => exact hr.elim
  | ok x w => rw [h x w rfl]; exact hr
theorem resE_append {P : Program} {t u ty : TypeId} {x y : Value} {w : World} {k : Kont} (h : ∃ z w', appendR P t u ty x y w = .ok z w' ∧ resE P (.ok z w') k) : resE P (appendR P t u ty x y w) k := by
  obtain ⟨z, w', hr, hk⟩ := h; rw [hr]; exact hk
theorem appendE {P : Program} {w : World} (base : Nat) {t ty : TypeId} (e size bytes : Nat) (ht : P.underlying t = some (.slice e)) (he : El P e size bytes) {v : Value} {n : Nat} {xs : List Value} (hown : w.ownsRow base e size v n xs)
    {A : Option Addr} {m c : Nat} {news : List Value} (hs : Rd w size A m news) (h1 : allOne news = true) (h63 : n + m ≤ maxLen) (hbytes : (n + m) * bytes ≤ 140737488355328) (hbase : base ≤ w.heap.size) {k : Kont}
    (hk : ∀ v' w', w'.ownsRow base e size v' (n + m) (xs ++ news) → w.grownBy w' v.ownBlock → (v'.ownBlock = v.ownBlock ∨ v'.ownBlock = some w.heap.size) → k v' w') : resE P (appendR P t t ty v (.slice A m c) w) k :=
  resE_append (append_own ht he hown hs h1 h63 hbytes hbase (k := fun x w' => resE P (.ok x w') k) hk)
def opsE (P : Program) (n : Nat) (ops : Array Oper) (K : Slots → World → Prop) : List Oper → Slots → World → Prop
  | [], s, w => K s w
  | o :: rest, s, w =>
    match o.guard with
    | none => resE P (opR P o s w) (fun v w' => opsE P n ops K rest (put n s o.dst v) w')
    | some (j, want) =>
      match guardS ops s j with
      | .bool b => if b == want then resE P (opR P o s w) (fun v w' => opsE P n ops K rest (put n s o.dst v) w') else opsE P n ops K rest (put n s o.dst undef) w
      | _ => opsE P n ops K rest (put n s o.dst undef) w
def opsK (P : Program) (n : Nat) (ops : Array Oper) (K : Slots → World → Prop) (rest : List Oper) (s : Slots) (d : Option Tmp) : Kont := fun v w => opsE P n ops K rest (put n s d v) w
theorem opsK_eq (P : Program) (n : Nat) (ops : Array Oper) (K : Slots → World → Prop) (rest : List Oper) (s : Slots) (d : Option Tmp) (v : Value) (w : World) :
    opsK P n ops K rest s d v w = opsE P n ops K rest (put n s d v) w := propext Iff.rfl
def guardE (P : Program) (n : Nat) (ops : Array Oper) (K : Slots → World → Prop) (o : Oper) (rest : List Oper) (s : Slots) (w : World) (g : Value) (want : Bool) : Prop :=
  match g with
  | .bool b => if b == want then resE P (opR P o s w) (opsK P n ops K rest s o.dst) else opsE P n ops K rest (put n s o.dst undef) w
  | _ => opsE P n ops K rest (put n s o.dst undef) w
theorem opsE_nil (P : Program) (n : Nat) (ops : Array Oper) (K : Slots → World → Prop) (s : Slots) (w : World) : opsE P n ops K [] s w = K s w := propext Iff.rfl
theorem opsE_plain (P : Program) (n : Nat) (ops : Array Oper) (K : Slots → World → Prop) (rest : List Oper) (s : Slots) (w : World) (d : Option Tmp) (op : Op) (ty : TypeId) (pos : String) (after : Array Edge) :
    opsE P n ops K (⟨d, op, ty, pos, after, none⟩ :: rest) s w = resE P (opR P ⟨d, op, ty, pos, after, none⟩ s w) (opsK P n ops K rest s d) := propext Iff.rfl
theorem opsE_guard (P : Program) (n : Nat) (ops : Array Oper) (K : Slots → World → Prop) (rest : List Oper) (s : Slots) (w : World) (d : Option Tmp) (op : Op) (ty : TypeId) (pos : String) (after : Array Edge) (j : Nat) (want : Bool) :
    opsE P n ops K (⟨d, op, ty, pos, after, some (j, want)⟩ :: rest) s w = guardE P n ops K ⟨d, op, ty, pos, after, none⟩ rest s w (guardS ops s j) want := propext Iff.rfl
theorem guardE_true (P : Program) (n : Nat) (ops : Array Oper) (K : Slots → World → Prop) (o : Oper) (rest : List Oper) (s : Slots) (w : World) :
    guardE P n ops K o rest s w (.bool true) true = resE P (opR P o s w) (opsK P n ops K rest s o.dst) := propext Iff.rfl
theorem guardE_false (P : Program) (n : Nat) (ops : Array Oper) (K : Slots → World → Prop) (o : Oper) (rest : List Oper) (s : Slots) (w : World) :
    guardE P n ops K o rest s w (.bool false) false = resE P (opR P o s w) (opsK P n ops K rest s o.dst) := propext Iff.rfl
theorem guardE_skip1 (P : Program) (n : Nat) (ops : Array Oper) (K : Slots → World → Prop) (o : Oper) (rest : List Oper) (s : Slots) (w : World) :
    guardE P n ops K o rest s w (.bool true) false = opsE P n ops K rest (put n s o.dst undef) w := propext Iff.rfl
theorem guardE_skip2 (P : Program) (n : Nat) (ops : Array Oper) (K : Slots → World → Prop) (o : Oper) (rest : List Oper) (s : Slots) (w : World) :
    guardE P n ops K o rest s w (.bool false) true = opsE P n ops K rest (put n s o.dst undef) w := propext Iff.rfl
theorem guardE_skip3 (P : Program) (n : Nat) (ops : Array Oper) (K : Slots → World → Prop) (o : Oper) (rest : List Oper) (s : Slots) (w : World) (want : Bool) :
    guardE P n ops K o rest s w undef want = opsE P n ops K rest (put n s o.dst undef) w := propext Iff.rfl
theorem opsE_sound {P : Program} {n : Nat} {ops : Array Oper} {K : Slots → World → Prop} {Q : Exit → Act → World → Prop} (hK : ∀ s w a, Fits n ds s a → K s w → Q .normal a w) :
    ∀ (l : List Oper) (s : Slots) (w : World) (a : Act), Fits n ds s a → opsE P n ops K l s w → wpListIn (fR ro) 0 P ops Q l a w := by
  intro l
  induction l with
  | nil => intro s w a hf h; exact hK s w a hf h
  | cons o rest ih =>
    intro s w a hf h
    have hrun : resE P (opR P o s w) (fun v w' => opsE P n ops K rest (put n s o.dst v) w') → o.wpIn (fR ro) 0 P a w (wpListIn (fR ro) 0 P ops Q rest) Q := by
      intro hr
      exact wpIn_of_resE (by rw [hf.eval]; exact resE_ends (opR_ends P o s w) hr) (fun v w' hk => ih _ _ _ (hf.put _ _) hk)
    have hskip : opsE P n ops K rest (put n s o.dst undef) w → (∀ f, o.about P w a.eval = some f → (fR ro).fn f) ∧ wpListIn (fR ro) 0 P ops Q rest (a.put o.dst undef) w := fun hk => ⟨fun f _ => trivial, ih _ _ _ (hf.put _ _) hk⟩
    unfold opsE at h
    unfold wpListIn
    cases hg : o.guard with
    | none =>
      simp only [hg] at h
      rw [if_pos (by simp [Region.wanted, hg])]
      exact hrun h
    | some jw =>
      obtain ⟨j, want⟩ := jw
      simp only [hg] at h
      simp only [Region.wanted, hg, yielded_eq hf]
      generalize guardS ops s j = g at h
      cases g with
      | bool b =>
        simp only at h
        by_cases hb : b = want
        · subst hb
          simp only [BEq.rfl, if_true] at h ⊢
          exact hrun h
        · have e1 : (b == want) = false := by simpa using hb
          simp only [e1, Bool.false_eq_true, if_false] at h
          rw [if_neg (by simpa using hb)]
          exact hskip h
      | _ => simp only at h; rw [if_neg (by simp)]; exact hskip h

def W (P : Program) (n : Nat) (c : Code) (s : Slots) (w : World) (Q : Exit → Slots → World → Prop) : Prop :=
  ∀ (ro : Option Nat) (ds : List Deferred) (a : Act), Fits n ds s a → c.wpIn (fR ro) 0 P (fun e a' w' => ∃ s', Fits n ds s' a' ∧ Q e s' w') a w
def thenE (k : Slots → World → Prop) (Q : Exit → Slots → World → Prop) : Exit → Slots → World → Prop
  | .normal, s, w => k s w
  | e, s, w => Q e s w
def blockE (id : Nat) (Q : Exit → Slots → World → Prop) : Exit → Slots → World → Prop
  | .exit i, s, w => if i = id then Q .normal s w else Q (.exit i) s w
  | e, s, w => Q e s w
def scopeE (Q : Exit → Slots → World → Prop) : Exit → Slots → World → Prop
  | .goto _, _, _ => False
  | e, s, w => Q e s w
theorem stepR_scope {P : Program} {b : Frame} {a : Act} {k : List Item} {cs : List Frame} {w : World} {c : Code} : step P (lone (b.atR a (.code (.scope c) :: k)) cs w) = .next (lone (b.atR a (.code c :: .inScope c :: k)) cs w) :=
  step_lone_go (by simp [stepG, stepG.exec, Frame.atR])
theorem stepR_inScope {P : Program} {b : Frame} {a : Act} {k : List Item} {cs : List Frame} {w : World} {c : Code} : step P (lone (b.atR a (.inScope c :: k)) cs w) = .next (lone (b.atR a k) cs w) :=
  step_lone_go (by simp [stepG, stepG.exec, Frame.atR])
theorem wpIn_scope {F : Fence} {n : Nat} {P : Program} {c : Code} {Q : Exit → Act → World → Prop} {a : Act} {w : World} (h : c.wpIn F n P (fun e a w => (∀ l, e ≠ .goto l) ∧ Q e a w) a w) : (Code.scope c).wpIn F n P Q a w := by
  intro b k cs hro hb hr
  have h0 : (lone (b.atR a (.code (.scope c) :: k)) cs w).fenced P F := fenced_calm hb hr rfl
  obtain ⟨e, a₁, w₁, ⟨hg, hq⟩, harr⟩ := h b (.inScope c :: k) cs hro hb hr
  cases e with
  | normal => exact ⟨.normal, a₁, w₁, hq, .head h0 stepR_scope (StepsIn.trans harr (.one (fenced_calm hb hr rfl) stepR_inScope))⟩
  | exit id =>
    have hx : exitTo id (.inScope c :: k) = exitTo id k := by simp [exitTo]
    exact ⟨.exit id, a₁, w₁, hq, fun k' hk => .head h0 stepR_scope (harr.1 k' (by rw [hx]; exact hk)),
      fun hr' hk => let ⟨k₁, h1, h2⟩ := harr.2 hr' (by rw [hx]; exact hk); ⟨k₁, h1, .head h0 stepR_scope h2⟩⟩
  | goto l => exact absurd rfl (hg l)
  | ret => exact ⟨_, a₁, w₁, hq, .of_steps (.one h0 stepR_scope) harr⟩
  | panic ch => exact ⟨_, a₁, w₁, hq, .of_steps (.one h0 stepR_scope) harr⟩
  | outgrown => exact ⟨_, a₁, w₁, hq, .of_steps (.one h0 stepR_scope) harr⟩
def condE (v : Value) (x y : Prop) : Prop := (v = .bool true ∧ x) ∨ (v = .bool false ∧ y)
def E (P : Program) (n : Nat) : Code → Slots → World → (Exit → Slots → World → Prop) → Prop
  | .skip, s, w, Q => Q .normal s w
  | .label _, s, w, Q => Q .normal s w
  | .seq a b, s, w, Q => E P n a s w (thenE (fun s w => E P n b s w Q) Q)
  | .cond c x y, s, w, Q => condE (ev s c) (E P n x s w Q) (E P n y s w Q)
  | .block id c, s, w, Q => E P n c s w (blockE id Q)
  | .exit id, s, w, Q => Q (.exit id) s w
  | .ret, s, w, Q => Q .ret s w
  | .scope c, s, w, Q => E P n c s w (scopeE Q)
  | .region _ ops false, s, w, Q => opsE P n ops (Q .normal) ops.toList s w
  | c, s, w, Q => W P n c s w Q
theorem E_sound {P : Program} {n : Nat} : ∀ (c : Code) (s : Slots) (w : World) (Q : Exit → Slots → World → Prop), E P n c s w Q → W P n c s w Q := by
  intro c
  induction c with
  | skip => intro s w Q h ro ds a hf; exact wpIn_skip ⟨s, hf, h⟩
  | label l => intro s w Q h ro ds a hf; exact wpIn_label ⟨s, hf, h⟩
  | seq x y ihx ihy =>
    intro s w Q h ro ds a hf
    refine wpIn_seq (wpIn_mono (ihx _ _ _ h ro ds a hf) ?_)
    rintro e a' w' ⟨s', hf', hq⟩
    cases e with
    | normal => exact ihy _ _ _ hq ro ds a' hf'
    | _ => exact ⟨s', hf', hq⟩
  | cond c x y ihx ihy =>
    intro s w Q h ro ds a hf
    rcases h with ⟨hc, h⟩ | ⟨hc, h⟩
    · exact wpIn_cond_true (by rw [hf.eval]; exact hc) (ihx _ _ _ h ro ds a hf)
    · exact wpIn_cond_false (by rw [hf.eval]; exact hc) (ihy _ _ _ h ro ds a hf)
  | block id c ih =>
    intro s w Q h ro ds a hf
    refine wpIn_block (wpIn_mono (ih _ _ _ h ro ds a hf) ?_)
    rintro e a' w' ⟨s', hf', hq⟩
    cases e with
    | exit i =>
      simp only [blockE] at hq
      simp only [Exit.inBlock]
      split
      · rename_i e1; rw [if_pos e1] at hq; exact ⟨s', hf', hq⟩
      · rename_i e1; rw [if_neg e1] at hq; exact ⟨s', hf', hq⟩
    | _ => exact ⟨s', hf', hq⟩
  | exit id => intro s w Q h ro ds a hf; exact wpIn_exit ⟨s, hf, h⟩
  | ret => intro s w Q h ro ds a hf; exact wpIn_ret ⟨s, hf, h⟩
  | region id ops draw =>
    intro s w Q h
    cases draw with
    | true => exact h
    | false =>
      intro ro ds a hf
      exact wpIn_region_list (opsE_sound (fun s' w' a' hf' hk => ⟨s', hf', hk⟩) _ _ _ _ hf h)
  | loop c ih => intro s w Q h; exact h
  | rangeFunc f p x y ihx ihy => intro s w Q h; exact h
  | goto l => intro s w Q h; exact h
  | scope c ih =>
    intro s w Q h ro ds a hf
    refine wpIn_scope (wpIn_mono (ih _ _ _ h ro ds a hf) ?_)
    rintro e a' w' ⟨s', hf', hq⟩
    cases e with
    | goto l => exact hq.elim
    | _ => exact ⟨(fun l h => by cases h), s', hf', hq⟩
  | refuse y => intro s w Q h; exact h
def thenC (P : Program) (n : Nat) (b : Code) (Q : Exit → Slots → World → Prop) : Exit → Slots → World → Prop := thenE (fun s w => E P n b s w Q) Q
def condC (P : Program) (n : Nat) (v : Value) (x y : Code) (s : Slots) (w : World) (Q : Exit → Slots → World → Prop) : Prop := condE v (E P n x s w Q) (E P n y s w Q)
section
variable (P : Program) (n : Nat) (s : Slots) (w : World) (Q : Exit → Slots → World → Prop)
@[go_sem] theorem E_skip : E P n .skip s w Q = Q .normal s w := propext Iff.rfl
@[go_sem] theorem E_label (l : Nat) : E P n (.label l) s w Q = Q .normal s w := propext Iff.rfl
@[go_sem] theorem E_seq (a b : Code) : E P n (.seq a b) s w Q = E P n a s w (thenC P n b Q) := propext Iff.rfl
@[go_sem] theorem E_cond (c : Operand) (x y : Code) : E P n (.cond c x y) s w Q = condC P n (ev s c) x y s w Q := propext Iff.rfl
@[go_sem] theorem E_block (id : Nat) (c : Code) : E P n (.block id c) s w Q = E P n c s w (blockE id Q) := propext Iff.rfl
@[go_sem] theorem E_scope (c : Code) : E P n (.scope c) s w Q = E P n c s w (scopeE Q) := propext Iff.rfl
@[go_sem] theorem scopeE_normal : scopeE Q .normal s w = Q .normal s w := propext Iff.rfl
@[go_sem] theorem scopeE_ret : scopeE Q .ret s w = Q .ret s w := propext Iff.rfl
@[go_sem] theorem scopeE_exit (i : Nat) : scopeE Q (.exit i) s w = Q (.exit i) s w := propext Iff.rfl
@[go_sem] theorem E_exit (id : Nat) : E P n (.exit id) s w Q = Q (.exit id) s w := propext Iff.rfl
@[go_sem] theorem E_ret : E P n .ret s w Q = Q .ret s w := propext Iff.rfl
@[go_sem] theorem E_region (id : Nat) (l : List Oper) : E P n (.region id l.toArray false) s w Q = opsE P n l.toArray (Q .normal) l s w := propext Iff.rfl
@[go_sem] theorem E_draw (id : Nat) (ops : Array Oper) : E P n (.region id ops true) s w Q = W P n (.region id ops true) s w Q := propext Iff.rfl
@[go_sem] theorem E_loop (c : Code) : E P n (.loop c) s w Q = W P n (.loop c) s w Q := propext Iff.rfl
@[go_sem] theorem E_rangeFunc (f : Operand) (p : Array Tmp) (x y : Code) : E P n (.rangeFunc f p x y) s w Q = W P n (.rangeFunc f p x y) s w Q := propext Iff.rfl
@[go_sem] theorem thenC_normal (b : Code) : thenC P n b Q .normal s w = E P n b s w Q := propext Iff.rfl
@[go_sem] theorem thenC_exit (b : Code) (i : Nat) : thenC P n b Q (.exit i) s w = Q (.exit i) s w := propext Iff.rfl
@[go_sem] theorem thenC_ret (b : Code) : thenC P n b Q .ret s w = Q .ret s w := propext Iff.rfl
@[go_sem] theorem thenC_goto (b : Code) (i : Nat) : thenC P n b Q (.goto i) s w = Q (.goto i) s w := propext Iff.rfl
@[go_sem] theorem blockE_normal (id : Nat) : blockE id Q .normal s w = Q .normal s w := propext Iff.rfl
@[go_sem] theorem blockE_ret (id : Nat) : blockE id Q .ret s w = Q .ret s w := propext Iff.rfl
@[go_sem] theorem blockE_goto (id i : Nat) : blockE id Q (.goto i) s w = Q (.goto i) s w := propext Iff.rfl
@[go_sem] theorem blockE_hit (id : Nat) : blockE id Q (.exit id) s w = Q .normal s w := by simp [blockE]
@[go_sem] theorem blockE_miss (id i : Nat) (h : i ≠ id) : blockE id Q (.exit i) s w = Q (.exit i) s w := by simp [blockE, h]
@[go_sem] theorem condC_true (x y : Code) : condC P n (.bool true) x y s w Q = E P n x s w Q := by simp [condC, condE]
@[go_sem] theorem condC_false (x y : Code) : condC P n (.bool false) x y s w Q = E P n y s w Q := by simp [condC, condE]
def condN (P : Program) (n : Nat) (i : Nat) (x y : Code) (s : Slots) (w : World) (Q : Exit → Slots → World → Prop) : Prop := if i = 0 then E P n y s w Q else E P n x s w Q
@[go_sem] theorem condC_dec (p : Prop) [Decidable p] (x y : Code) : condC P n (.bool (decide p)) x y s w Q = condN P n (if p then 1 else 0) x y s w Q := by
  by_cases h : p
  · rw [decide_eq_true h, condC_true, if_pos h]; simp [condN]
  · rw [decide_eq_false h, condC_false, if_neg h]; simp [condN]
@[go_sem] theorem condC_ndec (p : Prop) [Decidable p] (x y : Code) : condC P n (.bool (!decide p)) x y s w Q = condN P n (if p then 0 else 1) x y s w Q := by
  by_cases h : p
  · rw [decide_eq_true h, Bool.not_true, condC_false, if_pos h]; simp [condN]
  · rw [decide_eq_false h, Bool.not_false, condC_true, if_neg h]; simp [condN]
@[go_sem] theorem condN_one (x y : Code) : condN P n 1 x y s w Q = E P n x s w Q := by simp [condN]
@[go_sem] theorem condN_zero (x y : Code) : condN P n 0 x y s w Q = E P n y s w Q := by simp [condN]
end
def natB (n : Nat) : Bool := n != 0
@[go_sem] theorem natB_zero : natB 0 = false := Eq.trans rfl rfl
@[go_sem] theorem natB_one : natB 1 = true := Eq.trans rfl rfl
@[go_sem] theorem guardE_dec (P : Program) (n : Nat) (ops : Array Oper) (K : Slots → World → Prop) (o : Oper) (rest : List Oper) (s : Slots) (w : World) (p : Prop) [Decidable p] (want : Bool) :
    guardE P n ops K o rest s w (.bool (decide p)) want = guardE P n ops K o rest s w (.bool (natB (if p then 1 else 0))) want := by
  by_cases h : p <;> simp [h, natB]
@[go_sem] theorem guardE_ndec (P : Program) (n : Nat) (ops : Array Oper) (K : Slots → World → Prop) (o : Oper) (rest : List Oper) (s : Slots) (w : World) (p : Prop) [Decidable p] (want : Bool) :
    guardE P n ops K o rest s w (.bool (!decide p)) want = guardE P n ops K o rest s w (.bool (natB (if p then 0 else 1))) want := by
  by_cases h : p <;> simp [h, natB]
attribute [go_sem] opsE_nil opsE_plain opsE_guard guardE_true guardE_false guardE_skip1 guardE_skip2 guardE_skip3 opsK_eq resE_value resE_skip resE_enter
@[go_sem] theorem Box_of {α : Type} (x : α) : (Box.mk x).of = x := Eq.trans rfl rfl
attribute [go_sem] ev_tmp ev_const ev_global ev_func put_same put_other put_none guardS
theorem resE_congr {P : Program} {r r' : Result Next} {k : Kont} (h : r = r') : resE P r k = resE P r' k := by rw [h]
theorem callE_congr {P : Program} {f : FuncId} {args args' : Array Value} {w w' : World} {k : Kont} (h : args = args') (hw : w = w') : callE P f args w k = callE P f args' w' k := by rw [h, hw]
theorem condC_congr {P : Program} {n : Nat} {v v' : Value} {x y : Code} {s : Slots} {w : World} {Q : Exit → Slots → World → Prop} (h : v = v') : condC P n v x y s w Q = condC P n v' x y s w Q := by rw [h]
theorem condN_congr {P : Program} {n : Nat} {i i' : Nat} {x y : Code} {s : Slots} {w : World} {Q : Exit → Slots → World → Prop} (h : i = i') : condN P n i x y s w Q = condN P n i' x y s w Q := by rw [h]
attribute [congr] condN_congr
theorem guardE_congr {P : Program} {n : Nat} {ops : Array Oper} {K : Slots → World → Prop} {o : Oper} {rest : List Oper} {s : Slots} {w : World} {g g' : Value} {want : Bool} (h : g = g') : guardE P n ops K o rest s w g want = guardE P n ops K o rest s w g' want := by rw [h]
theorem W_congr {P : Program} {n : Nat} {c : Code} {s : Slots} {w w' : World} {Q : Exit → Slots → World → Prop} (h : w = w') : W P n c s w Q = W P n c s w' Q := by rw [h]
theorem buildR_congr {P : Program} {t : TypeId} {l l' : Array (Nat × Value)} {n n' : Nat} {w : World} {r : Result Next} (h : l = l') (hn : n = n') : buildR P t l n w r = buildR P t l' n' w r := by rw [h, hn]
attribute [congr] resE_congr callE_congr condC_congr guardE_congr W_congr buildR_congr

theorem W_at {P : Program} {n : Nat} {c : Code} {s : Slots} {w : World} {Q : Exit → Slots → World → Prop} (h : ∀ X, X = w → W P n c s X Q) : W P n c s w Q := h w rfl
/-! A loop: what holds at each round's head, and a number that each round lowers. -/
def loopQ [b : Box (Slots → World → Prop)] [m : Box (Slots → World → Nat)] (top : Nat) (Q : Exit → Slots → World → Prop) : Exit → Slots → World → Prop
  | .normal, s, w => b.of s w ∧ m.of s w < top
  | e, s, w => Q e s w
def roundEnd [b : Box (Slots → World → Prop)] [m : Box (Slots → World → Nat)] (top : Nat) (s : Slots) (w : World) : Prop := b.of s w ∧ m.of s w < top
theorem roundEnd.mk {I : Slots → World → Prop} {m : Slots → World → Nat} {top : Nat} {s : Slots} {w : World} (h1 : I s w) (h2 : m s w < top) : @roundEnd ⟨I⟩ ⟨m⟩ top s w := ⟨h1, h2⟩
theorem roundEnd_congr {b : Box (Slots → World → Prop)} {m : Box (Slots → World → Nat)} {top : Nat} {s : Slots} {w w' : World} (h : w = w') : @roundEnd b m top s w = @roundEnd b m top s w' := by rw [h]
attribute [congr] roundEnd_congr
section
variable (b : Box (Slots → World → Prop)) (m : Box (Slots → World → Nat)) (top : Nat) (Q : Exit → Slots → World → Prop) (s : Slots) (w : World)
@[go_sem] theorem loopQ_normal : @loopQ b m top Q .normal s w = @roundEnd b m top s w := propext Iff.rfl
@[go_sem] theorem loopQ_exit (i : Nat) : @loopQ b m top Q (.exit i) s w = Q (.exit i) s w := propext Iff.rfl
@[go_sem] theorem loopQ_ret : @loopQ b m top Q .ret s w = Q .ret s w := propext Iff.rfl
end
theorem W_loop {P : Program} {n : Nat} {c : Code} {s : Slots} {w : World} {Q : Exit → Slots → World → Prop} (I : Slots → World → Prop) (m : Slots → World → Nat) (h0 : I s w)
    (round : ∀ s w, I s w → E P n c s w (@loopQ ⟨I⟩ ⟨m⟩ (m s w) Q)) : W P n (.loop c) s w Q := by
  intro ro ds a hf
  have hs : ∀ {s : Slots} {a : Act}, Fits n ds s a → s = fun t => a.tmps.getD t undef := fun h => funext fun t => (h.at_ t).symm
  refine wpIn_loop (fun a w => ∃ s, Fits n ds s a ∧ I s w) (fun a w => m (fun t => a.tmps.getD t undef) w) ⟨s, hf, h0⟩ ?_
  rintro a w ⟨s, hf, hI⟩
  have h1 : c.wpIn (fR ro) 0 P (fun e a' w' => ∃ s', Fits n ds s' a' ∧ @loopQ ⟨I⟩ ⟨m⟩ (m s w) Q e s' w') a w := E_sound c s w _ (round s w hI) ro ds a hf
  refine wpIn_mono h1 ?_
  rintro e a' w' ⟨s', hf', hq⟩
  cases e with
  | normal =>
    refine ⟨⟨s', hf', hq.1⟩, ?_⟩
    rw [← hs hf', ← hs hf]
    exact hq.2
  | _ => exact ⟨s', hf', hq⟩

/-! A region that draws its order, its operations reading alone, but for a tail that stands in one order. -/
def stillRes (P : Program) (w : World) (r : Result Next) (k : Value → Prop) : Prop :=
  match r with
  | .ok (.value v) w' => w' = w ∧ k v
  | .ok .skip w' => w' = w ∧ k undef
  | .ok (.enter f args) w' => w' = w ∧ ∃ v, Runs P f args w v w ∧ k v
  | _ => False
def stillCall (P : Program) (f : FuncId) (args : Array Value) (w : World) (k : Value → Prop) : Prop := ∃ v, Runs P f args w v w ∧ k v
theorem stillRes_value (P : Program) (w : World) (v : Value) (k : Value → Prop) : stillRes P w (.ok (.value v) w) k = k v := by simp [stillRes]
theorem stillRes_skip (P : Program) (w : World) (k : Value → Prop) : stillRes P w (.ok .skip w) k = k undef := by simp [stillRes]
theorem stillRes_enter (P : Program) (w : World) (f : FuncId) (args : Array Value) (k : Value → Prop) : stillRes P w (.ok (.enter f args) w) k = stillCall P f args w k := by simp [stillRes, stillCall]
theorem stillCall_eq {P : Program} {f : FuncId} {args : Array Value} {w : World} {v : Value} (hi : P.inits.idxOf? f = none) (h : Runs P f args w v w) (k : Value → Prop) : stillCall P f args w k = k v := by
  apply propext
  constructor
  · rintro ⟨x, hx, hk⟩
    obtain ⟨a, ha⟩ := h.done hi
    obtain ⟨b, hb⟩ := hx.done hi
    have := (ended_one ha hb).1
    injection this with this
    exact this ▸ hk
  · exact fun hk => ⟨v, h, hk⟩
def stillE (P : Program) (n : Nat) (ops : Array Oper) (w : World) (K : Slots → Prop) : List Oper → Slots → Prop
  | [], s => K s
  | o :: rest, s =>
    match o.guard with
    | none => stillRes P w (opR P o s w) (fun v => stillE P n ops w K rest (put n s o.dst v))
    | some (j, want) =>
      match guardS ops s j with
      | .bool b => if b == want then stillRes P w (opR P o s w) (fun v => stillE P n ops w K rest (put n s o.dst v)) else stillE P n ops w K rest (put n s o.dst undef)
      | _ => stillE P n ops w K rest (put n s o.dst undef)
def stillK (P : Program) (n : Nat) (ops : Array Oper) (w : World) (K : Slots → Prop) (rest : List Oper) (s : Slots) (d : Option Tmp) : Value → Prop := fun v => stillE P n ops w K rest (put n s d v)
theorem stillK_eq (P : Program) (n : Nat) (ops : Array Oper) (w : World) (K : Slots → Prop) (rest : List Oper) (s : Slots) (d : Option Tmp) (v : Value) : stillK P n ops w K rest s d v = stillE P n ops w K rest (put n s d v) := propext Iff.rfl
def stillG (P : Program) (n : Nat) (ops : Array Oper) (w : World) (K : Slots → Prop) (o : Oper) (rest : List Oper) (s : Slots) (g : Value) (want : Bool) : Prop :=
  match g with
  | .bool b => if b == want then stillRes P w (opR P o s w) (stillK P n ops w K rest s o.dst) else stillE P n ops w K rest (put n s o.dst undef)
  | _ => stillE P n ops w K rest (put n s o.dst undef)
section
variable (P : Program) (n : Nat) (ops : Array Oper) (w : World) (K : Slots → Prop) (rest : List Oper) (s : Slots) (o : Oper)
theorem stillE_nil : stillE P n ops w K [] s = K s := propext Iff.rfl
theorem stillE_plain (d : Option Tmp) (op : Op) (ty : TypeId) (pos : String) (after : Array Edge) :
    stillE P n ops w K (⟨d, op, ty, pos, after, none⟩ :: rest) s = stillRes P w (opR P ⟨d, op, ty, pos, after, none⟩ s w) (stillK P n ops w K rest s d) := propext Iff.rfl
theorem stillE_guard (d : Option Tmp) (op : Op) (ty : TypeId) (pos : String) (after : Array Edge) (j : Nat) (want : Bool) :
    stillE P n ops w K (⟨d, op, ty, pos, after, some (j, want)⟩ :: rest) s = stillG P n ops w K ⟨d, op, ty, pos, after, none⟩ rest s (guardS ops s j) want := propext Iff.rfl
theorem stillG_true : stillG P n ops w K o rest s (.bool true) true = stillRes P w (opR P o s w) (stillK P n ops w K rest s o.dst) := propext Iff.rfl
theorem stillG_false : stillG P n ops w K o rest s (.bool false) false = stillRes P w (opR P o s w) (stillK P n ops w K rest s o.dst) := propext Iff.rfl
theorem stillG_skip1 : stillG P n ops w K o rest s (.bool true) false = stillE P n ops w K rest (put n s o.dst undef) := propext Iff.rfl
theorem stillG_skip2 : stillG P n ops w K o rest s (.bool false) true = stillE P n ops w K rest (put n s o.dst undef) := propext Iff.rfl
theorem stillG_skip3 (want : Bool) : stillG P n ops w K o rest s undef want = stillE P n ops w K rest (put n s o.dst undef) := propext Iff.rfl
end
attribute [go_sem] stillE_nil stillE_plain stillE_guard stillG_true stillG_false stillG_skip1 stillG_skip2 stillG_skip3 stillK_eq stillRes_value stillRes_skip stillRes_enter
theorem stillRes_congr {P : Program} {w : World} {r r' : Result Next} {k : Value → Prop} (h : r = r') : stillRes P w r k = stillRes P w r' k := by rw [h]
theorem stillCall_congr {P : Program} {f : FuncId} {args args' : Array Value} {w : World} {k : Value → Prop} (h : args = args') : stillCall P f args w k = stillCall P f args' w k := by rw [h]
theorem stillG_congr {P : Program} {n : Nat} {ops : Array Oper} {w : World} {K : Slots → Prop} {o : Oper} {rest : List Oper} {s : Slots} {g g' : Value} {want : Bool} (h : g = g') : stillG P n ops w K o rest s g want = stillG P n ops w K o rest s g' want := by rw [h]
attribute [congr] stillRes_congr stillCall_congr stillG_congr
theorem stillE_sound {P : Program} {n : Nat} {ops : Array Oper} {w : World} {K : Slots → Prop} {Q : Act → Prop} (hK : ∀ s a, Fits n ds s a → K s → Q a) :
    ∀ (l : List Oper) (s : Slots) (a : Act), Fits n ds s a → stillE P n ops w K l s → wpStill P ops w Q l a := by
  intro l
  induction l with
  | nil => intro s a hf h; exact hK s a hf h
  | cons o rest ih =>
    intro s a hf h
    have hrun : stillRes P w (opR P o s w) (fun v => stillE P n ops w K rest (put n s o.dst v)) → o.still P a w (wpStill P ops w Q rest) := by
      intro hr
      unfold Oper.still
      rw [hf.eval]
      have he := opR_ends P o s w
      generalize opR P o s w = r' at hr he
      have hr : stillRes P w ((execOp (ev s) o).run P w) (fun v => stillE P n ops w K rest (put n s o.dst v)) := by
        cases r' with
        | halt x w' => exact hr.elim
        | ok x w' => rw [he x w' rfl]; exact hr
      generalize (execOp (ev s) o).run P w = r at hr
      cases r with
      | halt x w' => exact hr.elim
      | ok x w' =>
        cases x with
        | value v => exact ⟨hr.1, ih _ _ (hf.put _ _) hr.2⟩
        | skip => exact ⟨hr.1, ih _ _ (hf.put _ _) hr.2⟩
        | enter f args => obtain ⟨h1, v, hv, hk⟩ := hr; exact ⟨h1, v, hv, ih _ _ (hf.put _ _) hk⟩
        | _ => exact hr.elim
    have hskip : stillE P n ops w K rest (put n s o.dst undef) → wpStill P ops w Q rest (a.put o.dst undef) := fun hk => ih _ _ (hf.put _ _) hk
    unfold stillE at h
    unfold wpStill
    cases hg : o.guard with
    | none =>
      simp only [hg] at h
      rw [if_pos (by simp [Region.wanted, hg])]
      exact hrun h
    | some jw =>
      obtain ⟨j, want⟩ := jw
      simp only [hg] at h
      simp only [Region.wanted, hg, yielded_eq hf]
      generalize guardS ops s j = g at h
      cases g with
      | bool b =>
        simp only at h
        by_cases hb : b = want
        · subst hb
          simp only [BEq.rfl, if_true] at h ⊢
          exact hrun h
        · have e1 : (b == want) = false := by simpa using hb
          simp only [e1, Bool.false_eq_true, if_false] at h
          rw [if_neg (by simpa using hb)]
          exact hskip h
      | _ => simp only at h; rw [if_neg (by simp)]; exact hskip h
def normK (Q : Exit → Slots → World → Prop) (w : World) : Slots → Prop := fun s => Q .normal s w
@[go_sem] theorem normK_eq (Q : Exit → Slots → World → Prop) (w : World) (s : Slots) : normK Q w s = Q .normal s w := propext Iff.rfl
def tailK (P : Program) (n : Nat) (ops : Array Oper) (rest : List Oper) (Q : Exit → Slots → World → Prop) (w : World) : Slots → Prop := fun s => opsE P n ops (Q .normal) rest s w
@[go_sem] theorem tailK_eq (P : Program) (n : Nat) (ops : Array Oper) (rest : List Oper) (Q : Exit → Slots → World → Prop) (w : World) (s : Slots) : tailK P n ops rest Q w s = opsE P n ops (Q .normal) rest s w := propext Iff.rfl
theorem wpOpIn_of_stOp {P : Program} {ops : Array Oper} {w : World} {i : Nat} {a : Act} {K : Act → Prop} {K' : Act → World → Prop} {Q' : Exit → Act → World → Prop} (h : ∀ a, K a → K' a w) (hh : stOp P ops w i K a) : wpOpIn (fR ro) 0 P ops Q' i K' a w := by
  unfold stOp at hh
  unfold wpOpIn
  split
  · rename_i ho; simp only [ho] at hh; exact h _ hh
  · rename_i o ho
    simp only [ho] at hh
    split
    · rename_i hw
      simp only [hw, if_true] at hh
      unfold Oper.still at hh
      refine wpIn_of_resE (k := fun v w' => w' = w ∧ K (a.put o.dst v)) ?_ (fun v w' ⟨e, hk⟩ => by subst e; exact h _ hk)
      generalize (execOp a.eval o).run P w = r at *
      cases r with
      | ok n w' =>
        cases n <;> simp only [Oper.stillUpon] at hh
        case value v => exact hh
        case skip => exact hh
        case enter f args =>
          obtain ⟨rfl, v, hc, hn⟩ := hh
          exact hc.mono fun e w'' ⟨he, hw⟩ => ⟨v, he, hw, hn⟩
      | halt x w' => simp only [Oper.stillUpon] at hh
    · rename_i hw; simp only [hw] at hh; exact ⟨fun f _ => trivial, h _ hh⟩
theorem wpAnyIn_of_still {P : Program} {ops : Array Oper} {w : World} {md : Region.Mode} {Q : Act → Prop} {Q' : Exit → Act → World → Prop} (hQ : ∀ a, Q a → Q' .normal a w) : ∀ (fuel : Nat) (listed : Array Bool) (a : Act),
    wpAnyS P md ops w Q fuel listed a → wpAnyIn (fR ro) 0 P md ops Q' fuel listed a w
  | 0, _, _, h => ⟨h.1, hQ _ h.2⟩
  | fuel + 1, _, _, h => ⟨fun h0 => hQ _ (h.1 h0), fun i hi => wpOpIn_of_stOp (fun a' => wpAnyIn_of_still hQ fuel _ a') (h.2 i hi)⟩
theorem wpAnyIn_of_head {P : Program} {ops : Array Oper} {w : World} {md : Region.Mode} {n g : Nat} {L : Array Bool → Act → Prop} {Q' : Exit → Act → World → Prop} (hL : ∀ listed a, L listed a → wpAnyIn (fR ro) 0 P md ops Q' g listed a w) :
    ∀ (f : Nat) (listed : Array Bool) (a : Act), wpAnyL P md ops w n L f listed a → wpAnyIn (fR ro) 0 P md ops Q' (f + g) listed a w
  | 0, listed, a, h => by rw [Nat.zero_add]; exact hL _ _ h
  | f + 1, listed, a, h => by
    rw [show f + 1 + g = (f + g) + 1 by omega]
    exact ⟨fun h0 => absurd h0 h.1, fun i hi => wpOpIn_of_stOp (fun a' h' => wpAnyIn_of_head hL f _ a' h') (h.2 i hi).2⟩
theorem wpAnyIn_of_seq {P : Program} {ops : Array Oper} {md : Region.Mode} {Q' : Exit → Act → World → Prop} : ∀ (l : List Oper) (k : Nat) (listed : Array Bool) (a : Act) (w : World), (∀ j, l[j]? = ops[k + j]?) →
    Region.seqB md ops l.length k listed = true → wpListIn (fR ro) 0 P ops Q' l a w → wpAnyIn (fR ro) 0 P md ops Q' l.length listed a w
  | [], _, _, _, _, _, hB, h => ⟨by simpa [Region.seqB] using hB, h⟩
  | o :: l, k, listed, a, w, hl, hB, h => by
    have h0 : ops[k]? = some o := by simpa using (hl 0).symm
    simp only [List.length_cons, Region.seqB, Bool.and_eq_true, decide_eq_true_eq] at hB
    refine ⟨fun h1 => (by rw [hB.1] at h1; cases h1), fun i hi => ?_⟩
    rw [hB.1] at hi
    have hik : i = k := by simpa using hi
    subst hik
    have hw : wpOpIn (fR ro) 0 P ops Q' i (wpListIn (fR ro) 0 P ops Q' l) a w := by unfold wpOpIn; simp only [h0]; exact h
    exact wpOpIn_mono (fun a' w' h' => wpAnyIn_of_seq l (i + 1) _ a' w' (fun j => by have := hl (j + 1); simpa [Nat.add_assoc, Nat.add_comm 1 j] using this) hB.2 h') hw
theorem W_still {P : Program} {n id : Nat} {l : List Oper} {s : Slots} {w : World} {Q : Exit → Slots → World → Prop} (hm : P.follows .mixedOrders = true) (hB : Region.lexB .any l.toArray = true)
    (h : stillE P n l.toArray w.drew (normK Q w.drew) l s) : W P n (.region id l.toArray true) s w Q := by
  intro ro ds a hf
  simp only [Region.lexB, Bool.and_eq_true] at hB
  have h0 : wpStill P l.toArray w.drew (fun a' => ∃ s', Fits n ds s' a' ∧ Q .normal s' w.drew) l a := stillE_sound (fun s' a' hf' hk => ⟨s', hf', hk⟩) _ _ _ hf h
  refine wpIn_region_any hm (wpAnyIn_of_still (Q := fun a' => ∃ s', Fits n ds s' a' ∧ Q .normal s' w.drew) (fun _ h => h) _ _ _ ?_)
  have := wpAnyS_lex (md := .any) hB.1 l 0 (Array.replicate l.toArray.size false) a (by simp) (by simpa using hB.2) h0
  simpa using this
def stillT (P : Program) (n : Nat) (ops : Array Oper) (w : World) (Q : Exit → Slots → World → Prop) : Nat → List Oper → Slots → Prop
  | 0, l, s => opsE P n ops (Q .normal) l s w
  | _ + 1, [], s => opsE P n ops (Q .normal) [] s w
  | m + 1, o :: rest, s =>
    match o.guard with
    | none => stillRes P w (opR P o s w) (fun v => stillT P n ops w Q m rest (put n s o.dst v))
    | some (j, want) =>
      match guardS ops s j with
      | .bool b => if b == want then stillRes P w (opR P o s w) (fun v => stillT P n ops w Q m rest (put n s o.dst v)) else stillT P n ops w Q m rest (put n s o.dst undef)
      | _ => stillT P n ops w Q m rest (put n s o.dst undef)
def stillTK (P : Program) (n : Nat) (ops : Array Oper) (w : World) (Q : Exit → Slots → World → Prop) (m : Nat) (rest : List Oper) (s : Slots) (d : Option Tmp) : Value → Prop := fun v => stillT P n ops w Q m rest (put n s d v)
def stillTG (P : Program) (n : Nat) (ops : Array Oper) (w : World) (Q : Exit → Slots → World → Prop) (m : Nat) (o : Oper) (rest : List Oper) (s : Slots) (g : Value) (want : Bool) : Prop :=
  match g with
  | .bool b => if b == want then stillRes P w (opR P o s w) (stillTK P n ops w Q m rest s o.dst) else stillT P n ops w Q m rest (put n s o.dst undef)
  | _ => stillT P n ops w Q m rest (put n s o.dst undef)
section
variable (P : Program) (n : Nat) (ops : Array Oper) (w : World) (Q : Exit → Slots → World → Prop) (m : Nat) (rest : List Oper) (s : Slots) (o : Oper)
@[go_sem] theorem stillTK_eq (d : Option Tmp) (v : Value) : stillTK P n ops w Q m rest s d v = stillT P n ops w Q m rest (put n s d v) := propext Iff.rfl
@[go_sem] theorem stillT_zero : stillT P n ops w Q 0 rest s = opsE P n ops (Q .normal) rest s w := propext Iff.rfl
@[go_sem] theorem stillT_plain (d : Option Tmp) (op : Op) (ty : TypeId) (pos : String) (after : Array Edge) :
    stillT P n ops w Q (m + 1) (⟨d, op, ty, pos, after, none⟩ :: rest) s = stillRes P w (opR P ⟨d, op, ty, pos, after, none⟩ s w) (stillTK P n ops w Q m rest s d) := propext Iff.rfl
@[go_sem] theorem stillT_guard (d : Option Tmp) (op : Op) (ty : TypeId) (pos : String) (after : Array Edge) (j : Nat) (want : Bool) :
    stillT P n ops w Q (m + 1) (⟨d, op, ty, pos, after, some (j, want)⟩ :: rest) s = stillTG P n ops w Q m ⟨d, op, ty, pos, after, none⟩ rest s (guardS ops s j) want := propext Iff.rfl
@[go_sem] theorem stillTG_true : stillTG P n ops w Q m o rest s (.bool true) true = stillRes P w (opR P o s w) (stillTK P n ops w Q m rest s o.dst) := propext Iff.rfl
@[go_sem] theorem stillTG_false : stillTG P n ops w Q m o rest s (.bool false) false = stillRes P w (opR P o s w) (stillTK P n ops w Q m rest s o.dst) := propext Iff.rfl
@[go_sem] theorem stillTG_skip1 : stillTG P n ops w Q m o rest s (.bool true) false = stillT P n ops w Q m rest (put n s o.dst undef) := propext Iff.rfl
@[go_sem] theorem stillTG_skip2 : stillTG P n ops w Q m o rest s (.bool false) true = stillT P n ops w Q m rest (put n s o.dst undef) := propext Iff.rfl
@[go_sem] theorem stillTG_skip3 (want : Bool) : stillTG P n ops w Q m o rest s undef want = stillT P n ops w Q m rest (put n s o.dst undef) := propext Iff.rfl
end
theorem stillTG_congr {P : Program} {n : Nat} {ops : Array Oper} {w : World} {Q : Exit → Slots → World → Prop} {m : Nat} {o : Oper} {rest : List Oper} {s : Slots} {g g' : Value} {want : Bool} (h : g = g') : stillTG P n ops w Q m o rest s g want = stillTG P n ops w Q m o rest s g' want := by rw [h]
attribute [congr] stillTG_congr
theorem stillRes_mono {P : Program} {w : World} {r : Result Next} {k k' : Value → Prop} (hk : ∀ v, k v → k' v) (h : stillRes P w r k) : stillRes P w r k' := by
  cases r with
  | halt x w' => exact h.elim
  | ok x w' =>
    cases x with
    | value v => exact ⟨h.1, hk _ h.2⟩
    | skip => exact ⟨h.1, hk _ h.2⟩
    | enter f args => obtain ⟨h1, v, hv, h2⟩ := h; exact ⟨h1, v, hv, hk _ h2⟩
    | _ => exact h.elim
theorem stillT_take {P : Program} {n : Nat} {ops : Array Oper} {w : World} {Q : Exit → Slots → World → Prop} : ∀ (m : Nat) (l : List Oper) (s : Slots), stillT P n ops w Q m l s → stillE P n ops w (tailK P n ops (l.drop m) Q w) (l.take m) s := by
  intro m
  induction m with
  | zero => intro l s h; exact h
  | succ m ih =>
    intro l s h
    cases l with
    | nil => exact h
    | cons o rest =>
      unfold stillT at h
      simp only [List.take_succ_cons, List.drop_succ_cons]
      unfold stillE
      cases hg : o.guard with
      | none => simp only [hg] at h ⊢; exact stillRes_mono (fun v hv => ih _ _ hv) h
      | some jw =>
        obtain ⟨j, want⟩ := jw
        simp only [hg] at h ⊢
        generalize guardS ops s j = g at h
        cases g with
        | bool b =>
          simp only at h ⊢
          split
          · rename_i e1; rw [if_pos e1] at h; exact stillRes_mono (fun v hv => ih _ _ hv) h
          · rename_i e1; rw [if_neg e1] at h; exact ih _ _ h
        | _ => exact ih _ _ h
theorem W_tail {P : Program} {n id : Nat} {l : List Oper} {s : Slots} {w : World} {Q : Exit → Slots → World → Prop} (m : Nat) (hm : P.follows .mixedOrders = true) (hB : Region.lexTailB .any l.toArray m = true)
    (h : stillT P n l.toArray w.drew Q m l s) : W P n (.region id l.toArray true) s w Q := by
  intro ro ds a hf
  have h : wpStill P l.toArray w.drew (fun a' => wpListIn (fR ro) 0 P l.toArray (fun e a' w' => ∃ s', Fits n ds s' a' ∧ Q e s' w') (l.drop m) a' w.drew) (l.take m) a :=
    stillE_sound (fun s' a' hf' hk => opsE_sound (fun s2 w2 a2 hf2 hk2 => ⟨s2, hf2, hk2⟩) _ _ _ _ hf' hk) _ _ _ hf (stillT_take _ _ _ h)
  simp only [Region.lexTailB, Bool.and_eq_true, decide_eq_true_eq] at hB
  obtain ⟨⟨⟨⟨hsel, hn⟩, hs⟩, hc⟩, hlex⟩ := hB
  have hn' : m < l.length := by simpa using hn
  have htl : (l.take m).length = m := by simp; omega
  have hdl : (l.drop m).length = l.toArray.size - m := by simp
  have inv0 : HeadInv .any l.toArray m (Array.replicate l.toArray.size false) :=
    ⟨by simp, fun j oj _ hl => (by rw [getD_replicate_false] at hl; cases hl), fun t _ ht => getD_in (by simpa using ht) (getD_replicate_false _ _)⟩
  have H := wpAnyL_lex (md := .any) (g := l.toArray.size - m) hsel hs hc hn (l.take m) 0 _ a (fun j hj => by
    have hj' : j < m := by rw [htl] at hj; exact hj
    simp [hj']) (by simpa using htl) inv0 (by rw [htl]; exact hlex) h
  refine wpIn_region_any hm ?_
  have := wpAnyIn_of_head (ro := ro) (Q' := fun e a' w' => ∃ s', Fits n ds s' a' ∧ Q e s' w') (g := l.toArray.size - m) (fun listed a' hL => by
    have := wpAnyIn_of_seq (ro := ro) (md := .any) (Q' := fun e a' w' => ∃ s', Fits n ds s' a' ∧ Q e s' w') (l.drop m) m listed a' w.drew (fun j => by simp [List.getElem?_drop]) (by rw [hdl]; exact hL.1) hL.2
    rwa [hdl] at this) _ _ _ H
  rw [htl, show m + (l.toArray.size - m) = l.toArray.size by omega] at this
  exact this

/-! A region that draws its order, some of its operations being calls and stores that stand in one order, the others leaving the world out of account: in an order of one's own. -/
def YieldsAll (P : Program) (ops : Array Oper) (o : Oper) (v : Value) (a : Act) : Prop :=
  (Region.wanted o (yielded ops a.tmps) = true ∧ ∀ w, (execOp a.eval o).run P w = .ok (.value v) w) ∨ (Region.wanted o (yielded ops a.tmps) = false ∧ v = undef)
theorem YieldsAll.wpOp_ {P : Program} {ops : Array Oper} {Q : Exit → Act → World → Prop} {i : Nat} {o : Oper} {v : Value} {a : Act} {w : World} (hi : ops[i]? = some o) (hy : YieldsAll P ops o v a) {K : Act → World → Prop} (h : K (a.put o.dst v) w) : wpOpIn (fR ro) 0 P ops Q i K a w := by
  unfold wpOpIn
  simp only [hi]
  rcases hy with ⟨hw, hv⟩ | ⟨hw, rfl⟩
  · rw [if_pos hw]
    exact wpIn_of_resE (k := fun u w' => u = v ∧ w' = w) (by rw [hv w]; exact ⟨rfl, rfl⟩) (fun u w' ⟨e1, e2⟩ => by subst e1; subst e2; exact h)
  · rw [if_neg (by rw [hw]; exact Bool.false_ne_true)]; exact ⟨fun f _ => trivial, h⟩
theorem YieldsAll.put_ {P : Program} {ops : Array Oper} {oi oj : Oper} {v : Value} (hap : oi.apart ops oj = true) (hsi : ∀ cs b, oi.op ≠ .select cs b) {a : Act} (hy : YieldsAll P ops oi v a) (u : Value) : YieldsAll P ops oi v (a.put oj.dst u) := by
  obtain ⟨_, _, h3⟩ := Oper.apart_spec hap
  unfold YieldsAll at *
  rw [execOp_put (ops := ops) oi hsi a oj.dst u h3, wanted_put oi a oj.dst u h3]
  exact hy
theorem semAt_put {ops : Array Oper} {oj : Oper} (hsj : ∀ cs b, oj.op ≠ .select cs b) (a : Act) (dst : Option Tmp) (v : Value) (h1 : ∀ d, dst = some d → d ∉ oj.looksAt ops) : oj.semAt ro (a.put dst v).eval = oj.semAt ro a.eval := by
  have he := execOp_put (ops := ops) oj hsj a dst v h1
  unfold Oper.semAt
  cases ro with
  | none => exact he
  | some l =>
    cases ho : oj.op
    case defer c =>
      have e := resolve_congr (ρ := (a.put dst v).eval) (ρ' := a.eval) c oj.type (fun x hx => Act.eval_put fun d hd hxd => h1 d hd (by
        subst hxd
        exact List.mem_append_left _ (List.mem_filterMap.2 ⟨.tmp d, by rw [ho]; simpa [Op.operands] using hx, rfl⟩)))
      simp only [e]
    all_goals exact he
theorem wpOp_put {P : Program} {ops : Array Oper} {Q : Exit → Act → World → Prop} (hQ : ∀ e a w, Q e a w → e = .normal) {j : Nat} {oi oj : Oper} {v : Value} (hj : ops[j]? = some oj) (hap : oi.apart ops oj = true)
    (hsi : ∀ cs b, oi.op ≠ .select cs b) (hsj : ∀ cs b, oj.op ≠ .select cs b) {K K' : Act → World → Prop} {a : Act} {w : World} (hy : YieldsAll P ops oi v a)
    (hK : ∀ a' w', YieldsAll P ops oi v a' → K (a'.put oi.dst v) w' → K' a' w') (h : wpOpIn (fR ro) 0 P ops Q j K (a.put oi.dst v) w) : wpOpIn (fR ro) 0 P ops Q j K' a w := by
  obtain ⟨h1, h2, _⟩ := Oper.apart_spec hap
  unfold wpOpIn at *
  simp only [hj] at *
  rw [wanted_put oj a oi.dst v h1] at h
  have hput : ∀ u w', K ((a.put oi.dst v).put oj.dst u) w' → K' (a.put oj.dst u) w' := fun u w' hk => hK _ _ (hy.put_ hap hsi u) (by rw [← Act.put_comm a v u h2]; exact hk)
  split
  · rename_i hw
    rw [if_pos hw] at h
    refine ⟨fun f _ => trivial, ?_⟩
    have h := h.2
    show oj.uponIn (fR ro) 0 P a K' Q ((oj.semAt ro a.eval).run P w)
    have h : oj.uponIn (fR ro) 0 P (a.put oi.dst v) K Q ((oj.semAt ro (a.put oi.dst v).eval).run P w) := h
    rw [semAt_put (ops := ops) hsj a oi.dst v h1] at h
    generalize (oj.semAt ro a.eval).run P w = r at *
    cases r with
    | ok n w' =>
      cases n <;> simp only [Oper.uponIn] at h ⊢
      case value u => exact hput _ _ h
      case skip => exact hput _ _ h
      case enter f args =>
        refine ⟨fun h0 => (by cases h0), CallsIn.mono h.2 ?_⟩
        intro e w2 h2
        cases e with
        | returned u => exact hput _ _ h2
        | panicked chain => cases hQ _ _ _ h2
        | outgrown => obtain ⟨a1, w1, h3⟩ := h2; cases hQ _ _ _ h3
      case round l f tmps assign body =>
        refine ⟨fun h0 => (by cases h0), RoundIn.mono h.2 ?_⟩
        intro e w2 h2
        cases e with
        | returned u => exact hput _ _ h2
        | panicked chain => cases hQ _ _ _ h2
        | outgrown => obtain ⟨a1, w1, h3⟩ := h2; cases hQ _ _ _ h3
      case row row args => exact ⟨fun h0 => (by cases h0), RowsIn.mono h.2 fun u w2 h2 => hput _ _ h2⟩
      case defer d =>
        have e1 : ({ a.put oi.dst v with defers := d :: (a.put oi.dst v).defers } : Act).put oj.dst undef = (({ a with defers := d :: a.defers } : Act).put oj.dst undef).put oi.dst v := by
          rw [← Act.put_comm _ v undef h2]
          cases hd : oi.dst <;> rfl
        refine hK _ _ ?_ (by rw [← e1]; exact h)
        have hy2 : YieldsAll P ops oi v { a with defers := d :: a.defers } := hy
        exact hy2.put_ hap hsi undef
    | halt x w' =>
      cases x <;> simp only [Oper.uponIn] at h
      cases hQ _ _ _ h
  · rename_i hw
    rw [if_neg hw] at h
    exact ⟨fun f _ => trivial, hput _ _ h.2⟩
theorem wpAny_first {P : Program} {md : Region.Mode} {ops : Array Oper} {Q : Exit → Act → World → Prop} (hQ : ∀ e a w, Q e a w → e = .normal) {i : Nat} {oi : Oper} {v : Value} (hi : ops[i]? = some oi) (hsel : ∀ (j : Nat) (o : Oper) cs b, ops[j]? = some o → o.op ≠ .select cs b) :
    ∀ (fuel : Nat) (listed : Array Bool) (a : Act) (w : World),
      (∀ j oj, ops[j]? = some oj → j ≠ i → listed.getD j true = false → (∀ e ∈ oj.after, Region.binds md e = true → e.on ≠ i) → oi.apart ops oj = true) →
      i ∈ Region.ready md ops listed → YieldsAll P ops oi v a →
      wpAnyIn (fR ro) 0 P md ops Q fuel (listed.setIfInBounds i true) (a.put oi.dst v) w → wpAnyIn (fR ro) 0 P md ops Q (fuel + 1) listed a w := by
  intro fuel
  induction fuel with
  | zero =>
    intro listed a w _ hr hy H
    refine ⟨fun h => (by rw [h] at hr; cases hr), fun j hj => ?_⟩
    by_cases hji : j = i
    · subst hji; exact hy.wpOp_ hi H
    · have := ready_mono hj hji
      rw [H.1] at this
      cases this
  | succ fuel ih =>
    intro listed a w hfree hr hy H
    refine ⟨fun h => (by rw [h] at hr; cases hr), fun j hj => ?_⟩
    by_cases hji : j = i
    · subst hji; exact hy.wpOp_ hi H
    · have h1 := H.2 j (ready_mono hj hji)
      obtain ⟨hjun, oj, hoj, hall⟩ := mem_ready.1 hj
      have hnot : ∀ e ∈ oj.after, Region.binds md e = true → e.on ≠ i := fun e he hb heq => by
        have h1 := hall e he hb
        have h0 := (mem_ready.1 hr).1
        rw [heq] at h1
        rcases Nat.lt_or_ge i listed.size with h' | h'
        · simp [h'] at h0 h1; rw [h0] at h1; cases h1
        · simp [Array.getElem?_eq_none h'] at h1
      have hfree' : ∀ k ok, ops[k]? = some ok → k ≠ i → (listed.setIfInBounds j true).getD k true = false →
          (∀ e ∈ ok.after, Region.binds md e = true → e.on ≠ i) → oi.apart ops ok = true := fun k ok hk hki hun hno => by
        refine hfree k ok hk hki ?_ hno
        by_cases hjk : j = k
        · subst hjk; exact hjun
        · rw [getD_set_ne true hjk] at hun; exact hun
      refine wpOp_put hQ hoj (hfree j oj hoj hji hjun hnot) (fun cs b => hsel i oi cs b hi) (fun cs b => hsel j oj cs b hoj) hy (fun a' w' hy' hk => ih _ a' w' hfree' (ready_mono hr (Ne.symm hji)) hy' ?_) h1
      rw [Array.setIfInBounds_comm _ _ hji]
      exact hk
def planFrom (md : Region.Mode) (ops : Array Oper) : List (Nat × Bool) → Array Bool → Bool
  | [], listed => (Region.ready md ops listed).isEmpty
  | (i, true) :: r, listed => (Region.ready md ops listed).contains i && Region.free md ops listed i && planFrom md ops r (listed.setIfInBounds i true)
  | (i, false) :: r, listed => Region.ready md ops listed == [i] && planFrom md ops r (listed.setIfInBounds i true)
def planB (ops : Array Oper) (plan : List (Nat × Bool)) : Bool := Region.noSelect ops && plan.length == ops.size && planFrom .any ops plan (Array.replicate ops.size false)
def pureE (r : World → Result Next) (k : Value → Prop) : Prop := ∃ v, (∀ w, r w = .ok (.value v) w) ∧ k v
theorem pureE_value (v : Value) (k : Value → Prop) : pureE (Result.ok (.value v)) k = k v := by
  apply propext
  constructor
  · rintro ⟨u, hu, hk⟩
    have := hu default
    injection this with this
    injection this with this
    exact this ▸ hk
  · exact fun hk => ⟨v, fun _ => rfl, hk⟩
theorem pureE_value' (v : Value) (k : Value → Prop) : pureE (fun w => Result.ok (.value v) w) k = k v := pureE_value v k
theorem pureE_congr {r r' : World → Result Next} {k : Value → Prop} (h : r = r') : pureE r k = pureE r' k := by rw [h]
attribute [go_sem] pureE_value pureE_value'
attribute [congr] pureE_congr
def planE (P : Program) (n : Nat) (ops : Array Oper) (K : Slots → World → Prop) : List (Nat × Bool) → Slots → World → Prop
  | [], s, w => K s w
  | (i, b) :: r, s, w =>
    match ops[i]? with
    | none => False
    | some o =>
      match o.guard, b with
      | none, true => pureE (fun w => opR P o s w) (fun v => planE P n ops K r (put n s o.dst v) w)
      | none, false => resE P (opR P o s w) (fun v w' => planE P n ops K r (put n s o.dst v) w')
      | some _, _ => False
def planK (P : Program) (n : Nat) (ops : Array Oper) (K : Slots → World → Prop) (r : List (Nat × Bool)) (s : Slots) (d : Option Tmp) : Kont := fun v w => planE P n ops K r (put n s d v) w
def planV (P : Program) (n : Nat) (ops : Array Oper) (K : Slots → World → Prop) (r : List (Nat × Bool)) (s : Slots) (d : Option Tmp) (w : World) : Value → Prop := fun v => planE P n ops K r (put n s d v) w
def planO (P : Program) (n : Nat) (ops : Array Oper) (K : Slots → World → Prop) (o : Option Oper) (b : Bool) (r : List (Nat × Bool)) (s : Slots) (w : World) : Prop :=
  match o with
  | none => False
  | some o =>
    match o.guard, b with
    | none, true => pureE (fun w => opR P o s w) (planV P n ops K r s o.dst w)
    | none, false => resE P (opR P o s w) (planK P n ops K r s o.dst)
    | some _, _ => False
section
variable (P : Program) (n : Nat) (ops : Array Oper) (K : Slots → World → Prop) (r : List (Nat × Bool)) (s : Slots) (w : World) (d : Option Tmp)
@[go_sem] theorem planE_nil : planE P n ops K [] s w = K s w := propext Iff.rfl
@[go_sem] theorem planE_cons (i : Nat) (b : Bool) : planE P n ops K ((i, b) :: r) s w = planO P n ops K ops[i]? b r s w := propext Iff.rfl
@[go_sem] theorem planO_pure (op : Op) (ty : TypeId) (pos : String) (after : Array Edge) : planO P n ops K (some ⟨d, op, ty, pos, after, none⟩) true r s w = pureE (fun w => opR P ⟨d, op, ty, pos, after, none⟩ s w) (planV P n ops K r s d w) := propext Iff.rfl
@[go_sem] theorem planO_loud (op : Op) (ty : TypeId) (pos : String) (after : Array Edge) : planO P n ops K (some ⟨d, op, ty, pos, after, none⟩) false r s w = resE P (opR P ⟨d, op, ty, pos, after, none⟩ s w) (planK P n ops K r s d) := propext Iff.rfl
@[go_sem] theorem planK_eq (v : Value) : planK P n ops K r s d v w = planE P n ops K r (put n s d v) w := propext Iff.rfl
@[go_sem] theorem planV_eq (v : Value) : planV P n ops K r s d w v = planE P n ops K r (put n s d v) w := propext Iff.rfl
end
theorem planO_congr {P : Program} {n : Nat} {ops : Array Oper} {K : Slots → World → Prop} {o o' : Option Oper} {b : Bool} {r : List (Nat × Bool)} {s : Slots} {w : World} (h : o = o') : planO P n ops K o b r s w = planO P n ops K o' b r s w := by rw [h]
theorem planE_congr {P : Program} {n : Nat} {ops : Array Oper} {K : Slots → World → Prop} {r : List (Nat × Bool)} {s : Slots} {w w' : World} (h : w = w') : planE P n ops K r s w = planE P n ops K r s w' := by rw [h]
theorem planK_congr {P : Program} {n : Nat} {ops : Array Oper} {K : Slots → World → Prop} {r : List (Nat × Bool)} {s : Slots} {d : Option Tmp} {v v' : Value} {w w' : World} (h : v = v') (hw : w = w') : planK P n ops K r s d v w = planK P n ops K r s d v' w' := by rw [h, hw]
theorem planV_congr {P : Program} {n : Nat} {ops : Array Oper} {K : Slots → World → Prop} {r : List (Nat × Bool)} {s : Slots} {d : Option Tmp} {v v' : Value} {w : World} (h : v = v') : planV P n ops K r s d w v = planV P n ops K r s d w v' := by rw [h]
attribute [congr] planO_congr planE_congr planK_congr planV_congr
theorem planE_sound {P : Program} {n : Nat} {ops : Array Oper} {K : Slots → World → Prop} {Q : Exit → Act → World → Prop} (hQ : ∀ e a w, Q e a w → e = .normal) (hK : ∀ s w a, Fits n ds s a → K s w → Q .normal a w) (hs : Region.noSelect ops = true) :
    ∀ (plan : List (Nat × Bool)) (listed : Array Bool) (s : Slots) (w : World) (a : Act), Fits n ds s a → planFrom .any ops plan listed = true → planE P n ops K plan s w → wpAnyIn (fR ro) 0 P .any ops Q plan.length listed a w := by
  intro plan
  induction plan with
  | nil => intro listed s w a hf hB h; exact ⟨by simpa [planFrom] using hB, hK s w a hf h⟩
  | cons x r ih =>
    obtain ⟨i, b⟩ := x
    intro listed s w a hf hB h
    unfold planE at h
    cases hi : ops[i]? with
    | none => simp only [hi] at h
    | some o =>
      simp only [hi] at h
      cases hg : o.guard with
      | some jw => simp only [hg] at h
      | none =>
        have hwant : Region.wanted o (yielded ops a.tmps) = true := by simp [Region.wanted, hg]
        cases b with
        | true =>
          simp only [hg] at h
          simp only [planFrom, Bool.and_eq_true] at hB
          obtain ⟨v, hv, hk⟩ := h
          refine wpAny_first hQ hi (Region.noSelect_spec hs) r.length listed a w (Region.free_spec hi hB.1.2) (by simpa using hB.1.1) (.inl ⟨hwant, fun w' => ?_⟩) (ih _ _ _ _ (hf.put _ _) hB.2 hk)
          rw [hf.eval]
          exact opR_ends P o s w' _ _ (hv w')
        | false =>
          simp only [hg] at h
          simp only [planFrom, Bool.and_eq_true, beq_iff_eq] at hB
          refine ⟨fun h0 => (by rw [hB.1] at h0; cases h0), fun j hj => ?_⟩
          rw [hB.1] at hj
          obtain rfl : j = i := by simpa using hj
          unfold wpOpIn
          simp only [hi]
          rw [if_pos hwant]
          exact wpIn_of_resE (by rw [hf.eval]; exact resE_ends (opR_ends P o s w) h) (fun v w' hk => ih _ _ _ _ (hf.put _ _) hB.2 hk)
theorem W_plan {P : Program} {n id : Nat} {l : List Oper} {s : Slots} {w : World} {Q : Exit → Slots → World → Prop} (plan : List (Nat × Bool)) (hm : P.follows .mixedOrders = true) (hB : planB l.toArray plan = true)
    (h : planE P n l.toArray (Q .normal) plan s w.drew) : W P n (.region id l.toArray true) s w Q := by
  simp only [planB, Bool.and_eq_true, beq_iff_eq] at hB
  intro ro ds a hf
  have h1 : (Code.region id l.toArray true).wpIn (fR ro) 0 P (fun e a' w' => e = .normal ∧ ∃ s', Fits n ds s' a' ∧ Q .normal s' w') a w := by
    refine wpIn_region_any hm ?_
    have h2 := planE_sound (ro := ro) (Q := fun e a' w' => e = .normal ∧ ∃ s', Fits n ds s' a' ∧ Q .normal s' w') (fun e a w h => h.1) (fun s' w' a' hf' hk => ⟨rfl, s', hf', hk⟩) hB.1.1 plan _ s w.drew a hf hB.2 h
    rw [hB.1.2] at h2
    exact h2
  exact wpIn_mono h1 fun e a' w' ⟨he, s', hf', hq⟩ => by subst he; exact ⟨s', hf', hq⟩

/-! A function: its arguments in the first slots, its results at the end. -/
def argsE (args : Array Value) : Slots := fun t => args.getD t undef
@[go_sem] theorem argsE_0 (a : Value) (l : List Value) : argsE (List.toArray (a :: l)) 0 = a := Eq.trans rfl rfl
@[go_sem] theorem argsE_1 (a b : Value) (l : List Value) : argsE (List.toArray (a :: b :: l)) 1 = b := Eq.trans rfl rfl
@[go_sem] theorem argsE_2 (a b c : Value) (l : List Value) : argsE (List.toArray (a :: b :: c :: l)) 2 = c := Eq.trans rfl rfl
@[go_sem] theorem argsE_3 (a b c d : Value) (l : List Value) : argsE (List.toArray (a :: b :: c :: d :: l)) 3 = d := Eq.trans rfl rfl
@[go_sem] theorem argsE_4 (a b c d e : Value) (l : List Value) : argsE (List.toArray (a :: b :: c :: d :: e :: l)) 4 = e := Eq.trans rfl rfl
@[go_sem] theorem argsE_5 (a b c d e f : Value) (l : List Value) : argsE (List.toArray (a :: b :: c :: d :: e :: f :: l)) 5 = f := Eq.trans rfl rfl
@[go_sem] theorem argsE_6 (a b c d e f g : Value) (l : List Value) : argsE (List.toArray (a :: b :: c :: d :: e :: f :: g :: l)) 6 = g := Eq.trans rfl rfl
@[go_sem] theorem argsE_7 (a b c d e f g h : Value) (l : List Value) : argsE (List.toArray (a :: b :: c :: d :: e :: f :: g :: h :: l)) 7 = h := Eq.trans rfl rfl
@[go_sem] theorem argsE_8 (a b c d e f g h i : Value) (l : List Value) : argsE (List.toArray (a :: b :: c :: d :: e :: f :: g :: h :: i :: l)) 8 = i := Eq.trans rfl rfl
@[go_sem] theorem argsE_9 (a b c d e f g h i j : Value) (l : List Value) : argsE (List.toArray (a :: b :: c :: d :: e :: f :: g :: h :: i :: j :: l)) 9 = j := Eq.trans rfl rfl
def resVar (s : Slots) : ResultVar → Sem Value
  | .tmp t => pure (s t)
  | .cell a t => do loadVar t (← asAddr (s a))
def resultsS (rs : Array ResultVar) (s : Slots) : Sem Value := do
  let vs ← rs.mapM (resVar s)
  pure (if h : vs.size = 1 then vs[0] else .tuple vs)
def valO (v : Value) (t : Option (Option Nat)) (w : World) : Option Value :=
  match v, t with
  | .pointer (some a), some none => w.cell? a
  | .pointer (some a), some (some n) => (readCells w a 0 n).map fun l => .agg l.toArray
  | _, _ => none
def consO (v : Option Value) (l : Option (List Value)) : Option (List Value) := match v, l with | some v, some l => some (v :: l) | _, _ => none
def resO (P : Program) (s : Slots) (w : World) : List ResultVar → Option (List Value)
  | [] => some []
  | .tmp t :: r => consO (some (s t)) (resO P s w r)
  | .cell a t :: r => consO (valO (s a) (shapeOf P t) w) (resO P s w r)
def tupleOf : List Value → Value
  | [v] => v
  | l => .tuple l.toArray
def endE [b : Box Kont] (l : Option (List Value)) (w : World) : Prop := match l with | some l => b.of (tupleOf l) w | none => False
@[go_sem] theorem endE_ok (l : List Value) (w : World) (b : Box Kont) : @endE b (some l) w = b.of (tupleOf l) w := propext Iff.rfl
section
variable (P : Program) (s : Slots) (w : World) (r : List ResultVar)
@[go_sem] theorem resO_nil : resO P s w [] = some [] := Eq.trans rfl rfl
@[go_sem] theorem resO_tmp (t : Tmp) : resO P s w (.tmp t :: r) = consO (some (s t)) (resO P s w r) := Eq.trans rfl rfl
@[go_sem] theorem resO_cell (a : Tmp) (t : TypeId) : resO P s w (.cell a t :: r) = consO (valO (s a) (shapeOf P t) w) (resO P s w r) := Eq.trans rfl rfl
@[go_sem] theorem consO_some (v : Value) (l : List Value) : consO (some v) (some l) = some (v :: l) := Eq.trans rfl rfl
@[go_sem] theorem valO_one (a : Addr) : valO (.pointer (some a)) (some none) w = w.cell? a := Eq.trans rfl rfl
@[go_sem] theorem valO_many (a : Addr) (n : Nat) : valO (.pointer (some a)) (some (some n)) w = (readCells w a 0 n).map fun l => .agg l.toArray := Eq.trans rfl rfl
@[go_sem] theorem tupleOf_one (v : Value) : tupleOf [v] = v := Eq.trans rfl rfl
@[go_sem] theorem tupleOf_nil : tupleOf [] = .tuple #[] := Eq.trans rfl rfl
@[go_sem] theorem tupleOf_more (v u : Value) (l : List Value) : tupleOf (v :: u :: l) = .tuple (List.toArray (v :: u :: l)) := Eq.trans rfl rfl
end
theorem valO_run {P : Program} {v u : Value} {t : TypeId} {w : World} (h : valO v (shapeOf P t) w = some u) : ((do loadVar t (← asAddr v)) : Sem Value).run P w = .ok u w := by
  unfold valO at h
  split at h
  · rename_i a ht
    have ha : (isAgg t).run P w = .ok false w := run_isAgg ht
    simp [asAddr, loadVar, ha, h]
  · rename_i a n ht
    have ha : (isAgg t).run P w = .ok true w := run_isAgg ht
    obtain ⟨l, hl, rfl⟩ := Option.map_eq_some_iff.1 h
    simp [asAddr, loadVar, ha, run_sizeOf_shape ht, loadCells, run_readCells n 0 l #[] hl]
  · cases h
theorem resO_run {P : Program} {s : Slots} {w : World} : ∀ (r : List ResultVar) (l : List Value), resO P s w r = some l →
    (r.mapM (resVar s)).run P w = .ok l w := by
  intro r
  induction r with
  | nil => intro l h; simp only [resO, Option.some.injEq] at h; subst h; simp
  | cons x r ih =>
    intro l h
    cases x with
    | tmp t =>
      simp only [resO, consO] at h
      split at h
      · rename_i v l' hv hl
        simp only [Option.some.injEq] at hv h
        subst hv; subst h
        simp [List.mapM_cons, resVar, ih _ hl]
      · cases h
    | cell a t =>
      simp only [resO, consO] at h
      split at h
      · rename_i v l' hv hl
        simp only [Option.some.injEq] at h
        subst h
        have := valO_run hv
        have h2 : (resVar s (.cell a t)).run P w = .ok v w := this
        simp [List.mapM_cons, h2, ih _ hl]
      · cases h
theorem endE_run {P : Program} {rs : Array ResultVar} {s : Slots} {w : World} {R : Kont} (h : @endE ⟨R⟩ (resO P s w rs.toList) w) : ∃ v, (resultsS rs s).run P w = .ok v w ∧ R v w := by
  unfold endE at h
  split at h
  · rename_i l hl
    refine ⟨_, ?_, h⟩
    have := resO_run (P := P) (s := s) (w := w) rs.toList l hl
    unfold resultsS
    rw [Array.mapM_eq_mapM_toList]
    simp only [Sem.run_bind, Sem.run_map, this]
    match l with
    | [] => simp [tupleOf]
    | [v] => simp [tupleOf]
    | v :: u :: l => simp [tupleOf]
  · exact h.elim
theorem endE_congr {l l' : Option (List Value)} {w : World} {b : Box Kont} (h : l = l') : @endE b l w = @endE b l' w := by rw [h]
attribute [congr] endE_congr
def postE (P : Program) (rs : Array ResultVar) [b : Box Kont] : Exit → Slots → World → Prop
  | .normal, s, w | .ret, s, w => endE (resO P s w rs.toList) w
  | _, _, _ => False
@[go_sem] theorem postE_normal (P : Program) (rs : Array ResultVar) (b : Box Kont) (s : Slots) (w : World) : @postE P rs b .normal s w = @endE b (resO P s w rs.toList) w := propext Iff.rfl
@[go_sem] theorem postE_ret (P : Program) (rs : Array ResultVar) (b : Box Kont) (s : Slots) (w : World) : @postE P rs b .ret s w = @endE b (resO P s w rs.toList) w := propext Iff.rfl
/-! Rewriting leaves the code, what stands behind it and the slots alone. -/
section
variable {P : Program} {n : Nat} {s : Slots} {w w' : World} {Q : Exit → Slots → World → Prop} {ops : Array Oper} {K : Slots → World → Prop} {l : List Oper} {v v' : Value} {d : Option Tmp} {e : Exit}
theorem E_congr {c : Code} (h : w = w') : E P n c s w Q = E P n c s w' Q := by rw [h]
theorem opsE_congr (h : w = w') : opsE P n ops K l s w = opsE P n ops K l s w' := by rw [h]
theorem opsK_congr (h : v = v') (hw : w = w') : opsK P n ops K l s d v w = opsK P n ops K l s d v' w' := by rw [h, hw]
theorem thenC_congr {b : Code} (h : w = w') : thenC P n b Q e s w = thenC P n b Q e s w' := by rw [h]
theorem blockE_congr {i : Nat} (h : w = w') : blockE i Q e s w = blockE i Q e s w' := by rw [h]
theorem scopeE_congr (h : w = w') : scopeE Q e s w = scopeE Q e s w' := by rw [h]
theorem loopQ_congr {b : Box (Slots → World → Prop)} {m : Box (Slots → World → Nat)} {top : Nat} (h : w = w') : @loopQ b m top Q e s w = @loopQ b m top Q e s w' := by rw [h]
theorem stillE_congr {k : Slots → Prop} (h : w = w') : stillE P n ops w k l s = stillE P n ops w' k l s := by rw [h]
theorem stillT_congr {m : Nat} (h : w = w') : stillT P n ops w Q m l s = stillT P n ops w' Q m l s := by rw [h]
theorem stillK_congr {k : Slots → Prop} (h : v = v') : stillK P n ops w k l s d v = stillK P n ops w k l s d v' := by rw [h]
theorem stillTK_congr {m : Nat} (h : v = v') : stillTK P n ops w Q m l s d v = stillTK P n ops w Q m l s d v' := by rw [h]
theorem normK_congr (h : w = w') : normK Q w s = normK Q w' s := by rw [h]
theorem tailK_congr (h : w = w') : tailK P n ops l Q w s = tailK P n ops l Q w' s := by rw [h]
theorem postE_congr {rs : Array ResultVar} {b : Box Kont} (h : w = w') : @postE P rs b e s w = @postE P rs b e s w' := by rw [h]
end
attribute [congr] E_congr opsE_congr opsK_congr thenC_congr blockE_congr scopeE_congr loopQ_congr stillE_congr stillT_congr stillK_congr stillTK_congr normK_congr tailK_congr postE_congr
theorem calls_E {P : Program} {f : FuncId} {fn : Func} {c : Code} {args : Array Value} {w : World} {R : Kont} {n : Nat} {rs : Array ResultVar} (hf : P.funcs[f]? = some fn) (hb : fn.body = some c) (hn : fn.ntmps = n) (hr : fn.results = rs) (hle : args.size ≤ n)
    (h : E P n c (argsE args) w (@postE P rs ⟨R⟩)) : callE P f args w R := by
  suffices h0 : CallsIn Fence.wide 0 P f args w (fun e w' => ∃ v, e = .returned v ∧ R v w') from callsIn_wide.1 h0
  refine callsIn_of_wp hf hb trivial ?_
  have hfit : Fits n [] (argsE args) { tmps := args ++ Array.replicate (fn.ntmps - args.size) undef, defers := [] } := by
    refine ⟨by simp; omega, rfl, fun t => ?_⟩
    simp only [argsE, Array.getD_eq_getD_getElem?]
    by_cases ht : t < args.size
    · rw [Array.getElem?_append_left ht]
    · rw [Array.getElem?_append_right (by omega), Array.getElem?_replicate, Array.getElem?_eq_none (show args.size ≤ t by omega)]
      split <;> rfl
  have h1 : c.wpIn (fR none) 0 P (fun e a' w' => ∃ s', Fits n [] s' a' ∧ @postE P rs ⟨R⟩ e s' w') { tmps := args ++ Array.replicate (fn.ntmps - args.size) undef, defers := [] } w := E_sound c _ w _ h none [] _ hfit
  refine wpIn_mono h1 ?_
  rintro e a' w' ⟨s', hf', hq⟩
  have hend : ∀ {w'}, @endE ⟨R⟩ (resO P s' w' rs.toList) w' → ∃ v, (results fn a'.tmps).run P w' = .ok v w' ∧ ∃ v', Ending.returned v = Ending.returned v' ∧ R v' w' := by
    intro w' hq
    have he : results fn a'.tmps = resultsS rs s' := by
      have hs : s' = fun t => a'.tmps.getD t undef := funext fun t => (hf'.at_ t).symm
      subst hr; subst hs; rfl
    rw [he]
    obtain ⟨v, h1, h2⟩ := endE_run hq
    exact ⟨v, h1, v, rfl, h2⟩
  cases e with
  | normal => exact ⟨hf'.defers, hend hq⟩
  | ret => exact ⟨hf'.defers, hend hq⟩
  | _ => exact hq.elim
theorem runs_of_callE {P : Program} {f : FuncId} {args : Array Value} {w w' : World} {v : Value} (h : callE P f args w fun v' w'' => v' = v ∧ w'' = w') : Runs P f args w v w' :=
  h.mono fun e y ⟨x, he, h1, h2⟩ => by subst h1; exact ⟨he, h2⟩
end Go.Proofs.YtmcbcoafodmbjaaGreatDoor
