/-
  Texts joined: ExR, ExR2.
-/
import Derived.Test.YtmcbcoafodmbjaaGreatDoorJoin04
namespace Go.Proofs.YtmcbcoafodmbjaaGreatDoor.Ex
open Go
set_option linter.unusedVariables false
set_option linter.unusedSimpArgs false
/-! ## Lists -/
section
variable {α β : Type}
theorem lget_eq (l : List α) : ∀ n, lget l n = l[n]? := by
  induction l with
  | nil => intro n; rfl
  | cons x l ih =>
    intro n
    show cond (Nat.beq n 0) (some x) (lget l (Nat.pred n)) = _
    cases n with
    | zero => rfl
    | succ n => rw [ih]; rfl
theorem llen_eq (l : List α) : llen l = l.length := by
  induction l with
  | nil => rfl
  | cons x l ih => show Nat.succ (llen l) = _; rw [ih]; rfl
theorem lapp_eq (l m : List α) : lapp l m = l ++ m := by
  induction l with
  | nil => rfl
  | cons x l ih => show x :: lapp l m = _; rw [ih]; rfl
theorem lmap_eq (f : α → β) (l : List α) : lmap f l = l.map f := by
  induction l with
  | nil => rfl
  | cons x l ih => show f x :: lmap f l = _; rw [ih]; rfl
theorem lall_eq (f : α → Bool) (l : List α) : lall f l = l.all f := by
  induction l with
  | nil => rfl
  | cons x l ih => show cond (f x) (lall f l) false = _; rw [ih]; cases h : f x <;> simp [h]
theorem ldrop_eq : ∀ (n : Nat) (l : List α), ldrop n l = l.drop n
  | 0, l => rfl
  | n + 1, [] => rfl
  | n + 1, x :: l => by show ldrop n l = _; rw [ldrop_eq n l]; rfl
theorem ltake_eq : ∀ (n : Nat) (l : List α), ltake n l = l.take n
  | 0, l => by simp; rfl
  | n + 1, [] => rfl
  | n + 1, x :: l => by show x :: ltake n l = _; rw [ltake_eq n l]; rfl
theorem lset_eq (y : α) (l : List α) : ∀ n, lset l n y = l.set n y := by
  induction l with
  | nil => intro n; cases n <;> rfl
  | cons x l ih =>
    intro n
    show cond (Nat.beq n 0) (y :: l) (x :: lset l (Nat.pred n) y) = _
    cases n with
    | zero => rfl
    | succ n => rw [ih]; rfl
theorem lmod_eq (f : α → α) (l : List α) : ∀ n, lmod f l n = l.modify n f := by
  induction l with
  | nil => intro n; cases n <;> rfl
  | cons x l ih =>
    intro n
    show cond (Nat.beq n 0) (f x :: l) (x :: lmod f l (Nat.pred n)) = _
    cases n with
    | zero => rfl
    | succ n => rw [ih]; rfl
theorem ldel_eq (l : List α) : ∀ n, ldel l n = l.eraseIdx n := by
  induction l with
  | nil => intro n; cases n <;> rfl
  | cons x l ih =>
    intro n
    show cond (Nat.beq n 0) l (x :: ldel l (Nat.pred n)) = _
    cases n with
    | zero => rfl
    | succ n => rw [ih]; rfl
end
theorem lput_at (l : List Value) (off : Nat) (vs : List Value) : lput l off vs = l.take off ++ (vs ++ l.drop (off + vs.length)) := by
  simp [lput, lapp_eq, ltake_eq, ldrop_eq, llen_eq]
/-! ## Tries -/
section
variable {α : Type}
theorem get_leaf (k : Nat) : (Tr.leaf : Tr α).get k = none := rfl
theorem get_node (v : Option α) (l r : Tr α) (k : Nat) : (Tr.node v l r).get k = if k = 0 then v else if k % 2 = 1 then l.get (k / 2) else r.get (k / 2 - 1) := by
  show cond (Nat.beq k 0) v (cond (Nat.beq (Nat.mod k 2) 1) (l.get (Nat.div k 2)) (r.get (Nat.pred (Nat.div k 2)))) = _
  have e1 : Nat.beq k 0 = decide (k = 0) := by cases k <;> rfl
  have e2 : Nat.beq (Nat.mod k 2) 1 = decide (k % 2 = 1) := by
    show Nat.beq (k % 2) 1 = _
    rcases Nat.mod_two_eq_zero_or_one k with h | h <;> rw [h] <;> rfl
  rw [e1, e2]
  by_cases h : k = 0
  · simp [h]
  · by_cases h2 : k % 2 = 1
    · rw [if_neg h, if_pos h2]; simp [h, h2]; rfl
    · rw [if_neg h, if_neg h2]; simp [h, h2]; rfl
theorem setF_succ (f : Nat) (t : Tr α) (k : Nat) (x : α) : Tr.setF (f + 1) t k x = (match t with
    | .leaf => if k = 0 then .node (some x) .leaf .leaf else if k % 2 = 1 then .node none (Tr.setF f .leaf (k / 2) x) .leaf else .node none .leaf (Tr.setF f .leaf (k / 2 - 1) x)
    | .node v l r => if k = 0 then .node (some x) l r else if k % 2 = 1 then .node v (Tr.setF f l (k / 2) x) r else .node v l (Tr.setF f r (k / 2 - 1) x) : Tr α) := by
  have e1 : Nat.beq k 0 = decide (k = 0) := by cases k <;> rfl
  have e2 : Nat.beq (Nat.mod k 2) 1 = decide (k % 2 = 1) := by
    show Nat.beq (k % 2) 1 = _
    rcases Nat.mod_two_eq_zero_or_one k with h | h <;> rw [h] <;> rfl
  cases t with
  | leaf =>
    show cond (Nat.beq k 0) _ (cond (Nat.beq (Nat.mod k 2) 1) (Tr.node none (Tr.setF f .leaf (Nat.div k 2) x) .leaf) (Tr.node none .leaf (Tr.setF f .leaf (Nat.pred (Nat.div k 2)) x))) = _
    rw [e1, e2]
    by_cases h : k = 0
    · simp [h]
    · by_cases h2 : k % 2 = 1
      · simp [h, h2]; rfl
      · simp [h, h2]; rfl
  | node v l r =>
    show cond (Nat.beq k 0) _ (cond (Nat.beq (Nat.mod k 2) 1) (Tr.node v (Tr.setF f l (Nat.div k 2) x) r) (Tr.node v l (Tr.setF f r (Nat.pred (Nat.div k 2)) x))) = _
    rw [e1, e2]
    by_cases h : k = 0
    · simp [h]
    · by_cases h2 : k % 2 = 1
      · simp [h, h2]; rfl
      · simp [h, h2]; rfl
theorem get_setF (x : α) : ∀ (f : Nat) (t : Tr α) (k j : Nat), k < f → (Tr.setF f t k x).get j = if j = k then some x else t.get j := by
  intro f
  induction f with
  | zero => intro t k j h; omega
  | succ f ih =>
    intro t k j h
    rw [setF_succ]
    cases t with
    | leaf =>
      simp only
      by_cases h0 : k = 0
      · rw [if_pos h0, get_node]
        subst h0
        by_cases hj : j = 0
        · simp [hj]
        · simp [hj, get_leaf]
      · rw [if_neg h0]
        by_cases h2 : k % 2 = 1
        · rw [if_pos h2, get_node, ih _ _ _ (by omega)]
          by_cases hj : j = 0
          · simp [hj, get_leaf]; omega
          · simp only [hj, if_false, get_leaf]
            by_cases hj2 : j % 2 = 1
            · simp only [hj2, if_true]
              by_cases he : j = k
              · subst he; simp
              · rw [if_neg (by omega), if_neg he]
            · simp only [hj2, if_false]; rw [if_neg (by intro e; subst e; exact hj2 h2)]
        · rw [if_neg h2, get_node, ih _ _ _ (by omega)]
          by_cases hj : j = 0
          · simp [hj, get_leaf]; omega
          · simp only [hj, if_false, get_leaf]
            by_cases hj2 : j % 2 = 1
            · simp only [hj2, if_true]; rw [if_neg (by intro e; subst e; exact h2 hj2)]
            · simp only [hj2, if_false]
              by_cases he : j = k
              · subst he; simp
              · rw [if_neg (by omega), if_neg he]
    | node v l r =>
      simp only
      by_cases h0 : k = 0
      · rw [if_pos h0, get_node, get_node]
        subst h0
        by_cases hj : j = 0
        · simp [hj]
        · simp [hj]
      · rw [if_neg h0]
        by_cases h2 : k % 2 = 1
        · rw [if_pos h2, get_node, get_node, ih _ _ _ (by omega)]
          by_cases hj : j = 0
          · simp [hj]; omega
          · simp only [hj, if_false]
            by_cases hj2 : j % 2 = 1
            · simp only [hj2, if_true]
              by_cases he : j = k
              · subst he; simp
              · rw [if_neg (by omega), if_neg he]
            · simp only [hj2, if_false]; rw [if_neg (by intro e; subst e; exact hj2 h2)]
        · rw [if_neg h2, get_node, get_node, ih _ _ _ (by omega)]
          by_cases hj : j = 0
          · simp [hj]; omega
          · simp only [hj, if_false]
            by_cases hj2 : j % 2 = 1
            · simp only [hj2, if_true]; rw [if_neg (by intro e; subst e; exact h2 hj2)]
            · simp only [hj2, if_false]
              by_cases he : j = k
              · subst he; simp
              · rw [if_neg (by omega), if_neg he]
theorem get_set (t : Tr α) (k j : Nat) (x : α) : (t.set k x).get j = if j = k then some x else t.get j := get_setF x _ t k j (Nat.lt_succ_self k)
theorem evens_eq (l : List α) : ∀ n, (evens l).1[n]? = l[2 * n]? ∧ (evens l).2[n]? = l[2 * n + 1]? := by
  induction l with
  | nil => intro n; exact ⟨rfl, rfl⟩
  | cons x l ih =>
    intro n
    have e : evens (x :: l) = (x :: (evens l).2, (evens l).1) := rfl
    rw [e]
    refine ⟨?_, ?_⟩
    · cases n with
      | zero => rfl
      | succ n => simp only [List.getElem?_cons_succ]; rw [(ih n).2, show 2 * (n + 1) = (2 * n + 1) + 1 by omega, List.getElem?_cons_succ]
    · simp only [List.getElem?_cons_succ]; exact (ih n).1
theorem get_ofL : ∀ (f : Nat) (l : List α) (k : Nat) (x : α), (Tr.ofL f l).get k = some x → l[k]? = some x := by
  intro f
  induction f with
  | zero => intro l k x h; cases h
  | succ f ih =>
    intro l k x h
    cases l with
    | nil => cases h
    | cons y r =>
      have e : Tr.ofL (f + 1) (y :: r) = .node (some y) (Tr.ofL f (evens r).1) (Tr.ofL f (evens r).2) := rfl
      rw [e, get_node] at h
      by_cases h0 : k = 0
      · subst h0; simpa using h
      · rw [if_neg h0] at h
        by_cases h2 : k % 2 = 1
        · rw [if_pos h2] at h
          have := ih _ _ _ h
          rw [(evens_eq r _).1] at this
          rw [show k = 2 * (k / 2) + 1 by omega, List.getElem?_cons_succ]
          exact this
        · rw [if_neg h2] at h
          have := ih _ _ _ h
          rw [(evens_eq r _).2] at this
          rw [show k = (2 * (k / 2 - 1) + 1) + 1 by omega, List.getElem?_cons_succ]
          exact this
end
def FlatFs (R : TypeId → List FK → Prop) (P : Program) : List Field → Nat → List FK → Prop
  | [], _, l => l = []
  | f :: fs, o, l => f.name ≠ "_" ∧ f.offset = o ∧ ∃ l0 r i, P.info? f.type = some i ∧ i.size = l0.length ∧ R f.type l0 ∧ FlatFs R P fs (o + l0.length) r ∧ l = l0 ++ r
def FlatT (P : Program) : Nat → TypeId → List FK → Prop
  | 0, _, _ => False
  | m + 1, t, l => (∃ k, P.underlying t = some (.int k) ∧ l = [.int k]) ∨ (P.underlying t = some .bool ∧ l = [.bool]) ∨ (P.underlying t = some .string ∧ l = [.str]) ∨
    (∃ n e l0 i, P.underlying t = some (.array n e) ∧ P.info? e = some i ∧ i.size = l0.length ∧ FlatT P m e l0 ∧ l = (List.replicate n l0).flatten) ∨
    (∃ fs, P.underlying t = some (.struct fs) ∧ P.stoodInHeld t = false ∧ FlatFs (FlatT P m) P fs.toList 0 l)
structure Ctx.OK (C : Ctx) : Prop where
  tys : ∀ t i, C.tys.get t = some i → C.P.info? t = some i
  fns : ∀ f fn, C.fns.get f = some fn → C.P.funcs[f]? = some fn
  mixed : C.P.follows .mixedOrders = true
  fl : ∀ t l, C.fl t = some l → ∃ m, m ≤ 8 ∧ FlatT C.P m t l
  deep : 8 ≤ C.P.depth
section
variable {C : Ctx}
theorem und_ok (hC : C.OK) {t : TypeId} {d : TypeDesc} (h : C.und t = some d) : C.P.underlying t = some d := by
  unfold Ctx.und at h
  cases ht : C.tys.get t with
  | none => rw [ht] at h; cases h
  | some i =>
    rw [ht] at h
    have hi := hC.tys _ _ ht
    obtain ⟨d', a1, a2, a3, a4, a5, a6, a7, a8, a9⟩ := i
    unfold Program.underlying
    rw [hi]
    cases d' with
    | named n u =>
      simp only at h ⊢
      cases hu : C.tys.get u with
      | none => rw [hu] at h; cases h
      | some j => rw [hu] at h; rw [hC.tys _ _ hu]; simpa using h
    | _ => simpa using h
theorem info_ok (hC : C.OK) {t : TypeId} {i : TypeInfo} (h : C.info t = some i) : C.P.info? t = some i := hC.tys _ _ h
theorem size_ok (hC : C.OK) {t : TypeId} {x : Option Nat} (h : sizeA C t = some x) : shapeOf C.P t = some x := by
  unfold sizeA at h
  unfold shapeOf
  cases hu : C.und t with
  | none => rw [hu] at h; cases h
  | some d =>
    rw [hu] at h
    rw [und_ok hC hu]
    cases hi : C.info t with
    | none => rw [hi] at h; cases d <;> simp at h
    | some i =>
      rw [hi] at h
      rw [info_ok hC hi]
      have key : (match some i with | some i => cond (Nat.beq i.size 1) (some none) none | none => (none : Option (Option Nat))) = some x → (some i).bind (fun i => if i.size = 1 then some (none : Option Nat) else none) = some x := by
        intro h
        simp only [Option.bind_some]
        simp only at h
        cases hb : Nat.beq i.size 1 with
        | false => rw [hb] at h; cases h
        | true => rw [hb] at h; rw [if_pos (Nat.eq_of_beq_eq_true hb)]; exact h
      cases d <;> first | exact h | exact key h
end
/-! ## Values -/
structure Bind where
  blk : Nat
  shift : Nat
  room : Nat
abbrev Env := Nat → Option Bind
def Env.le (e e' : Env) : Prop := ∀ b x, e b = some x → e' b = some x
theorem Env.le.refl (e : Env) : e.le e := fun _ _ h => h
theorem Env.le.trans {e e' e'' : Env} (h : e.le e') (h' : e'.le e'') : e.le e'' := fun b x hb => h' b x (h b x hb)
inductive VR (e : Env) : Value → Value → Prop where
  | bool (b : Bool) : VR e (.bool b) (.bool b)
  | int (k : IntKind) (n : Int) : VR e (.int k n) (.int k n)
  | string (s : ByteArray) : VR e (.string s) (.string s)
  | nilp : VR e (.pointer none) (.pointer none)
  | ptr {b o : Nat} {x : Bind} (h : e b = some x) : VR e (.pointer (some ⟨b, o, none⟩)) (.pointer (some ⟨x.blk, o + x.shift, none⟩))
  | nils (n c : Nat) : VR e (.slice none n c) (.slice none n c)
  | sl {b o n c : Nat} {x : Bind} (h : e b = some x) : VR e (.slice (some ⟨b, o, none⟩) n c) (.slice (some ⟨x.blk, o + x.shift, none⟩) n (c + x.room))
  | sl1 {b o n c : Nat} {x : Bind} (h : e b = some x) : VR e (.slice (some ⟨b, o, some 1⟩) n c) (.slice (some ⟨x.blk, o + x.shift, none⟩) n c)
  | sl2 {b o o' : Nat} {x : Bind} (h : e b = some x) (h0 : 0 < x.room → o' = o + x.shift) : VR e (.slice (some ⟨b, o, some 2⟩) 0 0) (.slice (some ⟨x.blk, o', none⟩) 0 x.room)
  | nilm : VR e (.map none) (.map none)
  | map {b : Nat} {x : Bind} (h : e b = some x) : VR e (.map (some b)) (.map (some x.blk))
  | func (f : FuncId) {a b a' b' : List Value} (ha : a.length = a'.length) (h : ∀ (i : Nat) (v v' : Value), a[i]? = some v → a'[i]? = some v' → VR e v v') (hb : b.length = b'.length) (h2 : ∀ (i : Nat) (v v' : Value), b[i]? = some v → b'[i]? = some v' → VR e v v') :
      VR e (.func (.func f) ⟨a⟩ ⟨b⟩) (.func (.func f) ⟨a'⟩ ⟨b'⟩)
  | yield {l : Nat} {x : Bind} (h : e l = some x) : VR e (.func (.yield l) ⟨[]⟩ ⟨[]⟩) (.func (.yield x.blk) ⟨[]⟩ ⟨[]⟩)
  | nilFunc : VR e .nilFunc .nilFunc
  | iface (t : TypeId) {v v' : Value} (h : VR e v v') : VR e (.iface t v) (.iface t v')
  | nilIface : VR e .nilIface .nilIface
  | agg {a a' : List Value} (ha : a.length = a'.length) (h : ∀ (i : Nat) (v v' : Value), a[i]? = some v → a'[i]? = some v' → VR e v v') : VR e (.agg ⟨a⟩) (.agg ⟨a'⟩)
  | tuple {a a' : List Value} (ha : a.length = a'.length) (h : ∀ (i : Nat) (v v' : Value), a[i]? = some v → a'[i]? = some v' → VR e v v') : VR e (.tuple ⟨a⟩) (.tuple ⟨a'⟩)
  | any {v' : Value} (h1 : ∀ b, v' ≠ .bool b) (h2 : v'.oneCell' = true) : VR e (.chan none) v'
def LR (e : Env) (a a' : List Value) : Prop := a.length = a'.length ∧ ∀ (i : Nat) (v v' : Value), a[i]? = some v → a'[i]? = some v' → VR e v v'
theorem VR.mono {e e' : Env} (hle : e.le e') {v v' : Value} (h : VR e v v') : VR e' v v' := by
  induction h with
  | bool b => exact .bool b
  | int k n => exact .int k n
  | string s => exact .string s
  | nilp => exact .nilp
  | ptr h => exact .ptr (hle _ _ h)
  | nils n c => exact .nils n c
  | sl h => exact .sl (hle _ _ h)
  | sl1 h => exact .sl1 (hle _ _ h)
  | sl2 h h0 => exact .sl2 (hle _ _ h) h0
  | nilm => exact .nilm
  | map h => exact .map (hle _ _ h)
  | func f ha _ hb _ ih1 ih2 => exact .func f ha ih1 hb ih2
  | yield h => exact .yield (hle _ _ h)
  | nilFunc => exact .nilFunc
  | iface t _ ih => exact .iface t ih
  | nilIface => exact .nilIface
  | agg ha _ ih => exact .agg ha ih
  | tuple ha _ ih => exact .tuple ha ih
  | any h1 h2 => exact .any h1 h2
section
variable {e e' : Env}
theorem LR.nil : LR e [] [] := ⟨rfl, fun i v v' h => by simp at h⟩
theorem LR.cons {v v' : Value} {l l' : List Value} (hv : VR e v v') (h : LR e l l') : LR e (v :: l) (v' :: l') := by
  refine ⟨by simp [h.1], fun i u u' hu hu' => ?_⟩
  cases i with
  | zero => simp at hu hu'; subst hu hu'; exact hv
  | succ i => simp at hu hu'; exact h.2 i u u' hu hu'
theorem LR.uncons {v : Value} {l m : List Value} (h : LR e (v :: l) m) : ∃ v' l', m = v' :: l' ∧ VR e v v' ∧ LR e l l' := by
  cases m with
  | nil => have := h.1; simp at this
  | cons v' l' =>
    refine ⟨v', l', rfl, h.2 0 v v' rfl rfl, by simpa using h.1, fun i u u' hu hu' => h.2 (i + 1) u u' (by simpa using hu) (by simpa using hu')⟩
theorem LR.unnil {m : List Value} (h : LR e [] m) : m = [] := List.eq_nil_of_length_eq_zero (by have := h.1; simp at this; omega)
theorem LR.mono (hle : e.le e') {l l' : List Value} (h : LR e l l') : LR e' l l' := ⟨h.1, fun i v v' hv hv' => (h.2 i v v' hv hv').mono hle⟩
theorem LR.append {l l' m m' : List Value} (h : LR e l l') (k : LR e m m') : LR e (l ++ m) (l' ++ m') := by
  induction l generalizing l' with
  | nil => rw [h.unnil]; exact k
  | cons v l ih => obtain ⟨v', r, rfl, hv, hr⟩ := h.uncons; exact LR.cons hv (ih hr)
theorem LR.take {l l' : List Value} (h : LR e l l') (n : Nat) : LR e (l.take n) (l'.take n) := by
  refine ⟨by simp [h.1], fun i v v' hv hv' => ?_⟩
  rw [List.getElem?_take] at hv hv'
  split at hv
  · rename_i hi; rw [if_pos hi] at hv'; exact h.2 i v v' hv hv'
  · cases hv
theorem LR.drop {l l' : List Value} (h : LR e l l') (n : Nat) : LR e (l.drop n) (l'.drop n) := by
  refine ⟨by simp [h.1], fun i v v' hv hv' => ?_⟩
  rw [List.getElem?_drop] at hv hv'
  exact h.2 _ v v' hv hv'
theorem LR.set {l l' : List Value} (h : LR e l l') (n : Nat) {v v' : Value} (hv : VR e v v') : LR e (l.set n v) (l'.set n v') := by
  refine ⟨by simp [h.1], fun i u u' hu hu' => ?_⟩
  rw [List.getElem?_set] at hu hu'
  split at hu
  · rename_i hi
    subst hi
    rw [if_pos rfl] at hu'
    split at hu
    · split at hu'
      · simp at hu hu'; subst hu hu'; exact hv
      · cases hu'
    · cases hu
  · rename_i hi; rw [if_neg hi] at hu'; exact h.2 i u u' hu hu'
theorem LR.get {l l' : List Value} (h : LR e l l') {i : Nat} {v : Value} (hv : l[i]? = some v) : ∃ v', l'[i]? = some v' ∧ VR e v v' := by
  have hi : i < l.length := (List.getElem?_eq_some_iff.1 hv).1
  refine ⟨l'[i]'(by rw [← h.1]; exact hi), List.getElem?_eq_getElem (by rw [← h.1]; exact hi), h.2 i _ _ hv (List.getElem?_eq_getElem (by rw [← h.1]; exact hi))⟩
theorem LR.map_ {α : Type} {f g : α → Value} (h : ∀ x, VR e (f x) (g x)) (l : List α) : LR e (l.map f) (l.map g) := by
  induction l with
  | nil => exact LR.nil
  | cons x l ih => exact LR.cons (h x) ih
theorem LR.map_mem {α : Type} {f g : α → Value} (l : List α) (h : ∀ x ∈ l, VR e (f x) (g x)) : LR e (l.map f) (l.map g) := by
  induction l with
  | nil => exact LR.nil
  | cons x l ih => exact LR.cons (h x List.mem_cons_self) (ih fun y hy => h y (List.mem_cons_of_mem _ hy))
theorem VR.agg_ {l l' : List Value} (h : LR e l l') : VR e (.agg ⟨l⟩) (.agg ⟨l'⟩) := .agg h.1 h.2
theorem VR.tuple_ {l l' : List Value} (h : LR e l l') : VR e (.tuple ⟨l⟩) (.tuple ⟨l'⟩) := .tuple h.1 h.2
theorem VR.undef_ : VR e undefA undef := VR.tuple_ LR.nil
end
theorem nfN_eq {e : Env} : ∀ (n : Nat) (v v' : Value), nfN n v = true → VR e v v' → v = v' := by
  have lst : ∀ (f : Value → Bool), (∀ v v', f v = true → VR e v v' → v = v') → ∀ l l' : List Value, lall f l = true → LR e l l' → l = l' := by
    intro f hf l
    induction l with
    | nil => intro l' _ h; exact h.unnil.symm
    | cons x l ih =>
      intro m h hm
      obtain ⟨x', l', rfl, hx, hl⟩ := hm.uncons
      rw [lall_eq] at h
      simp only [List.all_cons, Bool.and_eq_true] at h
      rw [hf x x' h.1 hx, ih l' (by rw [lall_eq]; exact h.2) hl]
  intro n
  induction n with
  | zero =>
    intro v v' h hv
    cases hv <;> first | rfl | (exact absurd h (by intro h; cases h))
  | succ n ih =>
    intro v v' h hv
    cases hv with
    | func f ha h1 hb h2 =>
      rename_i a b a' b'
      cases a with
      | cons => cases h
      | nil =>
        cases b with
        | cons => cases h
        | nil =>
          rw [(show LR e [] a' from ⟨ha, h1⟩).unnil, (show LR e [] b' from ⟨hb, h2⟩).unnil]
    | iface t hv => rw [ih _ _ h hv]
    | agg ha h1 => rw [lst _ ih _ _ h ⟨ha, h1⟩]
    | tuple ha h1 => rw [lst _ ih _ _ h ⟨ha, h1⟩]
    | _ => first | rfl | (exact absurd h (by intro h; cases h))
theorem nf_eq {e : Env} {v v' : Value} (h : nf v = true) (hv : VR e v v') : v = v' := nfN_eq 4 v v' h hv
theorem nfN_self {e : Env} : ∀ (n : Nat) (v : Value), nfN n v = true → VR e v v := by
  have lst : ∀ (f : Value → Bool), (∀ v, f v = true → VR e v v) → ∀ l : List Value, lall f l = true → LR e l l := by
    intro f hf l
    induction l with
    | nil => intro _; exact LR.nil
    | cons x l ih =>
      intro h
      rw [lall_eq] at h
      simp only [List.all_cons, Bool.and_eq_true] at h
      exact LR.cons (hf x h.1) (ih (by rw [lall_eq]; exact h.2))
  intro n
  induction n with
  | zero =>
    intro v h
    cases v with
    | bool b => exact .bool b
    | int k n => exact .int k n
    | string s => exact .string s
    | pointer a => cases a with | none => exact .nilp | some a => cases h
    | slice a n c => cases a with | none => exact .nils n c | some a => cases h
    | map r => cases r with | none => exact .nilm | some r => cases h
    | nilFunc => exact .nilFunc
    | nilIface => exact .nilIface
    | _ => cases h
  | succ n ih =>
    intro v h
    cases v with
    | bool b => exact .bool b
    | int k n => exact .int k n
    | string s => exact .string s
    | pointer a => cases a with | none => exact .nilp | some a => cases h
    | slice a n c => cases a with | none => exact .nils n c | some a => cases h
    | map r => cases r with | none => exact .nilm | some r => cases h
    | nilFunc => exact .nilFunc
    | nilIface => exact .nilIface
    | iface t v => exact .iface t (ih v h)
    | agg cs => obtain ⟨l⟩ := cs; exact VR.agg_ (lst _ ih l h)
    | tuple cs => obtain ⟨l⟩ := cs; exact VR.tuple_ (lst _ ih l h)
    | func f a b =>
      obtain ⟨a⟩ := a
      obtain ⟨b⟩ := b
      cases f with
      | func f =>
        cases a with
        | cons => cases h
        | nil =>
          cases b with
          | cons => cases h
          | nil => exact .func f rfl (fun i v v' h => by simp at h) rfl (fun i v v' h => by simp at h)
      | _ => cases a <;> cases b <;> cases h
    | _ => cases h
theorem nf_self {e : Env} {v : Value} (h : nf v = true) : VR e v v := nfN_self 4 v h
end Go.Proofs.YtmcbcoafodmbjaaGreatDoor.Ex
namespace Go.Proofs.YtmcbcoafodmbjaaGreatDoor.Ex
open Go Go.RowKit
set_option linter.unusedVariables false
set_option linter.unusedSimpArgs false
def MR (e : Env) (l l' : List MapEntry) : Prop := l.length = l'.length ∧ ∀ (i : Nat) (a a' : MapEntry), l[i]? = some a → l'[i]? = some a' → VR e a.key a'.key ∧ VR e a.val a'.val ∧ a.born = a'.born
inductive OR (e : Env) : Obj → Obj → Prop where
  | map {l l' : List MapEntry} (c : Nat) (h : MR e l l') : OR e (.map ⟨l⟩ c) (.map ⟨l'⟩ c)
  | siter (s : ByteArray) (p : Nat) : OR e (.stringIter s p) (.stringIter s p)
  | miter0 (a : Nat) (l : Array Nat) (c : Nat) : OR e (.mapIter none a l c) (.mapIter none a l c)
  | miter {b : Nat} {x : Bind} (h : e b = some x) (a : Nat) (l : Array Nat) (c : Nat) : OR e (.mapIter (some b) a l c) (.mapIter (some x.blk) a l c)
  | loop {D : Nat} {x : Bind} (h : e D = some x) (s : LoopState) (p : Option Code) (fn fn' : FuncId) {t t' : List Value} (ht : LR e t t') (ps : Array Tmp) (a b : Code) : OR e (.loop ⟨s, p, fn, ⟨t⟩, ps, a, b, D⟩) (.loop ⟨s, p, fn', ⟨t'⟩, ps, a, b, x.blk⟩)
  | taken : OR e (.deferred none) (.deferred none)
  | mark : OR e (.deferred (some [])) (.deferred (some []))
theorem MR.mono {e e' : Env} (hle : e.le e') {l l' : List MapEntry} (h : MR e l l') : MR e' l l' :=
  ⟨h.1, fun i a a' ha ha' => ⟨(h.2 i a a' ha ha').1.mono hle, (h.2 i a a' ha ha').2.1.mono hle, (h.2 i a a' ha ha').2.2⟩⟩
theorem OR.mono {e e' : Env} (hle : e.le e') {o o' : Obj} (h : OR e o o') : OR e' o o' := by
  cases h with
  | map c h => exact .map c (h.mono hle)
  | siter s p => exact .siter s p
  | miter0 a l c => exact .miter0 a l c
  | miter h a l c => exact .miter (hle _ _ h) a l c
  | loop h s p fn fn' ht ps a b => exact .loop (hle _ _ h) s p fn fn' (ht.mono hle) ps a b
  | taken => exact .taken
  | mark => exact .mark
inductive CR (C : Ctx) (e : Env) (x : Bind) : Cel → Option Obj → Prop where
  | cells {l l' : List Value} {t : TypeId} {k : Knd} {fr : Nat × Nat} (h0 : k.isGrown = false → x.room = 0) (h1 : ∀ (i : Nat) (v : Value), l[i]? = some v → ∃ v', l'[i + x.shift]? = some v' ∧ VR e v v')
      (h2 : k.mayWrite = true → ∀ i, i < l.length → ¬ (fr.1 ≤ i + x.shift ∧ i + x.shift < fr.2)) (h3 : k = .grown → ∃ i, C.P.info? t = some i ∧ l.length + x.shift + x.room * i.size ≤ l'.length ∧ l.length / i.size + x.room ≤ 9223372036854775807 ∧ ∀ j, l.length + x.shift ≤ j → j < l.length + x.shift + x.room * i.size → ¬ (fr.1 ≤ j ∧ j < fr.2)) : CR C e x (.cells l t k) (some (.cells ⟨l'⟩ t fr))
  | obj {o o' : Obj} (h0 : x.shift = 0) (h : OR e o o') : CR C e x (.obj o) (some o')
  | dead (o : Option Obj) : CR C e x .dead o
theorem CR.mono {C : Ctx} {e e' : Env} (hle : e.le e') {x : Bind} {c : Cel} {o : Option Obj} (h : CR C e x c o) : CR C e' x c o := by
  cases h with
  | cells h0 h1 h2 h3 => exact .cells h0 (fun i v hv => let ⟨v', a, b⟩ := h1 i v hv; ⟨v', a, b.mono hle⟩) h2 h3
  | obj h0 h => exact .obj h0 (h.mono hle)
  | dead o => exact .dead o
def Cel.live : Cel → Bool | .dead => false | _ => true
def Cel.mine : Cel → Bool | .cells _ _ k => k.mayWrite | .obj _ => true | .dead => false
structure Rel (C : Ctx) (B : Nat) (w0 : World) (e : Env) (st : St) (w : World) : Prop where
  obj : ∀ b c x, st.heap.get b = some c → e b = some x → CR C e x c w.heap[x.blk]?
  inj : ∀ b b' c c' x x', st.heap.get b = some c → st.heap.get b' = some c' → c.live = true → c'.live = true → e b = some x → e b' = some x' → x.blk = x'.blk → b = b'
  dom : ∀ b x, e b = some x → x.blk < w.heap.size ∧ ∃ c, st.heap.get b = some c
  fresh : ∀ b, st.next ≤ b → st.heap.get b = none
  own : ∀ b c x, st.heap.get b = some c → e b = some x → c.mine = true → B ≤ x.blk
  keep : Below B w0 w
  base : B ≤ w.heap.size
  glob : ∀ g, C.gl g = true → e g = some ⟨g, 0, 0⟩
section
variable {C : Ctx} {B : Nat} {w0 : World} {e : Env} {st : St} {w : World}
theorem Rel.drew (h : Rel C B w0 e st w) : Rel C B w0 e st w.drew := ⟨h.obj, h.inj, h.dom, h.fresh, h.own, h.keep.drew, h.base, h.glob⟩
theorem Rel.at_ (h : Rel C B w0 e st w) {b : Nat} {x : Bind} {l : List Value} {t : TypeId} {k : Knd} (hg : st.heap.get b = some (.cells l t k)) (he : e b = some x) :
    ∃ (l' : List Value) (fr : Nat × Nat), w.heap[x.blk]? = some (.cells ⟨l'⟩ t fr) ∧ (∀ (i : Nat) (v : Value), l[i]? = some v → ∃ v', l'[i + x.shift]? = some v' ∧ VR e v v') ∧ (k.mayWrite = true → ∀ i, i < l.length → ¬ (fr.1 ≤ i + x.shift ∧ i + x.shift < fr.2)) ∧
      (k.isGrown = false → x.room = 0) ∧ (k = .grown → ∃ i, C.P.info? t = some i ∧ l.length + x.shift + x.room * i.size ≤ l'.length ∧ l.length / i.size + x.room ≤ 9223372036854775807 ∧ ∀ j, l.length + x.shift ≤ j → j < l.length + x.shift + x.room * i.size → ¬ (fr.1 ≤ j ∧ j < fr.2)) := by
  have hc := h.obj b _ x hg he
  generalize hw : w.heap[x.blk]? = o at hc
  cases hc with
  | cells h0 h1 h2 h3 => exact ⟨_, _, rfl, h1, h2, h0, h3⟩
theorem Rel.cell_ (h : Rel C B w0 e st w) {b off : Nat} {x : Bind} {v : Value} (hv : st.cell? b off = some v) (he : e b = some x) : ∃ v', w.cell? ⟨x.blk, off + x.shift, none⟩ = some v' ∧ VR e v v' := by
  unfold St.cell? at hv
  split at hv
  · rename_i c t k hg
    rw [lget_eq] at hv
    obtain ⟨l', fr, hw, h1, _⟩ := h.at_ hg he
    obtain ⟨v', a, b⟩ := h1 off v hv
    exact ⟨v', by simpa [World.cell?, hw] using a, b⟩
  · cases hv
theorem readCells_list {w : World} {g : Nat} : ∀ (n o i : Nat) (l : List Value), l.length = n → (∀ (j : Nat) (v : Value), l[j]? = some v → w.cell? ⟨g, o + i + j, none⟩ = some v) → readCells w ⟨g, o, none⟩ i n = some l
  | 0, o, i, l, hl, _ => by rw [List.length_eq_zero_iff.1 hl]; rfl
  | n + 1, o, i, [], hl, _ => by cases hl
  | n + 1, o, i, v :: l, hl, hc => by
    have h0 : w.cell? ⟨g, o + i, none⟩ = some v := hc 0 v rfl
    have ih := readCells_list (w := w) (g := g) n o (i + 1) l (by simpa using hl) (fun j u hj => by
      have := hc (j + 1) u (by simpa using hj)
      rw [show o + (i + 1) + j = o + i + (j + 1) by omega]; exact this)
    simp only [readCells, add_none, h0, ih]
    rfl
theorem Rel.cells_ (h : Rel C B w0 e st w) {b off n : Nat} {x : Bind} {l : List Value} (hv : st.cells? b off n = some l) (he : e b = some x) :
    ∃ l', readCells w ⟨x.blk, off + x.shift, none⟩ 0 n = some l' ∧ LR e l l' ∧ l.length = n := by
  unfold St.cells? at hv
  split at hv
  · rename_i c t k hg
    rw [llen_eq] at hv
    cases hb : Nat.ble (off + n) c.length with
    | false => rw [hb] at hv; cases hv
    | true =>
      rw [hb] at hv
      simp only [cond_true, Option.some.injEq, ltake_eq, ldrop_eq] at hv
      have hle : off + n ≤ c.length := Nat.le_of_ble_eq_true hb
      obtain ⟨l', fr, hw, h1, _⟩ := h.at_ hg he
      have hlen : l.length = n := by rw [← hv]; simp; omega
      rcases Nat.eq_zero_or_pos n with h0 | h0
      · subst h0
        have : l = [] := List.eq_nil_of_length_eq_zero hlen
        subst this
        exact ⟨[], rfl, LR.nil, rfl⟩
      have hle' : off + x.shift + n ≤ l'.length := by
        obtain ⟨v', a, _⟩ := h1 (off + n - 1) _ (List.getElem?_eq_getElem (by omega))
        have := (List.getElem?_eq_some_iff.1 a).1
        omega
      refine ⟨(l'.drop (off + x.shift)).take n, ?_, ⟨?_, ?_⟩, hlen⟩
      · refine readCells_list n _ 0 _ (by simp; omega) fun j v hj => ?_
        rw [List.getElem?_take] at hj
        split at hj
        · rw [List.getElem?_drop] at hj
          simpa [World.cell?, hw] using hj
        · cases hj
      · rw [hlen]; simp; omega
      · intro i v v' hi hi'
        rw [← hv, List.getElem?_take] at hi
        rw [List.getElem?_take] at hi'
        split at hi
        · rename_i hin
          rw [if_pos hin, List.getElem?_drop] at hi'
          rw [List.getElem?_drop] at hi
          obtain ⟨u, a, hu⟩ := h1 _ _ hi
          rw [show off + x.shift + i = off + i + x.shift by omega, a] at hi'
          simp at hi'; subst hi'; exact hu
        · cases hi
  · cases hv
end
end Go.Proofs.YtmcbcoafodmbjaaGreatDoor.Ex
