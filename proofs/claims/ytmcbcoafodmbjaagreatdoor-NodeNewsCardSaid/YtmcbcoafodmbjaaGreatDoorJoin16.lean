/-
  Texts joined: ExD.
-/
import Derived.Test.YtmcbcoafodmbjaaGreatDoorJoin15
namespace Go.Proofs.YtmcbcoafodmbjaaGreatDoor.Ex
open Go Go.RowKit
set_option linter.unusedVariables false
set_option linter.unusedSimpArgs false
theorem lany_eq {α : Type} (f : α → Bool) (l : List α) : lany f l = l.any f := by
  induction l with
  | nil => rfl
  | cons x l ih => show cond (f x) true (lany f l) = _; rw [ih]; cases h : f x <;> simp [h]
theorem forceN_eq {α : Type} (n : Nat) (f : Nat → α) : forceN n f = f n := by cases n <;> rfl
def Dep (o : Oper) (j : Nat) : Prop := ∃ e ∈ o.after, Region.binds .any e = true ∧ e.on = j
def loudB (i : Ins) : Bool := match insCls i with | .loud => true | _ => false
theorem loudB_cls {i : Ins} (h : insCls i = .loud) : loudB i = true := by unfold loudB; rw [h]
theorem loudB_not {i : Ins} (h : insCls i ≠ .loud) : loudB i = false := by unfold loudB; cases hc : insCls i <;> first | rfl | exact absurd hc h
theorem knownB {T : Tr Nat} {o : Oper} (h : known T o.after.toList = true) {j : Nat} (hd : Dep o j) : ∃ x, T.get j = some x := by
  obtain ⟨e, he, hb, rfl⟩ := hd
  unfold known at h
  rw [lall_eq, List.all_eq_true] at h
  have := h e (by simpa using he)
  rw [hb] at this
  simp only [cond_true, inT] at this
  split at this
  · rename_i x hx; exact ⟨x, hx⟩
  · cases this
theorem behindB {T : Tr Nat} {k : Nat} {o : Oper} (h : behind T k o.after.toList = true) (hk : k ≠ 0) : ∃ j, Dep o j ∧ T.get j = some k := by
  unfold behind at h
  cases hb : Nat.beq k 0 with
  | true => exact absurd (Nat.eq_of_beq_eq_true hb) hk
  | false =>
    rw [hb] at h
    simp only [cond_false, lany_eq, List.any_eq_true] at h
    obtain ⟨e, he, h⟩ := h
    cases hb2 : Region.binds .any e with
    | false => rw [hb2] at h; cases h
    | true =>
      rw [hb2] at h
      simp only [cond_true] at h
      split at h
      · rename_i x hx
        rw [Nat.eq_of_beq_eq_true h] at hx
        exact ⟨e.on, ⟨e, by simpa using he, hb2, rfl⟩, hx⟩
      · cases h
theorem lookB {D : Tr Nat} {o : Oper} {t : Nat} (h : lookOk D o.after.toList t = true) {j : Nat} (hd : D.get t = some j) : Dep o j := by
  unfold lookOk at h
  rw [hd] at h
  simp only [edgeTo, lany_eq, List.any_eq_true] at h
  obtain ⟨e, he, h⟩ := h
  cases hb2 : Region.binds .any e with
  | false => rw [hb2] at h; cases h
  | true =>
    rw [hb2] at h
    simp only [cond_true] at h
    exact ⟨e, by simpa using he, hb2, Nat.eq_of_beq_eq_true h⟩
theorem dstsA_ok : ∀ (l : List Oper) (i : Nat) (D D' : Tr Nat), dstsA l i D = some D' → (∀ t j, D.get t = some j → D'.get t = some j) ∧ ∀ (k : Nat) (o : Oper) (d : Tmp), l[k]? = some o → o.dst = some d → D'.get d = some (i + k)
  | [], i, D, D', h => by cases h; exact ⟨fun _ _ h => h, fun k o d h => by simp at h⟩
  | o :: l, i, D, D', h => by
    have h' : (match o.dst with
      | none => dstsA l (i + 1) D
      | some d => (match D.get d with | none => dstsA l (i + 1) (D.set d i) | some _ => none)) = some D' := h
    split at h'
    · rename_i hn
      obtain ⟨a, b⟩ := dstsA_ok l (i + 1) D D' h'
      refine ⟨a, fun k o2 d2 hk hd => ?_⟩
      cases k with
      | zero => simp at hk; subst hk; rw [hn] at hd; cases hd
      | succ k => rw [b k o2 d2 (by simpa using hk) hd]; congr 1; omega
    · rename_i d hn
      split at h'
      · rename_i hd0
        obtain ⟨a, b⟩ := dstsA_ok l (i + 1) _ D' h'
        refine ⟨fun t j ht => a t j (by rw [get_set, if_neg (fun e => by subst e; rw [hd0] at ht; cases ht)]; exact ht), fun k o2 d2 hk hd => ?_⟩
        cases k with
        | zero => simp at hk; subst hk; rw [hn] at hd; cases hd; exact a _ _ (by rw [get_set, if_pos rfl]; rfl)
        | succ k => rw [b k o2 d2 (by simpa using hk) hd]; congr 1; omega
      · cases h'
inductive Reach (ops : List Oper) : Nat → Nat → Prop
  | one {j i : Nat} {o : Oper} (h : ops[j]? = some o) (d : Dep o i) : Reach ops j i
  | more {j m i : Nat} {o : Oper} (h : ops[j]? = some o) (d : Dep o m) (r : Reach ops m i) : Reach ops j i
theorem reachB_ok {ops : List Oper} {i : Nat} : ∀ n j, reachB ops i n j = true → Reach ops j i
  | 0, j, h => by cases h
  | n + 1, j, h => by
    have h' : (match lget ops j with | some o => lany (fun e => cond (Region.binds .any e) (cond (Nat.beq e.on i) true (reachB ops i n e.on)) false) o.after.toList | none => false) = true := h
    split at h'
    · rename_i o ho
      rw [lget_eq] at ho
      rw [lany_eq, List.any_eq_true] at h'
      obtain ⟨e, he, h'⟩ := h'
      cases hb : Region.binds .any e with
      | false => rw [hb] at h'; cases h'
      | true =>
        rw [hb] at h'
        simp only [cond_true] at h'
        cases hq : Nat.beq e.on i with
        | true => exact .one ho ⟨e, by simpa using he, hb, Nat.eq_of_beq_eq_true hq⟩
        | false =>
          rw [hq] at h'
          exact .more ho ⟨e, by simpa using he, hb, rfl⟩ (reachB_ok n e.on h')
    · cases h'
theorem oldB_inv {ops : List Oper} {D T : Tr Nat} {x : It} (h : oldB ops D T x = true) : ∃ t j, x.o.guard = none ∧ x.o.op = .move (.tmp t) ∧ x.ins = .move (.tmp t) ∧ D.get t = some j ∧ T.get j = none ∧ j ≠ x.i ∧ Reach ops j x.i := by
  unfold oldB at h
  split at h
  · rename_i hg
    split at h
    · rename_i t t' ho hi
      cases h1 : Nat.beq t t' with
      | false => rw [h1] at h; cases h
      | true =>
        rw [h1] at h
        simp only [cond_true] at h
        have := Nat.eq_of_beq_eq_true h1
        subst this
        split at h
        · rename_i j hj
          cases h2 : inT T j with
          | true => rw [h2] at h; cases h
          | false =>
            rw [h2] at h
            simp only [cond_false] at h
            cases h3 : Nat.beq j x.i with
            | true => rw [h3] at h; cases h
            | false =>
              rw [h3] at h
              refine ⟨t, j, hg, ho, hi, hj, ?_, fun e1 => ?_, reachB_ok 6 j h⟩
              · unfold inT at h2
                split at h2
                · cases h2
                · rename_i hn; exact hn
              · subst e1; rw [Nat.beq_refl] at h3; cases h3
        · cases h
    · cases h
  · cases h
theorem dstsA_back : ∀ (l : List Oper) (i : Nat) (D D' : Tr Nat), dstsA l i D = some D' → ∀ t j, D'.get t = some j → D.get t = some j ∨ ∃ k o, l[k]? = some o ∧ o.dst = some t ∧ j = i + k
  | [], i, D, D', h, t, j, ht => by cases h; exact .inl ht
  | o :: l, i, D, D', h, t, j, ht => by
    have h' : (match o.dst with
      | none => dstsA l (i + 1) D
      | some d => (match D.get d with | none => dstsA l (i + 1) (D.set d i) | some _ => none)) = some D' := h
    split at h'
    · rename_i hn
      rcases dstsA_back l (i + 1) D D' h' t j ht with h1 | ⟨k, o2, h1, h2, h3⟩
      · exact .inl h1
      · exact .inr ⟨k + 1, o2, by simpa using h1, h2, by omega⟩
    · rename_i d hn
      split at h'
      · rcases dstsA_back l (i + 1) _ D' h' t j ht with h1 | ⟨k, o2, h1, h2, h3⟩
        · rw [get_set] at h1
          split at h1
          · rename_i e1
            simp at h1
            subst h1 e1
            exact .inr ⟨0, o, rfl, hn, by omega⟩
          · exact .inl h1
        · exact .inr ⟨k + 1, o2, by simpa using h1, h2, by omega⟩
      · cases h'
def Bd (ops : List Oper) (o : Oper) : Prop := ∀ t i z, Operand.tmp t ∈ o.op.operands.toList → ops[i]? = some z → z.dst = some t → Dep o i
def Apart (ops : List Oper) (l : List PS) (o : Oper) : Prop := ∀ x ∈ l, (∀ t, Operand.tmp t ∈ o.op.operands.toList → x.o.dst ≠ some t) ∧ (∀ j w q d, o.guard = some (j, w) → ops[j]? = some q → q.dst = some d → x.o.dst ≠ some d)
def OldP (ops : List Oper) (l : List PS) (p : PS) : Prop := p.o.guard = none ∧ ∃ t z, p.o.op = .move (.tmp t) ∧ p.ins = .move (.tmp t) ∧ z ∈ l ∧ z.o.dst = some t ∧ ops[z.i]? = some z.o ∧ Reach ops z.i p.i
def Rowed (ops : List Oper) : List PS → Prop
  | [] => True
  | p :: l => ((Apart ops (p :: l) p.o ∧ Bd ops p.o) ∨ OldP ops l p) ∧ (∀ d, p.o.dst = some d → ∀ x ∈ l, x.o.dst ≠ some d) ∧ (∀ x ∈ l, x.i ≠ p.i) ∧ Rowed ops l
def loF : List PS → Nat → Nat → Nat
  | [], k, _ => k
  | p :: l, k, i => if i = p.i then k else loF l (cond (loudB p.ins) (k + 1) k) i
def louds (l : List PS) : Nat := l.countP fun x => loudB x.ins
structure ItsOf (C : Ctx) (ops : List Oper) (x : PS) : Prop where
  at_ : ops[x.i]? = some x.o
  ins : x.ins = compK C x.o.op
def Closed (pl : List PS) (L : Nat → Prop) : Prop := ∀ x ∈ pl, L x.i → ∀ j, Dep x.o j → L j
def PS.it (x : PS) : It := ⟨x.i, x.o, x.ins⟩
theorem loF_ne {p : PS} {l : List PS} {k i : Nat} (h : i ≠ p.i) : loF (p :: l) k i = loF l (cond (loudB p.ins) (k + 1) k) i := by rw [loF, if_neg h]
theorem loF_eq {p : PS} {l : List PS} {k : Nat} : loF (p :: l) k p.i = k := by rw [loF, if_pos rfl]
theorem backA_cons (K : Nat) (x : It) (l : List It) : backA K (x :: l) = cond (loudB x.ins) ⟨lower (backA K l).r.pred x.o.after.toList (backA K l).U, (backA K l).r.pred, ⟨x.i, x.o, x.ins, (backA K l).r.pred⟩ :: (backA K l).l⟩
      ⟨lower (match (backA K l).U.get x.i with | some h => h | none => K) x.o.after.toList (backA K l).U, (backA K l).r, ⟨x.i, x.o, x.ins, (match (backA K l).U.get x.i with | some h => h | none => K)⟩ :: (backA K l).l⟩ := by
  have e : backA K (x :: l) = (match insCls x.ins with
      | .loud => forceN (Nat.pred (backA K l).r) fun q => ⟨lower q x.o.after.toList (backA K l).U, q, ⟨x.i, x.o, x.ins, q⟩ :: (backA K l).l⟩
      | _ => forceN (match (backA K l).U.get x.i with | some h => h | none => K) fun h => ⟨lower h x.o.after.toList (backA K l).U, (backA K l).r, ⟨x.i, x.o, x.ins, h⟩ :: (backA K l).l⟩) := rfl
  rw [e]
  unfold loudB
  cases insCls x.ins <;> simp only [forceN_eq, cond_true, cond_false]
theorem backA_it (K : Nat) : ∀ l : List It, (backA K l).l.map PS.it = l
  | [] => rfl
  | x :: l => by
    rw [backA_cons]
    cases loudB x.ins <;> simp [PS.it, backA_it K l]
theorem fwdA_cons {ops : List Oper} {D : Tr Nat} {x : It} {l : List It} {T : Tr Nat} {k : Nat} {r : Tr Nat × Nat} (h : fwdA ops D (x :: l) T k = some r) :
    itOk ops D T k x = true ∧ fwdA ops D l (T.set x.i (cond (loudB x.ins) (k + 1) k)) (cond (loudB x.ins) (k + 1) k) = some r := by
  have h' : cond (itOk ops D T k x) (match insCls x.ins with
      | .loud => forceN (Nat.succ k) fun k' => fwdA ops D l (T.set x.i k') k'
      | _ => fwdA ops D l (T.set x.i k) k) none = some r := h
  cases hb : itOk ops D T k x with
  | false => rw [hb] at h'; cases h'
  | true =>
    rw [hb] at h'
    refine ⟨rfl, ?_⟩
    unfold loudB
    cases hc : insCls x.ins <;> rw [hc] at h' <;> simp only [cond_true, forceN_eq] at h' <;> exact h'
theorem itOk_inv {ops : List Oper} {D T : Tr Nat} {k : Nat} {x : It} (h : itOk ops D T k x = true) : known T x.o.after.toList = true ∧ behind T k x.o.after.toList = true ∧ ((∀ y ∈ x.o.op.operands.toList, opdOk D x.o.after.toList y = true) ∨ oldB ops D T x = true) ∧ guardOk ops D x.o = true ∧ T.get x.i = none := by
  unfold itOk at h
  cases h1 : known T x.o.after.toList <;> rw [h1] at h <;> simp only [cond_true, cond_false] at h
  · cases h
  cases h2 : behind T k x.o.after.toList <;> rw [h2] at h <;> simp only [cond_true, cond_false] at h
  · cases h
  cases h3 : cond (freshB D x.o) true (oldB ops D T x) <;> rw [h3] at h <;> simp only [cond_true, cond_false] at h
  · cases h
  cases h4 : guardOk ops D x.o <;> rw [h4] at h <;> simp only [cond_true, cond_false] at h
  · cases h
  refine ⟨rfl, rfl, ?_, rfl, ?_⟩
  · cases h5 : freshB D x.o with
    | true => unfold freshB at h5; rw [lall_eq, List.all_eq_true] at h5; exact .inl h5
    | false => rw [h5] at h3; exact .inr h3
  · unfold inT at h
    split at h
    · cases h
    · rename_i hn; exact hn
section
variable {ops : List Oper} {D : Tr Nat} {T' : Tr Nat} {K : Nat}
theorem fwd_new : ∀ (pl : List PS) (T : Tr Nat) (k : Nat), fwdA ops D (pl.map PS.it) T k = some (T', K) → ∀ x ∈ pl, T.get x.i = none
  | [], T, k, h, x, hx => by cases hx
  | p :: pl, T, k, h, x, hx => by
    obtain ⟨h1, h2⟩ := fwdA_cons h
    rcases List.mem_cons.1 hx with rfl | hx
    · exact (itOk_inv h1).2.2.2.2
    · have := fwd_new pl _ _ h2 x hx
      rw [get_set] at this
      split at this
      · cases this
      · exact this
theorem fwd_cover : ∀ (pl : List PS) (T : Tr Nat) (k : Nat), fwdA ops D (pl.map PS.it) T k = some (T', K) → ∀ i y, T'.get i = some y → (∃ z, T.get i = some z) ∨ ∃ x ∈ pl, x.i = i
  | [], T, k, h, i, y, hy => by cases h; exact .inl ⟨y, hy⟩
  | p :: pl, T, k, h, i, y, hy => by
    obtain ⟨h1, h2⟩ := fwdA_cons h
    rcases fwd_cover pl _ _ h2 i y hy with ⟨z, hz⟩ | ⟨x, hm, hx⟩
    · rw [get_set] at hz
      split at hz
      · rename_i e1; exact .inr ⟨p, List.mem_cons_self, e1.symm⟩
      · exact .inl ⟨z, hz⟩
    · exact .inr ⟨x, List.mem_cons_of_mem _ hm, hx⟩
theorem fwd_rowed (hD : ∀ (i : Nat) (o : Oper) (d : Tmp), ops[i]? = some o → o.dst = some d → D.get d = some i) (hB : ∀ t j, D.get t = some j → ∃ z, ops[j]? = some z ∧ z.dst = some t) (hA : ∀ j z, ops[j]? = some z → ∃ y, T'.get j = some y) :
    ∀ (pl : List PS) (T : Tr Nat) (k : Nat), fwdA ops D (pl.map PS.it) T k = some (T', K) → (∀ x ∈ pl, ops[x.i]? = some x.o) → Rowed ops pl
  | [], T, k, h, hx => trivial
  | p :: pl, T, k, h, hx => by
    have hnew := fwd_new (p :: pl) T k h
    have hcov := fwd_cover (p :: pl) T k h
    obtain ⟨h1, h2⟩ := fwdA_cons h
    obtain ⟨a1, a2, a3, a4, a5⟩ := itOk_inv h1
    have hne : ∀ x ∈ pl, x.i ≠ p.i := by
      intro x hm e1
      have := fwd_new pl _ _ h2 x hm
      rw [get_set, if_pos (show x.i = p.it.i from e1)] at this
      cases this
    have key : ∀ x ∈ p :: pl, ∀ t, lookOk D p.o.after.toList t = true → x.o.dst ≠ some t := by
      intro x hm t hl hd
      have hDx := hD x.i x.o t (hx x hm) hd
      obtain ⟨y, hy⟩ := knownB a1 (lookB hl hDx)
      rw [hnew x hm] at hy
      cases hy
    refine ⟨?_, fun d hd x hm hd2 => ?_, hne, fwd_rowed hD hB hA pl _ _ h2 fun x hm => hx x (List.mem_cons_of_mem _ hm)⟩
    · rcases a3 with a3 | a3
      · refine .inl ⟨fun x hm => ⟨fun t ht => key x hm t (a3 (.tmp t) ht), fun j w q d hg hq hd => key x hm d ?_⟩, fun t i z ht hz hd => lookB (a3 (.tmp t) ht) (hD i z t hz hd)⟩
        have a4' : guardOk ops D p.o = true := a4
        unfold guardOk at a4'
        rw [hg] at a4'
        simp only [lget_eq, hq] at a4'
        obtain ⟨qd, b1, b2, b3, b4, b5⟩ := q
        simp only at hd
        subst hd
        exact a4'
      · obtain ⟨t, j, c1, c2, c3, c4, c5, c6, c7⟩ := oldB_inv a3
        obtain ⟨z, hz1, hz2⟩ := hB t j c4
        obtain ⟨y, hy⟩ := hA j z hz1
        rcases hcov j y hy with ⟨u, hu⟩ | ⟨x, hxm, hxi⟩
        · rw [c5] at hu; cases hu
        · subst hxi
          have hxo := hx x hxm
          rw [hz1] at hxo
          have hxo := Option.some.inj hxo
          rcases List.mem_cons.1 hxm with e1 | hxm
          · exact absurd (by rw [e1]; rfl) c6
          · exact .inr ⟨c1, t, x, c2, c3, hxm, by rw [← hxo]; exact hz2, by rw [← hxo]; exact hz1, c7⟩
    · have e1 := hD p.i p.o d (hx p List.mem_cons_self) hd
      have e2 := hD x.i x.o d (hx x (List.mem_cons_of_mem _ hm)) hd2
      rw [e1] at e2
      exact hne x hm (Option.some.inj e2).symm
def Reads (ops : List Oper) (o : Oper) (t : Nat) : Prop := ∃ j w q, o.guard = some (j, w) ∧ ops[j]? = some q ∧ q.dst = some t
theorem fwd_bound (hD : ∀ (i : Nat) (o : Oper) (d : Tmp), ops[i]? = some o → o.dst = some d → D.get d = some i) : ∀ (pl : List PS) (T : Tr Nat) (k : Nat), fwdA ops D (pl.map PS.it) T k = some (T', K) → ∀ x ∈ pl, ∀ t i z, Reads ops x.o t → ops[i]? = some z → z.dst = some t → Dep x.o i
  | [], T, k, h, x, hx => by cases hx
  | p :: pl, T, k, h, x, hx => by
    obtain ⟨h1, h2⟩ := fwdA_cons h
    rcases List.mem_cons.1 hx with rfl | hm
    · obtain ⟨a1, a2, a3, a4, a5⟩ := itOk_inv h1
      intro t i z hr hz hd
      have hDz := hD i z t hz hd
      obtain ⟨j, w, q, hg, hq, hqd⟩ := hr
      have a4' : guardOk ops D x.o = true := a4
      unfold guardOk at a4'
      rw [hg] at a4'
      simp only [lget_eq, hq] at a4'
      obtain ⟨qd, b1, b2, b3, b4, b5⟩ := q
      simp only at hqd
      subst hqd
      exact lookB a4' hDz
    · exact fwd_bound hD pl _ _ h2 x hm
theorem fwd_in : ∀ (pl : List PS) (T : Tr Nat) (k : Nat), fwdA ops D (pl.map PS.it) T k = some (T', K) → ∀ x ∈ pl, ∀ j, Dep x.o j → (∃ y, T.get j = some y) ∨ ∃ z ∈ pl, z.i = j
  | [], T, k, h, x, hx => by cases hx
  | p :: pl, T, k, h, x, hx => by
    obtain ⟨h1, h2⟩ := fwdA_cons h
    intro j hj
    rcases List.mem_cons.1 hx with rfl | hm
    · exact .inl (knownB (itOk_inv h1).1 hj)
    · rcases fwd_in pl _ _ h2 x hm j hj with ⟨y, hy⟩ | ⟨z, hz, e⟩
      · rw [get_set] at hy
        split at hy
        · rename_i e1; exact .inr ⟨p, List.mem_cons_self, e1.symm⟩
        · exact .inl ⟨y, hy⟩
      · exact .inr ⟨z, List.mem_cons_of_mem _ hz, e⟩
theorem fwd_total : ∀ (pl : List PS) (T : Tr Nat) (k : Nat), fwdA ops D (pl.map PS.it) T k = some (T', K) → K = k + louds pl
  | [], T, k, h => by cases h; rfl
  | p :: pl, T, k, h => by
    obtain ⟨h1, h2⟩ := fwdA_cons h
    rw [fwd_total pl _ _ h2]
    simp only [louds, List.countP_cons, PS.it]
    cases loudB p.ins <;> simp <;> omega
theorem fwd_ahead {G L : Nat → Prop} : ∀ (pl : List PS) (T : Tr Nat) (k : Nat), fwdA ops D (pl.map PS.it) T k = some (T', K) → (∀ j y, T.get j = some y → y ≠ 0 → L j → G y) → Closed pl L → (∀ x ∈ pl, loudB x.ins = true → L x.i → G (loF pl k x.i + 1)) →
    (∀ x ∈ pl, ∀ y ∈ pl, x.i = y.i → x = y) → ∀ x ∈ pl, (∀ j, Dep x.o j → L j) → loF pl k x.i ≠ 0 → G (loF pl k x.i)
  | [], T, k, h, hT, hL, hl, hu, x, hx => by cases hx
  | p :: pl, T, k, h, hT, hL, hl, hu, x, hx => by
    obtain ⟨h1, h2⟩ := fwdA_cons h
    obtain ⟨a1, a2, a3, a4, a5⟩ := itOk_inv h1
    have hne : ∀ x ∈ pl, x.i ≠ p.i := by
      intro x hm e1
      have := fwd_new pl _ _ h2 x hm
      rw [get_set, if_pos (show x.i = p.it.i from e1)] at this
      cases this
    have hp : (∀ j, Dep p.o j → L j) → k ≠ 0 → G k := by
      intro hd hk
      obtain ⟨j, hj, hT2⟩ := behindB a2 hk
      exact hT j k hT2 hk (hd j hj)
    intro hd hlo
    rcases List.mem_cons.1 hx with rfl | hm
    · rw [loF_eq] at hlo ⊢; exact hp hd hlo
    · rw [loF_ne (hne x hm)] at hlo ⊢
      refine fwd_ahead pl _ _ h2 ?_ (fun x hm => hL x (List.mem_cons_of_mem _ hm)) (fun x hm hlx hLx => ?_) (fun x hm y hm2 => hu x (List.mem_cons_of_mem _ hm) y (List.mem_cons_of_mem _ hm2)) x hm hd hlo
      · intro j y hj hy hLj
        rw [get_set] at hj
        split at hj
        · rename_i e1
          simp only [Option.some.injEq] at hj
          have e2 : j = p.i := e1
          subst e2
          have hb : cond (loudB p.ins) (k + 1) k = y := hj
          cases hlp : loudB p.ins with
          | true =>
            rw [hlp] at hb
            simp only [cond_true] at hb
            subst hb
            have := hl p List.mem_cons_self hlp hLj
            rwa [loF_eq] at this
          | false =>
            rw [hlp] at hb
            simp only [cond_false] at hb
            subst hb
            exact hp (hL p List.mem_cons_self hLj) hy
        · exact hT j y hj hy hLj
      · have := hl x (List.mem_cons_of_mem _ hm) hlx hLx
        rwa [loF_ne (hne x hm)] at this
theorem fwd_deps {L : Nat → Prop} : ∀ (pl : List PS) (T : Tr Nat) (k : Nat), fwdA ops D (pl.map PS.it) T k = some (T', K) → (∀ j y, T.get j = some y → L j) → (∀ x ∈ pl, (∀ j, Dep x.o j → L j) → L x.i) → ∀ x ∈ pl, L x.i
  | [], T, k, h, hT, hs, x, hx => by cases hx
  | p :: pl, T, k, h, hT, hs, x, hx => by
    obtain ⟨h1, h2⟩ := fwdA_cons h
    obtain ⟨a1, a2, a3, a4, a5⟩ := itOk_inv h1
    have hp : L p.i := hs p List.mem_cons_self fun j hj => let ⟨y, hy⟩ := knownB a1 hj; hT j y hy
    rcases List.mem_cons.1 hx with rfl | hm
    · exact hp
    · refine fwd_deps pl _ _ h2 (fun j y hj => ?_) (fun x hm => hs x (List.mem_cons_of_mem _ hm)) x hm
      rw [get_set] at hj
      split at hj
      · rename_i e1; rw [e1]; exact hp
      · exact hT j y hj
end
theorem lower_get {g : Nat} : ∀ (l : List Edge) (U : Tr Nat) (j h : Nat), (lower g l U).get j = some h → U.get j = some h ∨ (h = g ∧ ∃ e ∈ l, Region.binds .any e = true ∧ e.on = j)
  | [], U, j, h, hj => .inl hj
  | e :: l, U, j, h, hj => by
    have hj' : (cond (Region.binds .any e) (match U.get e.on with
      | some y => cond (Nat.blt g y) (lower g l (U.set e.on g)) (lower g l U)
      | none => lower g l (U.set e.on g)) (lower g l U)).get j = some h := hj
    have tail : (lower g l U).get j = some h → U.get j = some h ∨ (h = g ∧ ∃ e' ∈ e :: l, Region.binds .any e' = true ∧ e'.on = j) := by
      intro h2
      rcases lower_get l U j h h2 with h3 | ⟨h3, e', he, hb⟩
      · exact .inl h3
      · exact .inr ⟨h3, e', List.mem_cons_of_mem _ he, hb⟩
    cases hb : Region.binds .any e with
    | false => rw [hb] at hj'; exact tail hj'
    | true =>
      rw [hb] at hj'
      simp only [cond_true] at hj'
      have set_ : (lower g l (U.set e.on g)).get j = some h → U.get j = some h ∨ (h = g ∧ ∃ e' ∈ e :: l, Region.binds .any e' = true ∧ e'.on = j) := by
        intro h2
        rcases lower_get l _ j h h2 with h3 | ⟨h3, e', he, hb⟩
        · rw [get_set] at h3
          split at h3
          · rename_i e1; exact .inr ⟨(Option.some.inj h3).symm, e, List.mem_cons_self, hb, e1.symm⟩
          · exact .inl h3
        · exact .inr ⟨h3, e', List.mem_cons_of_mem _ he, hb⟩
      split at hj'
      · rename_i y hy
        cases hc : Nat.blt g y <;> rw [hc] at hj'
        · exact tail hj'
        · exact set_ hj'
      · exact set_ hj'
theorem back_ok {K : Nat} {G L : Nat → Prop} (hK : ¬ G K) : ∀ (its : List It) (k : Nat), K = k + louds (backA K its).l → Closed (backA K its).l L → (∀ x ∈ (backA K its).l, loudB x.ins = true → G (loF (backA K its).l k x.i) → L x.i) → (∀ x ∈ (backA K its).l, ∀ y ∈ (backA K its).l, x.i = y.i → x = y) → (backA K its).l.Pairwise (fun x y => y.i ≠ x.i) →
    (backA K its).r = k ∧ (∀ j h, (backA K its).U.get j = some h → G h → L j) ∧ ∀ x ∈ (backA K its).l, loudB x.ins = false → G x.hi → L x.i
  | [], k, hk, hL, hl, hu, hpw => ⟨hk, fun j h hj _ => (by cases hj), fun x hx => (by cases hx)⟩
  | p :: its, k, hk, hL, hl, hu, hpw => by
    rw [backA_cons] at hk hL hl hu hpw ⊢
    cases hb : loudB p.ins with
    | true =>
      rw [hb] at hk hL hl hu hpw
      simp only [cond_true] at hk hL hl hu hpw ⊢
      obtain ⟨hp1, hp2⟩ := List.pairwise_cons.1 hpw
      have hk2 : K = k + 1 + louds (backA K its).l := by
        simp only [louds, List.countP_cons, hb, if_true] at hk ⊢; omega
      have ih := back_ok hK its (k + 1) hk2 (fun x hm => hL x (List.mem_cons_of_mem _ hm)) (fun x hm hlx hG => by
        refine hl x (List.mem_cons_of_mem _ hm) hlx ?_
        rw [loF_ne (hp1 x hm), hb]; exact hG) (fun x hm y hm2 => hu x (List.mem_cons_of_mem _ hm) y (List.mem_cons_of_mem _ hm2)) hp2
      obtain ⟨i1, i2, i3⟩ := ih
      have hpr : (backA K its).r.pred = k := by rw [i1]; rfl
      refine ⟨hpr, fun j h hj hG => ?_, fun x hx hlx hG => ?_⟩
      · rcases lower_get _ _ j h hj with h3 | ⟨h3, e, he, hbe, hej⟩
        · exact i2 j h h3 hG
        · subst h3
          rw [hpr] at hG
          have hLp := hl _ List.mem_cons_self hb (by rw [loF_eq]; exact hG)
          exact hL _ List.mem_cons_self hLp j ⟨e, by simpa using he, hbe, hej⟩
      · rcases List.mem_cons.1 hx with rfl | hm
        · simp only at hlx; rw [hb] at hlx; cases hlx
        · exact i3 x hm hlx hG
    | false =>
      rw [hb] at hk hL hl hu hpw
      simp only [cond_false] at hk hL hl hu hpw ⊢
      obtain ⟨hp1, hp2⟩ := List.pairwise_cons.1 hpw
      have hk2 : K = k + louds (backA K its).l := by
        simp only [louds, List.countP_cons, hb] at hk ⊢; simpa using hk
      have ih := back_ok hK its k hk2 (fun x hm => hL x (List.mem_cons_of_mem _ hm)) (fun x hm hlx hG => by
        refine hl x (List.mem_cons_of_mem _ hm) hlx ?_
        rw [loF_ne (hp1 x hm), hb]; exact hG) (fun x hm y hm2 => hu x (List.mem_cons_of_mem _ hm) y (List.mem_cons_of_mem _ hm2)) hp2
      obtain ⟨i1, i2, i3⟩ := ih
      have hp : G (match (backA K its).U.get p.i with | some h => h | none => K) → L p.i := by
        intro hG
        split at hG
        · rename_i h hU; exact i2 _ _ hU hG
        · exact absurd hG hK
      refine ⟨i1, fun j h hj hG => ?_, fun x hx hlx hG => ?_⟩
      · rcases lower_get _ _ j h hj with h3 | ⟨h3, e, he, hbe, hej⟩
        · exact i2 j h h3 hG
        · subst h3
          exact hL _ List.mem_cons_self (hp hG) j ⟨e, by simpa using he, hbe, hej⟩
      · rcases List.mem_cons.1 hx with rfl | hm
        · exact hp hG
        · exact i3 x hm hlx hG
/-! ## The whole plan -/
theorem losOf_ops {C : Ctx} : ∀ (ops : List Oper) (i v m : Nat) (l : List (Nat × Oper)) (k : Nat), losOf C ops i v m = some (l, k) → l.map (·.2) = ops
  | [], i, v, m, l, k, h => by cases h; rfl
  | o :: ops, i, v, m, l, k, h => by
    have h' : (match insCls (compK C o.op) with
      | .loud => cond (Nat.beq (edgesMax v o.after.toList) m) (forceN (pset v i (Nat.succ m)) fun v' => match losOf C ops (Nat.succ i) v' (Nat.succ m) with | some (r, k) => some ((Nat.succ (Nat.mul 2 m), o) :: r, k) | none => none) none
      | _ => forceN (edgesMax v o.after.toList) fun x => forceN (pset v i x) fun v' => (match losOf C ops (Nat.succ i) v' m with | some (r, k) => some ((Nat.mul 2 x, o) :: r, k) | none => none)) = some (l, k) := h
    simp only [forceN_eq] at h'
    have fin : ∀ (key v' m' : Nat), (match losOf C ops (Nat.succ i) v' m' with | some (r, k) => some ((key, o) :: r, k) | none => none) = some (l, k) → l.map (·.2) = o :: ops := by
      intro key v' m' h2
      cases hr : losOf C ops (Nat.succ i) v' m' with
      | none => rw [hr] at h2; cases h2
      | some rk =>
        obtain ⟨r, k2⟩ := rk
        rw [hr] at h2
        simp only [Option.some.injEq, Prod.mk.injEq] at h2
        rw [← h2.1, List.map_cons, losOf_ops ops _ _ _ r k2 hr]
    split at h'
    · cases hc : Nat.beq (edgesMax v o.after.toList) m <;> rw [hc] at h'
      · cases h'
      · exact fin _ _ _ h'
    · exact fin _ _ _ h'
theorem itemsOf_at {C : Ctx} : ∀ (l : List (Nat × Oper)) (i : Nat) (kx : Nat × It), kx ∈ itemsOf C l i → ∃ j, l[j]?.map (·.2) = some kx.2.o ∧ kx.2.i = i + j ∧ kx.2.ins = compK C kx.2.o.op
  | [], i, kx, h => by cases h
  | ko :: l, i, kx, h => by
    have e : itemsOf C (ko :: l) i = (ko.1, ⟨i, ko.2, compK C ko.2.op⟩) :: itemsOf C l (i + 1) := rfl
    rw [e] at h
    rcases List.mem_cons.1 h with rfl | hm
    · exact ⟨0, rfl, rfl, rfl⟩
    · obtain ⟨j, h1, h2, h3⟩ := itemsOf_at l (i + 1) kx hm
      exact ⟨j + 1, by simpa using h1, by omega, h3⟩
theorem keyed_mem {k : Nat} {r : List It} : ∀ (l : List (Nat × It)) (x : It), x ∈ keyed k r l → x ∈ r ∨ ∃ kx ∈ l, kx.2 = x
  | [], x, h => .inl h
  | kp :: l, x, h => by
    have h' : x ∈ cond (Nat.beq kp.1 k) (kp.2 :: keyed k r l) (keyed k r l) := h
    have tail : x ∈ keyed k r l → x ∈ r ∨ ∃ kx ∈ kp :: l, kx.2 = x := by
      intro h2
      rcases keyed_mem l x h2 with h3 | ⟨kx, h3, h4⟩
      · exact .inl h3
      · exact .inr ⟨kx, List.mem_cons_of_mem _ h3, h4⟩
    cases hb : Nat.beq kp.1 k <;> rw [hb] at h'
    · exact tail h'
    · rcases List.mem_cons.1 h' with rfl | h2
      · exact .inr ⟨kp, List.mem_cons_self, rfl⟩
      · exact tail h2
theorem phases_mem (l : List (Nat × It)) : ∀ (n k : Nat) (x : It), x ∈ phases l n k → ∃ kx ∈ l, kx.2 = x
  | 0, k, x, h => by cases h
  | n + 1, k, x, h => by
    have h' : x ∈ keyed k (phases l n (k + 1)) l := h
    rcases keyed_mem l x h' with h2 | h2
    · exact phases_mem l n (k + 1) x h2
    · exact h2
theorem allIn_get {T : Tr Nat} : ∀ n, allIn T n = true → ∀ i, i < n → ∃ y, T.get i = some y
  | 0, _, i, h => by omega
  | n + 1, h, i, hi => by
    have h' : cond (inT T n) (allIn T n) false = true := h
    cases hb : inT T n <;> rw [hb] at h'
    · cases h'
    · by_cases h2 : i = n
      · subst h2
        unfold inT at hb
        split at hb
        · rename_i y hy; exact ⟨y, hy⟩
        · cases hb
      · exact allIn_get n h' i (by omega)
structure PlanOK (C : Ctx) (ops : List Oper) (pl : List PS) : Prop where
  of : ∀ x ∈ pl, ItsOf C ops x
  rowed : Rowed ops pl
  cover : ∀ i o, ops[i]? = some o → ∃ x ∈ pl, x.i = i ∧ x.o = o
  uniq : ∀ x ∈ pl, ∀ y ∈ pl, x.i = y.i → x = y
  inn : ∀ x ∈ pl, ∀ j, Dep x.o j → ∃ z ∈ pl, z.i = j
  bound : ∀ x ∈ pl, ∀ t i z, Reads ops x.o t → ops[i]? = some z → z.dst = some t → Dep x.o i
  dsts : ∀ x ∈ pl, ∀ z ∈ pl, ∀ d, x.o.dst = some d → z.o.dst = some d → x.i = z.i
  lo : ∀ (k : Nat) (L : Nat → Prop), Closed pl L → (∀ x ∈ pl, loudB x.ins = true → (L x.i ↔ loF pl 0 x.i < k)) → ∀ x ∈ pl, (∀ j, Dep x.o j → L j) → loF pl 0 x.i ≤ k
  hi : ∀ (k : Nat) (L : Nat → Prop), k ≤ louds pl → Closed pl L → (∀ x ∈ pl, loudB x.ins = true → (L x.i ↔ loF pl 0 x.i < k)) → ∀ x ∈ pl, loudB x.ins = false → ¬ L x.i → k ≤ x.hi
  all : ∀ L : Nat → Prop, (∀ x ∈ pl, (∀ j, Dep x.o j → L j) → L x.i) → ∀ x ∈ pl, L x.i
theorem Rowed.pairwise {ops : List Oper} : ∀ {pl : List PS}, Rowed ops pl → pl.Pairwise (fun x y => y.i ≠ x.i)
  | [], _ => .nil
  | p :: pl, ⟨_, _, h3, h4⟩ => List.pairwise_cons.2 ⟨h3, Rowed.pairwise h4⟩
theorem pw_uniq : ∀ {pl : List PS}, pl.Pairwise (fun x y => y.i ≠ x.i) → ∀ x ∈ pl, ∀ y ∈ pl, x.i = y.i → x = y
  | [], _, x, hx, _, _, _ => by cases hx
  | p :: pl, h, x, hx, y, hy, he => by
    obtain ⟨h1, h2⟩ := List.pairwise_cons.1 h
    rcases List.mem_cons.1 hx with rfl | hx2 <;> rcases List.mem_cons.1 hy with rfl | hy2
    · rfl
    · exact absurd he.symm (h1 y hy2)
    · exact absurd he (h1 x hx2)
    · exact pw_uniq h2 x hx2 y hy2 he
theorem plan_ok {C : Ctx} {ops : List Oper} {pl : List PS} (h : planOf C ops = some pl) : PlanOK C ops pl := by
  unfold planOf at h
  cases hl : losOf C ops 0 0 0 with
  | none => rw [hl] at h; cases h
  | some lm =>
    obtain ⟨l, m⟩ := lm
    rw [hl] at h
    simp only at h
    cases hD : dstsA ops 0 .leaf with
    | none => rw [hD] at h; cases h
    | some D =>
      rw [hD] at h
      simp only at h
      obtain ⟨its, hits⟩ : ∃ its, cond (Nat.beq m 0) (keyed 0 [] (itemsOf C l 0)) (phases (itemsOf C l 0) (Nat.succ (Nat.mul 2 m)) 0) = its := ⟨_, rfl⟩
      rw [hits] at h
      have hmem : ∀ x ∈ its, ∃ kx ∈ itemsOf C l 0, kx.2 = x := by
        intro x hx
        rw [← hits] at hx
        cases hb : Nat.beq m 0 <;> rw [hb] at hx <;> simp only [cond_true, cond_false] at hx
        · exact phases_mem _ _ _ x hx
        · rcases keyed_mem _ x hx with h2 | h2
          · cases h2
          · exact h2
      unfold planC at h
      cases hf : fwdA ops D its .leaf 0 with
      | none => rw [hf] at h; cases h
      | some TK =>
        obtain ⟨T, K⟩ := TK
        rw [hf] at h
        simp only at h
        cases ha : allIn T (llen ops) with
        | false => rw [ha] at h; cases h
        | true =>
          rw [ha] at h
          simp only [cond_true, Option.some.injEq] at h
          have hit : pl.map PS.it = its := by rw [← h]; exact backA_it K its
          rw [← hit] at hf
          have hof : ∀ x ∈ pl, ItsOf C ops x := by
            intro x hx
            have hx2 : x.it ∈ its := by rw [← hit]; exact List.mem_map_of_mem hx
            obtain ⟨kx, hk1, hk2⟩ := hmem _ hx2
            obtain ⟨j, h1, h2, h3⟩ := itemsOf_at l 0 kx hk1
            rw [hk2] at h1 h2 h3
            refine ⟨?_, h3⟩
            have e1 : x.i = j := by have : x.it.i = 0 + j := h2; simpa [PS.it] using this
            rw [← losOf_ops ops 0 0 0 l m hl, List.getElem?_map, e1]
            exact h1
          obtain ⟨_, hD2⟩ := dstsA_ok ops 0 _ D hD
          have hD3 : ∀ (i : Nat) (o : Oper) (d : Tmp), ops[i]? = some o → o.dst = some d → D.get d = some i := fun i o d ho hd => by have := hD2 i o d ho hd; simpa using this
          have hrow : Rowed ops pl := fwd_rowed hD3 (fun t j ht => by
            rcases dstsA_back ops 0 _ D hD t j ht with h1 | ⟨k, o, h1, h2, h3⟩
            · cases h1
            · exact ⟨o, by rw [h3, Nat.zero_add]; exact h1, h2⟩) (fun j z hz => allIn_get _ ha j (by rw [llen_eq]; exact (List.getElem?_eq_some_iff.1 hz).1)) pl _ _ hf fun x hx => (hof x hx).at_
          have hpw := hrow.pairwise
          have huniq := pw_uniq hpw
          have htot := fwd_total pl _ _ hf
          simp only [Nat.zero_add] at htot
          refine ⟨hof, hrow, fun i o ho => ?_, huniq, (fun x hx j hj => (fwd_in pl _ _ hf x hx j hj).resolve_left fun ⟨y, hy⟩ => by cases hy), fwd_bound hD3 pl _ _ hf, (fun x hx z hz d h1 h2 => by have e1 := hD3 _ _ d (hof x hx).at_ h1; have e2 := hD3 _ _ d (hof z hz).at_ h2; rw [e1] at e2; exact Option.some.inj e2), fun k L hL hl x hx hd => ?_, fun k L hk hL hl x hx hlx hn => ?_, fun L hs x hx => fwd_deps pl _ _ hf (fun j y hj => by cases hj) hs x hx⟩
          · obtain ⟨y, hy⟩ := allIn_get _ ha i (by rw [llen_eq]; exact (List.getElem?_eq_some_iff.1 ho).1)
            rcases fwd_cover pl _ _ hf i y hy with ⟨z, hz⟩ | ⟨x, hx, e1⟩
            · cases hz
            · refine ⟨x, hx, e1, ?_⟩
              have := (hof x hx).at_
              rw [e1, ho] at this
              exact (Option.some.inj this).symm
          · by_cases h0 : loF pl 0 x.i = 0
            · omega
            · exact fwd_ahead (G := fun y => y ≤ k) (L := L) pl _ _ hf (fun j y hj => by cases hj) hL (fun z hz hlz hLz => (hl z hz hlz).1 hLz) huniq x hx hd h0
          · by_cases h0 : x.hi < k
            · have hb := back_ok (K := K) (G := fun y => y < k) (L := L) (by rw [htot]; omega) its 0 (by rw [h, Nat.zero_add]; exact htot) (by rw [h]; exact hL) (by rw [h]; exact fun z hz hlz hG => (hl z hz hlz).2 hG) (by rw [h]; exact huniq) (by rw [h]; exact hpw)
              rw [h] at hb
              exact absurd (hb.2.2 x hx hlx h0) hn
            · omega
end Go.Proofs.YtmcbcoafodmbjaaGreatDoor.Ex
