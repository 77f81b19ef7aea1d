/-
  Texts joined: ExC, ExG, ExY, ExY2, ExX.
-/
import Derived.Test.YtmcbcoafodmbjaaGreatDoorJoin07
namespace Go.Proofs.YtmcbcoafodmbjaaGreatDoor.Ex
open Go Go.RowKit
set_option linter.unusedVariables false
set_option linter.unusedSimpArgs false
def exOf : Ax → Exit
  | .normal => .normal
  | .exit i => .exit i
  | .ret => .ret
def MK (e : Env) : List Nat → List Deferred → Prop
  | [], [] => True
  | D :: ms, d :: ds => (∃ x, e D = some x ∧ d = markOf x.blk) ∧ MK e ms ds
  | _, _ => False
theorem MK.mono {e e' : Env} (hle : e.le e') : ∀ {ms : List Nat} {ds : List Deferred}, MK e ms ds → MK e' ms ds
  | [], [], _ => trivial
  | D :: ms, d :: ds, ⟨⟨x, h1, h2⟩, h⟩ => ⟨⟨x, hle _ _ h1, h2⟩, MK.mono hle h⟩
  | [], _ :: _, h => h.elim
  | _ :: _, [], h => h.elim
structure At (C : Ctx) (B : Nat) (w0 : World) (n : Nat) (d0 : List Deferred) (st0 : St) (e0 : Env) (as : AS) (a : Act) (w : World) : Prop where
  at_ : ∃ e σ ds, Fol st0 e0 as.st e ∧ Rel C B w0 e as.st w ∧ SlR e as.s σ ∧ Fits n (ds ++ d0) σ a ∧ MK e as.ms ds
def CodeQ (C : Ctx) (B : Nat) (w0 : World) (n : Nat) (d0 : List Deferred) (st0 : St) (e0 : Env) (ax : Ax) (as : AS) : Exit → Act → World → Prop := fun ex a w => ex = exOf ax ∧ At C B w0 n d0 st0 e0 as a w
def DrawOK (C : Ctx) (B : Nat) (w0 : World) (callF : CallF) : Prop := ∀ (n : Nat) (ops : List Oper) (pl : List PS) (s s' : Sl) (st st' : St), planOf C ops = some pl → drawA C callF n ops pl s st 0 [] = some (s', st') →
  ∀ (ro : Option Nat) (ds : List Deferred) (id : Nat) (e : Env) (w : World) (σ : Slots) (a : Act) (Q : Exit → Act → World → Prop), Rel C B w0 e st w → SlR e s σ → Fits n ds σ a →
    (∀ e' w' σ' a', Fol st e st' e' → Rel C B w0 e' st' w' → SlR e' s' σ' → Fits n ds σ' a' → Q .normal a' w') → (Code.region id ops.toArray true).wpIn (fR ro) 0 C.P Q a w
def RangeOK (C : Ctx) (B : Nat) (w0 : World) (callF : CallF) : Prop := ∀ (fn n : Nat) (g : Operand) (ps : Array Tmp) (assign body : Code) (as as' : AS) (ax : Ax), okOpd C g = true → rangeA callF fn n ps assign body (evA as.s g) as = some (ax, as') →
  ∀ (d0 : List Deferred) (st0 : St) (e0 : Env) (a : Act) (w : World), At C B w0 n d0 st0 e0 as a w → (Code.rangeFunc g ps assign body).wpIn (fR none) 0 C.P (CodeQ C B w0 n d0 st0 e0 ax as') a w
theorem least (p : Nat → Prop) : ∀ k, p k → ∃ m, p m ∧ ∀ j, p j → m ≤ j := by
  intro k
  induction k using Nat.strongRecOn with
  | _ k ih =>
    intro hk
    by_cases h : ∃ j, j < k ∧ p j
    · obtain ⟨j, hj, hp⟩ := h; exact ih j hj hp
    · exact ⟨k, hk, fun j hj => Nat.le_of_not_lt fun h2 => h ⟨j, h2, hj⟩⟩
section
variable {C : Ctx} {B : Nat} {w0 : World}
theorem loopA_succ (k : Nat) (f : AS → CO) (as : AS) : loopA (k + 1) f as = match f as with
    | some (.normal, as') => loopA k f as'
    | r => r := rfl
theorem execC_ok {callF : CallF} (H : OpsOK C B w0 callF) (HD : DrawOK C B w0 callF) (HR : RangeOK C B w0 callF) {L fn n : Nat} {top : Bool} {ro : Option Nat} (hro : top = true → ro = none) {d0 : List Deferred} {st0 : St} {e0 : Env} :
    ∀ (c : Code) (as as' : AS) (ax : Ax) (a : Act) (w : World), execC C callF L fn n top c as = some (ax, as') → At C B w0 n d0 st0 e0 as a w → c.wpIn (fR ro) 0 C.P (CodeQ C B w0 n d0 st0 e0 ax as') a w := by
  intro c
  induction c with
  | skip => intro as as' ax a w h hA; cases h; exact wpIn_skip ⟨rfl, hA⟩
  | label l => intro as as' ax a w h hA; cases h; exact wpIn_label ⟨rfl, hA⟩
  | exit id => intro as as' ax a w h hA; cases h; exact wpIn_exit ⟨rfl, hA⟩
  | ret => intro as as' ax a w h hA; cases h; exact wpIn_ret ⟨rfl, hA⟩
  | goto l => intro as as' ax a w h hA; cases h
  | refuse y => intro as as' ax a w h hA; cases h
  | seq x y ihx ihy =>
    intro as as' ax a w h hA
    have h' : thenA (execC C callF L fn n top y) (execC C callF L fn n top x as) = some (ax, as') := h
    cases hx : execC C callF L fn n top x as with
    | none => rw [hx] at h'; cases h'
    | some r =>
      obtain ⟨ax1, as1⟩ := r
      rw [hx] at h'
      refine wpIn_seq (wpIn_mono (ihx as as1 ax1 a w hx hA) ?_)
      rintro ex a1 w1 ⟨he, hA1⟩
      subst he
      cases ax1 with
      | normal => exact ihy as1 as' ax a1 w1 h' hA1
      | exit i => simp only [thenA, Option.some.injEq, Prod.mk.injEq] at h'; obtain ⟨rfl, rfl⟩ := h'; exact ⟨rfl, hA1⟩
      | ret => simp only [thenA, Option.some.injEq, Prod.mk.injEq] at h'; obtain ⟨rfl, rfl⟩ := h'; exact ⟨rfl, hA1⟩
  | cond c x y ihx ihy =>
    intro as as' ax a w h hA
    have h' : (match evA as.s c with
      | .bool t => cond t (execC C callF L fn n top x as) (execC C callF L fn n top y as)
      | _ => none) = some (ax, as') := h
    obtain ⟨e, σ, ds, h1, h2, h3, h4, h5⟩ := hA.at_
    have hv : ∀ b, evA as.s c = .bool b → ev σ c = .bool b := by
      intro b hb
      cases c with
      | tmp t =>
        have := h3 t
        have e1 : evA as.s (.tmp t) = ogetD (as.s.get t) := rfl
        rw [e1] at hb
        rw [hb] at this
        show σ t = _
        generalize σ t = v at this
        cases this
        rfl
      | const v => exact hb
      | global g => cases hb
      | func f => cases hb
    cases hb : evA as.s c with
    | bool b =>
      rw [hb] at h'
      cases b with
      | true => exact wpIn_cond_true (by rw [h4.eval]; exact hv _ hb) (ihx as as' ax a w h' hA)
      | false => exact wpIn_cond_false (by rw [h4.eval]; exact hv _ hb) (ihy as as' ax a w h' hA)
    | _ => rw [hb] at h'; cases h'
  | block id c ih =>
    intro as as' ax a w h hA
    have h' : blockA id (execC C callF L fn n top c as) = some (ax, as') := h
    cases hx : execC C callF L fn n top c as with
    | none => rw [hx] at h'; cases h'
    | some r =>
      obtain ⟨ax1, as1⟩ := r
      rw [hx] at h'
      refine wpIn_block (wpIn_mono (ih as as1 ax1 a w hx hA) ?_)
      rintro ex a1 w1 ⟨he, hA1⟩
      subst he
      cases ax1 with
      | normal => simp only [blockA, Option.some.injEq, Prod.mk.injEq] at h'; obtain ⟨rfl, rfl⟩ := h'; exact ⟨rfl, hA1⟩
      | ret => simp only [blockA, Option.some.injEq, Prod.mk.injEq] at h'; obtain ⟨rfl, rfl⟩ := h'; exact ⟨rfl, hA1⟩
      | exit i =>
        simp only [blockA] at h'
        simp only [exOf, Exit.inBlock]
        cases hb : Nat.beq i id with
        | true =>
          rw [hb] at h'
          simp only [cond_true, Option.some.injEq, Prod.mk.injEq] at h'
          obtain ⟨rfl, rfl⟩ := h'
          rw [if_pos (Nat.eq_of_beq_eq_true hb)]
          exact ⟨rfl, hA1⟩
        | false =>
          rw [hb] at h'
          simp only [cond_false, Option.some.injEq, Prod.mk.injEq] at h'
          obtain ⟨rfl, rfl⟩ := h'
          rw [if_neg (fun e1 => by subst e1; rw [Nat.beq_refl] at hb; cases hb)]
          exact ⟨rfl, hA1⟩
  | scope c ih =>
    intro as as' ax a w h hA
    refine wpIn_scope (wpIn_mono (ih as as' ax a w h hA) ?_)
    rintro ex a1 w1 ⟨he, hA1⟩
    subst he
    exact ⟨fun l h => (by cases ax <;> cases h), rfl, hA1⟩
  | region id ops draw =>
    intro as as' ax a w h hA
    obtain ⟨ops⟩ := ops
    have h' : regionA C callF n ops draw as = some (ax, as') := h
    obtain ⟨e, σ, ds, h1, h2, h3, h4, h5⟩ := hA.at_
    cases draw with
    | true =>
      simp only [regionA, cond_true] at h'
      cases hp : planOf C ops with
      | none => rw [hp] at h'; cases h'
      | some pl =>
        rw [hp] at h'
        simp only at h'
        cases hd : drawA C callF n ops pl as.s as.st 0 [] with
        | none => rw [hd] at h'; cases h'
        | some r =>
          obtain ⟨s', st'⟩ := r
          rw [hd] at h'
          simp only [regA, Option.some.injEq, Prod.mk.injEq] at h'
          obtain ⟨rfl, rfl⟩ := h'
          exact HD n ops pl as.s s' as.st st' hp hd ro (ds ++ d0) id e w σ a _ h2 h3 h4 fun e' w' σ' a' k1 k2 k3 k4 => ⟨rfl, ⟨e', σ', ds, h1.trans k1, k2, k3, k4, h5.mono (k1.le h2)⟩⟩
    | false =>
      simp only [regionA, cond_false] at h'
      cases hd : opsA C callF n ops ops as.s as.st with
      | none => rw [hd] at h'; cases h'
      | some r =>
        obtain ⟨s', st'⟩ := r
        rw [hd] at h'
        simp only [regA, Option.some.injEq, Prod.mk.injEq] at h'
        obtain ⟨rfl, rfl⟩ := h'
        refine wpIn_region_list ?_
        exact opsA_ok H ops ops as.s as.st e w σ a hd h2 h3 h4 fun e' w' σ' a' k1 k2 k3 k4 => ⟨rfl, ⟨e', σ', ds, h1.trans k1, k2, k3, k4, h5.mono (k1.le h2)⟩⟩
  | rangeFunc g ps x y ihx ihy =>
    intro as as' ax a w h hA
    have h' : cond (top && okOpd C g) (rangeA callF fn n ps x y (evA as.s g) as) none = some (ax, as') := h
    cases ht : (top && okOpd C g) with
    | false => rw [ht] at h'; cases h'
    | true =>
      rw [ht] at h'
      simp only [Bool.and_eq_true] at ht
      rw [hro ht.1]
      exact HR fn n g ps x y as as' ax ht.2 h' d0 st0 e0 a w hA
  | loop c ih =>
    intro as as' ax a w h hA
    have h' : loopA L (execC C callF L fn n top c) as = some (ax, as') := h
    let R : Nat → Act → World → Prop := fun k a w => ∃ asx, loopA k (execC C callF L fn n top c) asx = some (ax, as') ∧ At C B w0 n d0 st0 e0 asx a w
    have hex : ∀ a w, ∃ m, ((∃ k, R k a w) → R m a w ∧ ∀ j, R j a w → m ≤ j) := by
      intro a w
      by_cases h : ∃ k, R k a w
      · obtain ⟨k, hk⟩ := h; obtain ⟨m, h1, h2⟩ := least (fun k => R k a w) k hk; exact ⟨m, fun _ => ⟨h1, h2⟩⟩
      · exact ⟨0, fun h2 => absurd h2 h⟩
    let μ : Act → World → Nat := fun a w => Classical.choose (hex a w)
    have hμ : ∀ a w k, R k a w → R (μ a w) a w ∧ μ a w ≤ k := by
      intro a w k hk
      have := Classical.choose_spec (hex a w) ⟨k, hk⟩
      exact ⟨this.1, this.2 k hk⟩
    refine wpIn_loop (fun a w => ∃ k, R k a w) μ ⟨L, as, h', hA⟩ ?_
    rintro a w ⟨k, hk⟩
    obtain ⟨⟨asx, h1, hAx⟩, _⟩ := hμ a w k hk
    cases hm : μ a w with
    | zero => rw [hm] at h1; cases h1
    | succ m =>
      rw [hm, loopA_succ] at h1
      cases hx : execC C callF L fn n top c asx with
      | none => rw [hx] at h1; cases h1
      | some r =>
        obtain ⟨ax1, as1⟩ := r
        rw [hx] at h1
        refine wpIn_mono (ih asx as1 ax1 a w hx hAx) ?_
        rintro ex a1 w1 ⟨he, hA1⟩
        subst he
        cases ax1 with
        | normal =>
          have hr : R m a1 w1 := ⟨as1, h1, hA1⟩
          exact ⟨⟨m, hr⟩, Nat.lt_succ_of_le (hμ a1 w1 m hr).2⟩
        | exit i => simp only [Option.some.injEq, Prod.mk.injEq] at h1; obtain ⟨rfl, rfl⟩ := h1; exact ⟨rfl, hA1⟩
        | ret => simp only [Option.some.injEq, Prod.mk.injEq] at h1; obtain ⟨rfl, rfl⟩ := h1; exact ⟨rfl, hA1⟩
end
end Go.Proofs.YtmcbcoafodmbjaaGreatDoor.Ex
namespace Go.Proofs.YtmcbcoafodmbjaaGreatDoor.Ex
open Go Go.RowKit
set_option linter.unusedVariables false
set_option linter.unusedSimpArgs false
section
variable {C : Ctx} {B : Nat} {w0 : World}
theorem argsA_get : ∀ (l : List Value) (k : Nat) (s : Sl) (t : Nat), (argsA l k s).get t = if k ≤ t ∧ t < k + l.length then l[t - k]? else s.get t
  | [], k, s, t => by rw [if_neg (by intro h; simp only [List.length_nil] at h; omega)]; rfl
  | v :: l, k, s, t => by
    have h : argsA (v :: l) k s = argsA l (k + 1) (s.set k v) := rfl
    rw [h, argsA_get l (k + 1) (s.set k v) t, get_set]
    simp only [List.length_cons]
    by_cases h1 : k + 1 ≤ t ∧ t < k + 1 + l.length
    · rw [if_pos h1, if_pos (by omega), show t - k = (t - (k + 1)) + 1 by omega, List.getElem?_cons_succ]
    · rw [if_neg h1]
      by_cases h2 : t = k
      · subst h2; rw [if_pos rfl, if_pos (by omega)]; simp
      · rw [if_neg h2, if_neg (by omega)]
theorem argsA_ok {e : Env} {args args' : List Value} (h : LR e args args') : SlR e (argsA args 0 .leaf) (argsE ⟨args'⟩) := by
  intro t
  rw [argsA_get]
  simp only [argsE, Array.getD_eq_getD_getElem?, List.getElem?_toArray]
  by_cases ht : t < args.length
  · rw [if_pos (by omega)]
    obtain ⟨v', hv', hr⟩ := h.get (List.getElem?_eq_getElem ht)
    rw [Nat.sub_zero, List.getElem?_eq_getElem ht]
    simp only [hv', Option.getD_some]
    exact hr
  · rw [if_neg (by omega)]
    have h2 : args'[t]? = none := by rw [List.getElem?_eq_none_iff, ← h.1]; omega
    rw [h2, get_leaf]
    exact VR.undef_
theorem resA_ok (hC : C.OK) {e : Env} {st : St} {w : World} {s : Sl} {σ : Slots} (hR : Rel C B w0 e st w) (hs : SlR e s σ) : ∀ (rs : List ResultVar) (l : List Value), resA C s st rs = some l → ∃ l', resO C.P σ w rs = some l' ∧ LR e l l'
  | [], l, h => by cases h; exact ⟨[], rfl, LR.nil⟩
  | .tmp t :: rs, l, h => by
    have h' : (match resA C s st rs with | none => none | some l => some (ogetD (s.get t) :: l)) = some l := h
    cases hr : resA C s st rs with
    | none => rw [hr] at h'; cases h'
    | some l1 =>
      rw [hr] at h'
      simp only [Option.some.injEq] at h'
      obtain ⟨l', a, b⟩ := resA_ok hC hR hs rs l1 hr
      subst h'
      exact ⟨σ t :: l', by simp [resO, a, consO], LR.cons (hs t) b⟩
  | .cell t ty :: rs, l, h => by
    have h' : (match resA C s st rs with | none => none | some l => (match ogetD (s.get t), sizeA C ty with
        | .pointer (some ⟨b, off, none⟩), some none => (match st.cell? b off with | some v => some (v :: l) | none => none)
        | .pointer (some ⟨b, off, none⟩), some (some n) => (match st.cells? b off n with | some cs => some (.agg ⟨cs⟩ :: l) | none => none)
        | _, _ => none)) = some l := h
    cases hr : resA C s st rs with
    | none => rw [hr] at h'; cases h'
    | some l1 =>
      rw [hr] at h'
      simp only at h'
      obtain ⟨l', a, b⟩ := resA_ok hC hR hs rs l1 hr
      have hv := hs t
      generalize ogetD (s.get t) = v at h' hv
      generalize hσ : σ t = v' at hv
      split at h'
      · rename_i b1 off hsz
        cases hv with
        | ptr hb =>
          cases hc : st.cell? b1 off with
          | none => rw [hc] at h'; cases h'
          | some u =>
            rw [hc] at h'
            simp only [Option.some.injEq] at h'
            subst h'
            obtain ⟨u', h1, h2⟩ := hR.cell_ hc hb
            exact ⟨u' :: l', by simp [resO, a, consO, hσ, size_ok hC hsz, valO, h1], LR.cons h2 b⟩
      · rename_i b1 off n hsz
        cases hv with
        | ptr hb =>
          cases hc : st.cells? b1 off n with
          | none => rw [hc] at h'; cases h'
          | some u =>
            rw [hc] at h'
            simp only [Option.some.injEq] at h'
            subst h'
            obtain ⟨u', h1, h2, _⟩ := hR.cells_ hc hb
            exact ⟨.agg ⟨u'⟩ :: l', by simp [resO, a, consO, hσ, size_ok hC hsz, valO, h1], LR.cons (VR.agg_ h2) b⟩
      · cases h'
theorem tupA_ok {e : Env} {l l' : List Value} (h : LR e l l') : VR e (tupA l) (tupleOf l') := by
  match l, l', h with
  | [], l', h => rw [h.unnil]; exact VR.tuple_ LR.nil
  | [v], l', h =>
    obtain ⟨v', r, rfl, hv, hr⟩ := h.uncons
    rw [hr.unnil]; exact hv
  | v :: u :: l, l', h =>
    obtain ⟨v', r, rfl, hv, hr⟩ := h.uncons
    obtain ⟨u', r', rfl, hu, hr'⟩ := hr.uncons
    exact VR.tuple_ h
theorem MK.form {e : Env} : ∀ {ms : List Nat} {ds : List Deferred}, MK e ms ds → ∃ bs : List Nat, ds = bs.map markOf ∧ bs.length = ms.length ∧ ∀ (i : Nat) (D b : Nat), ms[i]? = some D → bs[i]? = some b → ∃ x, e D = some x ∧ b = x.blk
  | [], [], _ => ⟨[], rfl, rfl, fun i D b h => by simp at h⟩
  | D :: ms, d :: ds, ⟨⟨x, h1, h2⟩, h⟩ => by
    obtain ⟨bs, a, b, c⟩ := MK.form h
    refine ⟨x.blk :: bs, by simp [h2, a], by simp [b], fun i D' b' hi hi' => ?_⟩
    cases i with
    | zero => simp at hi hi'; subst hi hi'; exact ⟨x, h1, rfl⟩
    | succ i => simp at hi hi'; exact c i D' b' hi hi'
  | [], _ :: _, h => h.elim
  | _ :: _, [], h => h.elim
theorem takeA_ok {e : Env} {R : Kont} {rs : Array ResultVar} {σ : Slots} {stE : St} (hend : ∀ w', Rel C B w0 e stE w' → @endE ⟨R⟩ (resO C.P σ w' rs.toList) w') : ∀ (ms bs : List Nat) (st : St) (w : World), takeA ms st = some stE → Rel C B w0 e st w →
    bs.length = ms.length → (∀ (i : Nat) (D b : Nat), ms[i]? = some D → bs[i]? = some b → ∃ x, e D = some x ∧ b = x.blk) → @leaveE rs C.P σ ⟨R⟩ bs w
  | [], bs, st, w, h, hR, hl, hb => by
    cases h
    rw [List.eq_nil_of_length_eq_zero hl]
    exact hend w hR
  | D :: ms, bs, st, w, h, hR, hl, hb => by
    cases bs with
    | nil => cases hl
    | cons b bs =>
      have h' : (match st.heap.get D with
        | some (.obj (.deferred (some []))) => takeA ms (st.put D (.obj (.deferred none)))
        | _ => none) = some stE := h
      obtain ⟨x, he, rfl⟩ := hb 0 D b rfl rfl
      split at h'
      · rename_i hg
        obtain ⟨o', ho, hor⟩ := hR.obj_ hg he
        cases hor with
        | mark =>
          refine ⟨ho, ?_⟩
          have hR' := hR.putObj_ hg he OR.taken
          exact takeA_ok hend ms bs _ _ h' hR' (by simpa using hl) (fun i D' b' hi hi' => hb (i + 1) D' b' (by simpa using hi) (by simpa using hi'))
      · cases h'
theorem takeA_dom : ∀ (ms : List Nat) (st stE : St) (e : Env), takeA ms st = some stE → Fol st e stE e
  | [], st, stE, e, h => by cases h; exact Fol.refl _ _
  | D :: ms, st, stE, e, h => by
    have h' : (match st.heap.get D with
      | some (.obj (.deferred (some []))) => takeA ms (st.put D (.obj (.deferred none)))
      | _ => none) = some stE := h
    split at h'
    · exact (Fol.put_ st e D _).trans (takeA_dom ms _ _ e h')
    · cases h'
theorem endA_inv {rs : List ResultVar} {r : CO} {v : Value} {st' : St} (h : endA C rs r = some (v, st')) : ∃ ax as l, r = some (ax, as) ∧ (ax = .normal ∨ ax = .ret) ∧ takeA as.ms as.st = some st' ∧ resA C as.s st' rs = some l ∧ v = tupA l := by
  unfold endA at h
  have key : ∀ as : AS, (match takeA as.ms as.st with
    | some st' => (match resA C as.s st' rs with
      | some l => some (tupA l, st')
      | none => none)
    | none => none) = some (v, st') → ∃ l, takeA as.ms as.st = some st' ∧ resA C as.s st' rs = some l ∧ v = tupA l := by
    intro as h
    cases ht : takeA as.ms as.st with
    | none => rw [ht] at h; cases h
    | some s1 =>
      rw [ht] at h
      simp only at h
      cases hr : resA C as.s s1 rs with
      | none => rw [hr] at h; cases h
      | some l =>
        rw [hr] at h
        simp only [Option.some.injEq, Prod.mk.injEq] at h
        obtain ⟨rfl, rfl⟩ := h
        exact ⟨l, rfl, hr, rfl⟩
  split at h
  · rename_i as
    obtain ⟨l, a, b, c⟩ := key as h
    exact ⟨.normal, as, l, rfl, .inl rfl, a, b, c⟩
  · rename_i as
    obtain ⟨l, a, b, c⟩ := key as h
    exact ⟨.ret, as, l, rfl, .inr rfl, a, b, c⟩
  · cases h
theorem fn_ok (hC : C.OK) {callF : CallF} (H : OpsOK C B w0 callF) (HD : DrawOK C B w0 callF) (HR : RangeOK C B w0 callF) {L f : Nat} {fn : Func} {c : Code} {args args' : List Value} {st st' : St} {v : Value} {e : Env} {w : World}
    (hf : C.P.funcs[f]? = some fn) (hb : fn.body = some c) (hle : args.length ≤ fn.ntmps) (h : endA C fn.results.toList (execC C callF L f fn.ntmps true c ⟨argsA args 0 .leaf, st, []⟩) = some (v, st')) (hR : Rel C B w0 e st w) (ha : LR e args args') :
    callE C.P f ⟨args'⟩ w (PostA C B w0 st e st' v) := by
  obtain ⟨ax, as, l, hx, hax, ht, hr, rfl⟩ := endA_inv h
  suffices h0 : CallsIn Fence.wide 0 C.P f ⟨args'⟩ w (fun e' w' => ∃ v', e' = .returned v' ∧ PostA C B w0 st e st' (tupA l) v' w') from callsIn_wide.1 h0
  refine callsIn_of_wp_marks hf hb trivial ?_
  have hsz : (⟨args'⟩ : Array Value).size ≤ fn.ntmps := by simp; rw [← ha.1]; exact hle
  have hfit : Fits fn.ntmps [] (argsE ⟨args'⟩) { tmps := (⟨args'⟩ : Array Value) ++ Array.replicate (fn.ntmps - (⟨args'⟩ : Array Value).size) undef, defers := [] } := by
    refine ⟨by simp; simp at hsz; omega, rfl, fun t => ?_⟩
    simp only [argsE, Array.getD_eq_getD_getElem?]
    by_cases ht : t < (⟨args'⟩ : Array Value).size
    · rw [Array.getElem?_append_left ht]
    · rw [Array.getElem?_append_right (by omega), Array.getElem?_replicate, Array.getElem?_eq_none (show (⟨args'⟩ : Array Value).size ≤ t by omega)]
      split <;> rfl
  have hA : At C B w0 fn.ntmps [] st e ⟨argsA args 0 .leaf, st, []⟩ { tmps := (⟨args'⟩ : Array Value) ++ Array.replicate (fn.ntmps - (⟨args'⟩ : Array Value).size) undef, defers := [] } w :=
    ⟨e, argsE ⟨args'⟩, [], Fol.refl _ _, hR, argsA_ok ha, hfit, trivial⟩
  have h1 := execC_ok H HD HR (ro := none) (fun _ => rfl) c _ as ax _ w hx hA
  refine wpIn_mono h1 ?_
  rintro ex a' w' ⟨he, hA'⟩
  obtain ⟨e', σ', ds, k1, k2, k3, k4, k5⟩ := hA'.at_
  rw [List.append_nil] at k4
  obtain ⟨bs, b1, b2, b3⟩ := k5.form
  have hl : @leaveE fn.results C.P σ' ⟨PostA C B w0 st e st' (tupA l)⟩ bs w' := by
    refine takeA_ok (stE := st') (e := e') ?_ as.ms bs as.st w' ht k2 b2 b3
    intro w2 hR2
    obtain ⟨l', r1, r2⟩ := resA_ok hC hR2 k3 fn.results.toList l hr
    rw [r1]
    exact ⟨e', k1.trans (takeA_dom _ _ _ e' ht), hR2, tupA_ok r2⟩
  have hlv := leaveE_sound (fn := fn) rfl k4.at_ bs w' hl
  rw [b1] at k4
  rcases hax with rfl | rfl <;> subst he
  · show LeavesInM Fence.wide 0 C.P fn a'.tmps _ a'.defers .returning w'
    rw [k4.defers]; exact hlv
  · show LeavesInM Fence.wide 0 C.P fn a'.tmps _ a'.defers .returning w'
    rw [k4.defers]; exact hlv
end
end Go.Proofs.YtmcbcoafodmbjaaGreatDoor.Ex
namespace Go.Proofs.YtmcbcoafodmbjaaGreatDoor.Ex
open Go Go.RowKit
set_option linter.unusedVariables false
set_option linter.unusedSimpArgs false
section
variable {C : Ctx} {B : Nat} {w0 : World}
def EntOK (C : Ctx) (callF : CallF) : Prop := ∀ (f : FuncId) (args : List Value) (st st' : St) (v : Value), callF (.fn f) args st = some (v, st') → ∀ (args' : Array Value) (w : World), (callFunc f args').run C.P w = .ok (.enter f args') w
theorem slotsList_ok {e : Env} {n : Nat} {s : Sl} {σ : Slots} {ds : List Deferred} {a : Act} (hs : SlR e s σ) (hf : Fits n ds σ a) : LR e (slotsList n s) a.tmps.toList := by
  have hn : a.tmps.toList.length = n := by simpa using hf.size
  refine ⟨by simp [slotsList, hn], fun i v v' hv hv' => ?_⟩
  simp only [slotsList, List.getElem?_map, Option.map_eq_some_iff] at hv
  obtain ⟨t, ht, rfl⟩ := hv
  have h1 : t = i := by
    rw [List.getElem?_range] at ht
    · simpa using ht.symm
    · have := (List.getElem?_eq_some_iff.1 ht).1; simpa using this
  subst h1
  have h2 := hs t
  rw [← hf.at_ t] at h2
  have h3 : a.tmps.getD t undef = v' := by
    rw [Array.getD_eq_getD_getElem?, ← Array.getElem?_toList, hv']; rfl
  rw [h3] at h2
  exact h2
theorem loop?_ok {st : St} {l : Nat} {r : Loop} (h : st.loop? l = some r) : st.heap.get l = some (.obj (.loop r)) := by
  unfold St.loop? at h
  split at h
  · rename_i r2 hg; simp at h; subst h; exact hg
  · cases h
theorem jumpA_some {c : Code} {x : Ax} (h : jumpA c = some x) : (∃ i, c = .exit i ∧ x = .exit i) ∨ (c = .ret ∧ x = .ret) := by
  cases c <;> simp only [jumpA] at h <;> first | (cases h; done) | skip
  · exact .inl ⟨_, rfl, (Option.some.inj h).symm⟩
  · exact .inr ⟨rfl, (Option.some.inj h).symm⟩
theorem range_ok (hC : C.OK) {callF : CallF} (hcall : CallOK C B w0 callF) (hent : EntOK C callF) : RangeOK C B w0 callF := by
  intro fn n g ps assign body as as' ax hg h d0 st0 e0 a w hA
  obtain ⟨e, σ, ds, k1, k2, k3, k4, k5⟩ := hA.at_
  unfold rangeA at h
  simp only at h
  have hgv := ev_ok k2.glob k3 g hg
  split at h
  · rename_i f cap hv
    rw [hv] at hgv
    generalize hge : ev σ g = gv at hgv
    cases hgv with
    | func _ ha1 ha2 hb1 hb2 =>
      rename_i a' b'
      have ea : a' = [] := (show LR e [] a' from ⟨ha1, ha2⟩).unnil
      subst ea
      have hcap : LR e cap b' := ⟨hb1, hb2⟩
      cases hc : callF (.fn f) (.func (.yield (as.st.new (.obj (.deferred (some [])))).next) #[] #[] :: cap) ((as.st.new (.obj (.deferred (some [])))).new (.obj (.loop { state := .ready, pending := none, fn := fn, tmps := (slotsList n as.s).toArray, params := ps, assign := assign, body := body, defers := as.st.next }))) with
      | none => rw [hc] at h; cases h
      | some r3 =>
        obtain ⟨v3, st3⟩ := r3
        rw [hc] at h
        simp only at h
        refine wpIn_rangeFunc ?_
        intro fn' _
        rw [show (fR none).round = none from rfl]
        obtain ⟨rec, hrec⟩ : ∃ rec : Loop, rec = { state := .ready, pending := none, fn := fn', tmps := a.tmps, params := ps, assign, body, defers := w.heap.size } := ⟨_, rfl⟩
        -- the two new blocks
        have hR1 := k2.new_ (.obj (.deferred (some []))) (.deferred (some [])) 0 0 (.obj rfl .mark)
        have hle1 : e.le (e.upd as.st.next ⟨w.heap.size, 0, 0⟩) := upd_le k2.next_none
        have hz1 : (w.alloc (.deferred (some []))).heap.size = w.heap.size + 1 := by simp
        have hR2 := hR1.new_ (.obj (.loop { state := .ready, pending := none, fn := fn, tmps := (slotsList n as.s).toArray, params := ps, assign := assign, body := body, defers := as.st.next })) (.loop rec) 0 0 (by
          refine .obj rfl ?_
          rw [hrec]
          have hl := ((slotsList_ok k3 k4).mono hle1).mono (upd_le (x := ⟨(w.alloc (.deferred (some []))).heap.size, 0, 0⟩) hR1.next_none)
          have hD : ((e.upd as.st.next ⟨w.heap.size, 0, 0⟩).upd (as.st.new (.obj (.deferred (some [])))).next ⟨(w.alloc (.deferred (some []))).heap.size, 0, 0⟩) as.st.next = some ⟨w.heap.size, 0, 0⟩ := upd_le hR1.next_none _ _ (upd_self _ _ _)
          exact OR.loop hD _ _ _ _ hl _ _ _)
        rw [hz1] at hR2
        have hle2 := upd_le (x := ⟨w.heap.size + 1, 0, 0⟩) hR1.next_none
        obtain ⟨W1, hW1⟩ : ∃ W1, (w.alloc (.deferred (some []))).alloc (.loop rec) = W1 := ⟨_, rfl⟩
        rw [hW1] at hR2
        have hL := upd_self (e.upd as.st.next ⟨w.heap.size, 0, 0⟩) (as.st.new (.obj (.deferred (some [])))).next ⟨w.heap.size + 1, 0, 0⟩
        have hargs : LR _ (.func (.yield (as.st.new (.obj (.deferred (some [])))).next) #[] #[] :: cap) (.func (.yield (w.heap.size + 1)) #[] #[] :: b') :=
          LR.cons (VR.yield hL) ((hcap.mono hle1).mono hle2)
        have hcall1 := hcall (.fn f) _ _ v3 st3 hc _ W1 _ hR2 hargs
        have hent1 := hent f _ _ st3 v3 hc ⟨.func (.yield (w.heap.size + 1)) #[] #[] :: b'⟩ W1
        refine ⟨w.heap.size + 1, [markOf w.heap.size], W1, { target := .fn (.func f) ⟨b'⟩, args := #[.func (.yield (w.heap.size + 1)) #[] #[]] }, W1, f,
          ⟨.func (.yield (w.heap.size + 1)) #[] #[] :: b'⟩, W1, ?_, ?_, fun f' _ => trivial, ?_, fun h => (by cases h), ?_⟩
        · rw [← hW1, hrec]; exact run_enterLoop_outer _ _ _ _ _
        · have hg' : a.eval g = .func (.func f) ⟨[]⟩ ⟨b'⟩ := by rw [k4.eval]; exact hge
          have hk : ∀ v, a.eval (.const v) = v := fun _ => rfl
          simp only [resolve, rangeCall, hg', Deferred.ofValue]
          simp [hk]
        · simp only [invoke]
          have e1 : (#[.func (.yield (w.heap.size + 1)) #[] #[]] : Array Value) ++ (⟨b'⟩ : Array Value) = ⟨.func (.yield (w.heap.size + 1)) #[] #[] :: b'⟩ := by apply Array.ext'; simp
          rw [e1]; exact hent1
        · have h2 : CallsIn (fR none) (0 - 1) C.P f ⟨.func (.yield (w.heap.size + 1)) #[] #[] :: b'⟩ W1 _ := callsIn_wide.2 hcall1
          refine CallsIn.mono h2 ?_
          rintro en W2 ⟨v', rfl, e3, f3, hR3, _⟩
          have hx3 : e3 (as.st.new (.obj (.deferred (some [])))).next = some ⟨w.heap.size + 1, 0, 0⟩ := by
            rw [f3.keep _ (.obj (.loop { state := .ready, pending := none, fn := fn, tmps := (slotsList n as.s).toArray, params := ps, assign := assign, body := body, defers := as.st.next })) (by simp [St.new, get_set])]
            exact hL
          have hle3 := f3.le hR2
          have hfol : Fol st0 e0 st3 e3 := (k1.trans (Fol.new_ k2 _ _)).trans ((Fol.new_ hR1 _ _).trans f3)
          split at h
          · rename_i r hr
            obtain ⟨o', ho, hor⟩ := hR3.obj_ (loop?_ok hr) hx3
            obtain ⟨rs, rp, rf, rt, rps, ras, rb, rD⟩ := r
            cases hor with
            | loop hD _ _ _ fn3 ht _ _ _ =>
              rename_i xD t t'
              have fin : ∀ (x : Ax) (c : Option Code), (c = none ∧ x = .normal ∨ ∃ c', c = some c' ∧ jumpA c' = some x) → rp = c → rs ≠ .busy →
                  as' = ⟨as.s, st3.put (as.st.new (.obj (.deferred (some [])))).next (.obj (.loop ⟨.exhausted, rp, rf, ⟨t⟩, rps, ras, rb, rD⟩)), as.st.next :: as.ms⟩ → ax = x →
                  ∃ pe W3, (Instr.endLoop (w.heap.size + 1)).run C.P W2 = .ok pe W3 ∧ (match pe with
                    | none => CodeQ C B w0 n d0 st0 e0 ax as' .normal { a with defers := [markOf w.heap.size] ++ a.defers } W3
                    | some c => c.wpIn (fR none) 0 C.P (CodeQ C B w0 n d0 st0 e0 ax as') { a with defers := [markOf w.heap.size] ++ a.defers } W3) := by
                intro x c hcx hpc hbusy has hax
                subst has; subst hax
                have hend := run_endLoop (P := C.P) ho (by exact hbusy)
                have hR4 := hR3.putObj_ (loop?_ok hr) hx3 (OR.loop hD .exhausted rp rf fn3 ht rps ras rb)
                have hA4 : At C B w0 n d0 st0 e0 ⟨as.s, st3.put (as.st.new (.obj (.deferred (some [])))).next (.obj (.loop ⟨.exhausted, rp, rf, ⟨t⟩, rps, ras, rb, rD⟩)), as.st.next :: as.ms⟩ { a with defers := [markOf w.heap.size] ++ a.defers } (W2.putObj (w.heap.size + 1) (.loop ⟨.exhausted, rp, fn3, ⟨t'⟩, rps, ras, rb, xD.blk⟩)) := by
                  refine ⟨e3, σ, markOf w.heap.size :: ds, hfol.trans (Fol.put_ _ _ _ _), hR4, ((k3.mono hle1).mono hle2).mono hle3, ⟨k4.size, by simp [k4.defers], k4.at_⟩, ⟨⟨⟨w.heap.size, 0, 0⟩, ?_, rfl⟩, ((k5.mono hle1).mono hle2).mono hle3⟩⟩
                  exact hle3 _ _ (hle2 _ _ (upd_self _ _ _))
                refine ⟨rp, _, hend, ?_⟩
                rcases hcx with ⟨h1, rfl⟩ | ⟨c', h1, h2⟩
                · subst h1; subst hpc
                  exact ⟨rfl, hA4⟩
                · subst h1; subst hpc
                  rcases jumpA_some h2 with ⟨i, rfl, rfl⟩ | ⟨rfl, rfl⟩
                  · exact wpIn_exit ⟨rfl, hA4⟩
                  · exact wpIn_ret ⟨rfl, hA4⟩
              simp only at h
              split at h
              · cases h
              · rename_i hbusy
                have hb : rs ≠ .busy := fun e1 => hbusy (by rw [e1])
                cases rp with
                | none =>
                  simp only [Option.some.injEq, Prod.mk.injEq] at h
                  exact fin .normal none (.inl ⟨rfl, rfl⟩) rfl hb h.2.symm h.1.symm
                | some c =>
                  simp only at h
                  cases hx : jumpA c with
                  | none => rw [hx] at h; cases h
                  | some x =>
                    rw [hx] at h
                    simp only [Option.some.injEq, Prod.mk.injEq] at h
                    exact fin x (some c) (.inr ⟨c, rfl, hx⟩) rfl hb h.2.symm h.1.symm
          · cases h
  · cases h
end
end Go.Proofs.YtmcbcoafodmbjaaGreatDoor.Ex
namespace Go.Proofs.YtmcbcoafodmbjaaGreatDoor.Ex
open Go Go.RowKit
set_option linter.unusedVariables false
set_option linter.unusedSimpArgs false
section
variable {C : Ctx} {B : Nat} {w0 : World}
theorem paramsA_ok {e : Env} {n : Nat} : ∀ (ps : List Tmp) (args args' : List Value) (s : Sl) (σ : Slots), (∀ t ∈ ps, t < n) → LR e args args' → SlR e s σ → SlR e (paramsA (ps.zip args) s) (putPs n σ (ps.zip args'))
  | [], args, args', s, σ, _, _, hs => hs
  | t :: ps, [], args', s, σ, _, ha, hs => by rw [ha.unnil]; exact hs
  | t :: ps, v :: args, args', s, σ, hp, ha, hs => by
    obtain ⟨v', r', rfl, hv, hr⟩ := ha.uncons
    have h1 : SlR e (s.set t v) (put n σ (some t) v') := by
      intro u
      rw [get_set]
      by_cases hu : u = t
      · subst hu; rw [if_pos rfl, put_same _ _ _ _ (hp u List.mem_cons_self)]; exact hv
      · rw [if_neg hu, put_other _ _ _ _ _ hu]; exact hs u
    exact paramsA_ok ps args r' _ _ (fun t ht => hp t (List.mem_cons_of_mem _ ht)) hr h1
theorem zip_list (a : Array Tmp) (l : List Value) : (a.zip (⟨l⟩ : Array Value)).toList = a.toList.zip l := by simp
theorem beginA_some {st st1 : St} {l : Nat} (h : beginA st l = some st1) : ∃ r, st.heap.get l = some (.obj (.loop r)) ∧ r.state = .ready ∧ st1 = st.put l (.obj (.loop { r with state := .busy })) := by
  unfold beginA at h
  split at h
  · rename_i r hr
    split at h
    · rename_i hs
      simp only [Option.some.injEq] at h
      exact ⟨r, loop?_ok hr, hs, h.symm⟩
    · cases h
  · cases h
theorem endRA_some {st st1 : St} {l : Nat} {x : Ax} {v : Value} (h : endRA st l x = some (v, st1)) : ∃ r, st.heap.get l = some (.obj (.loop r)) ∧ v = .bool (codeOf x).isNone ∧ st1 = st.put l (.obj (.loop { r with state := if (codeOf x).isNone then .ready else .done, pending := codeOf x })) := by
  unfold endRA at h
  split at h
  · rename_i r hr
    refine ⟨r, loop?_ok hr, ?_⟩
    split at h
    · rename_i hc
      simp only [Option.some.injEq, Prod.mk.injEq] at h
      rw [hc]
      exact ⟨h.1.symm, by rw [← h.2]; rfl⟩
    · rename_i c hc
      simp only [Option.some.injEq, Prod.mk.injEq] at h
      rw [hc]
      exact ⟨h.1.symm, by rw [← h.2]; rfl⟩
  · cases h
theorem yield_ok (hC : C.OK) {callF : CallF} (H : OpsOK C B w0 callF) (HD : DrawOK C B w0 callF) (HR : RangeOK C B w0 callF) {L l : Nat} {r : Loop} {args args' : List Value} {st st' : St} {v : Value} {e : Env} {w : World} {x : Bind}
    (h : roundA C callF L l r args st = some (v, st')) (hl : st.loop? l = some r) (hR : Rel C B w0 e st w) (ha : LR e args args') (hx : e l = some x) :
    resE C.P ((Instr.yield x.blk ⟨args'⟩).run C.P w) (PostA C B w0 st e st' v) := by
  obtain ⟨o', ho, hor⟩ := hR.obj_ (loop?_ok hl) hx
  obtain ⟨rs, rp, rf, ⟨rt⟩, ⟨rps⟩, ras, rb, rD⟩ := r
  generalize hro : (Obj.loop ⟨rs, rp, rf, ⟨rt⟩, ⟨rps⟩, ras, rb, rD⟩) = ob at hor
  cases hor with
  | loop hD s2 p2 fn2 fn3 ht ps2 a2 b2 =>
    rename_i D2 xD t t'
    injection hro with hro
    injection hro with e1 e2 e3 e4 e5 e6 e7 e8
    injection e4 with e4
    subst e1 e2 e3 e4 e5 e6 e7 e8
    unfold roundA at h
    simp only [llen_eq] at h
    cases hb : (Nat.beq args.length rps.length && lall (fun t => Nat.blt t rt.length) rps) with
    | false => rw [hb] at h; cases h
    | true =>
      rw [hb] at h
      simp only [cond_true] at h
      simp only [Bool.and_eq_true, lall_eq, List.all_eq_true] at hb
      have hlen := Nat.eq_of_beq_eq_true hb.1
      have hps : ∀ t ∈ rps, t < rt.length := fun t ht => Nat.le_of_ble_eq_true (hb.2 t ht)
      have hy := run_yield (P := C.P) (args := (⟨args'⟩ : Array Value)) ho (by simp; rw [← ha.1]; exact hlen)
      rw [hy]
      cases hx1 : execC C callF L rf rt.length false ras ⟨paramsA (rps.zip args) (argsA rt 0 .leaf), st, []⟩ with
      | none => rw [hx1] at h; cases h
      | some r1 =>
        obtain ⟨ax1, as1⟩ := r1
        rw [hx1] at h
        cases ax1 with
        | exit i => cases h
        | ret => cases h
        | normal =>
          simp only at h
          cases hbg : beginA as1.st l with
          | none => rw [hbg] at h; cases h
          | some st1 =>
            rw [hbg] at h
            simp only at h
            cases hx2 : execC C callF L rf rt.length false rb ⟨as1.s, st1, as1.ms⟩ with
            | none => rw [hx2] at h; cases h
            | some r2 =>
              obtain ⟨ax2, as2⟩ := r2
              rw [hx2] at h
              simp only at h
              show RoundIn Fence.wide 0 C.P x.blk fn3 _ ras rb w _
              have hnt : (⟨t'⟩ : Array Value).size = rt.length := by simp; exact ht.1.symm
              have hfit := fits_ps (n := rt.length) (rps.zip args') (argsE ⟨t'⟩) ⟨t'⟩ hnt (fun t => rfl)
              have hsl : SlR e (paramsA (rps.zip args) (argsA rt 0 .leaf)) (putPs rt.length (argsE ⟨t'⟩) (rps.zip args')) := paramsA_ok rps args args' _ _ hps ha (argsA_ok ht)
              have hA : At C B w0 rt.length [] st e ⟨paramsA (rps.zip args) (argsA rt 0 .leaf), st, []⟩ { tmps := (rps.zip args').foldl (fun t (p, v) => t.setIfInBounds p v) (⟨t'⟩ : Array Value), defers := [] } w :=
                ⟨e, _, [], Fol.refl _ _, hR, hsl, hfit, trivial⟩
              refine roundIn_of_wpIn (F := Fence.wide) trivial ?_
              have hW := execC_ok H HD HR (ro := some x.blk) (top := false) (fun h => by cases h) ras _ as1 .normal _ w hx1 hA
              rw [← zip_list ⟨rps⟩ args', Array.foldl_toList] at hW
              refine wpIn_mono hW ?_
              rintro ex a1 w1 ⟨hex, hA1⟩
              subst hex
              obtain ⟨e1, σ1, ds1, k1, k2, k3, k4, k5⟩ := hA1.at_
              obtain ⟨rr, g1, g2, rfl⟩ := beginA_some hbg
              have hx1' : e1 l = some x := by rw [k1.keep _ _ (loop?_ok hl)]; exact hx
              obtain ⟨o1, ho1, hor1⟩ := k2.obj_ g1 hx1'
              obtain ⟨ss, sp, sf, st_, sps, sas, sb, sD⟩ := rr
              simp only at g2
              subst g2
              cases hor1 with
              | loop hD1 _ _ _ fn5 ht1 _ _ _ =>
                refine ⟨_, run_beginRound ho1 rfl, ?_⟩
                have hR1 := k2.putObj_ g1 hx1' (OR.loop hD1 .busy sp sf fn5 ht1 sps sas sb)
                have hA2 : At C B w0 rt.length [] st e ⟨as1.s, as1.st.put l (.obj (.loop ⟨.busy, sp, sf, _, sps, sas, sb, sD⟩)), as1.ms⟩ a1 _ :=
                  ⟨e1, σ1, ds1, k1.trans (Fol.put_ _ _ _ _), hR1, k3, k4, k5⟩
                have hW2 := execC_ok H HD HR (ro := some x.blk) (top := false) (fun h => by cases h) rb _ as2 ax2 _ _ hx2 hA2
                refine wpIn_mono hW2 ?_
                rintro ex a3 w3 ⟨hex, hA3⟩
                subst hex
                obtain ⟨e3, σ3, ds3, j1, j2, j3, j4, j5⟩ := hA3.at_
                obtain ⟨r3, g3, rfl, rfl⟩ := endRA_some h
                have hx3 : e3 l = some x := by rw [j1.keep _ _ (loop?_ok hl)]; exact hx
                obtain ⟨o3, ho3, hor3⟩ := j2.obj_ g3 hx3
                obtain ⟨qs, qp, qf, qt, qps, qas, qb, qD⟩ := r3
                cases hor3 with
                | loop hD3 _ _ _ fn7 ht3 _ _ _ =>
                  have hend := fun jump => run_endRound (P := C.P) jump ho3
                  have hfin : PostA C B w0 st e (as2.st.put l (.obj (.loop ⟨if (codeOf ax2).isNone then .ready else .done, codeOf ax2, qf, _, qps, qas, qb, qD⟩))) (.bool (codeOf ax2).isNone) (.bool (codeOf ax2).isNone) (w3.putObj x.blk _) :=
                    ⟨e3, j1.trans (Fol.put_ _ _ _ _), j2.putObj_ g3 hx3 (OR.loop hD3 (if (codeOf ax2).isNone then .ready else .done) (codeOf ax2) qf fn7 ht3 qps qas qb), .bool _⟩
                  cases ax2 with
                  | normal => exact ⟨_, _, hend none, _, rfl, hfin⟩
                  | ret => exact ⟨_, _, hend (some .ret), _, rfl, hfin⟩
                  | exit i => exact ⟨_, _, hend (some (.exit i)), _, rfl, hfin⟩
  | _ => cases hro
end
end Go.Proofs.YtmcbcoafodmbjaaGreatDoor.Ex
namespace Go.Proofs.YtmcbcoafodmbjaaGreatDoor.Ex
open Go Go.RowKit
set_option linter.unusedVariables false
set_option linter.unusedSimpArgs false
section
variable {C : Ctx} {B : Nat} {w0 : World}
def ExtOK (C : Ctx) (B : Nat) (w0 : World) (ext : CallF) : Prop := ∀ (f : FuncId) (args : List Value) (st : St) (v : Value) (st' : St), ext (.fn f) args st = some (v, st') → ∀ (e : Env) (w : World) (args' : List Value), Rel C B w0 e st w → LR e args args' → callE C.P f ⟨args'⟩ w (PostA C B w0 st e st' v)
theorem callA_inv {ext ih : CallF} {L f : Nat} {args : List Value} {st st' : St} {v : Value} (h : callA C ext ih L f args st = some (v, st')) :
    ∃ fn c, C.fns.get f = some fn ∧ fn.body = some c ∧ (fn.name == "runtime.NumGoroutine") = false ∧ (ext (.fn f) args st = some (v, st') ∨
      (args.length ≤ fn.ntmps ∧ endA C fn.results.toList (execC C ih L f fn.ntmps true c ⟨argsA args 0 .leaf, st, []⟩) = some (v, st'))) := by
  unfold callA at h
  split at h
  · rename_i fn hf
    split at h
    · rename_i c hb
      cases hn : (fn.name == "runtime.NumGoroutine") with
      | true => rw [hn] at h; cases h
      | false =>
        rw [hn] at h
        simp only [cond_false] at h
        refine ⟨fn, c, hf, hb, hn, ?_⟩
        cases he : ext (.fn f) args st with
        | some r => rw [he] at h; exact .inl h
        | none =>
          rw [he] at h
          simp only [llen_eq] at h
          cases hl : Nat.ble args.length fn.ntmps with
          | false => rw [hl] at h; cases h
          | true => rw [hl] at h; exact .inr ⟨Nat.le_of_ble_eq_true hl, h⟩
    · cases h
  · cases h
theorem callFunc_ent {P : Program} {f : FuncId} {fn : Func} {c : Code} (hf : P.funcs[f]? = some fn) (hb : fn.body = some c) (hn : (fn.name == "runtime.NumGoroutine") = false) (args : Array Value) (w : World) : (callFunc f args).run P w = .ok (.enter f args) w := by
  have hn' : ¬ fn.name = "runtime.NumGoroutine" := by simpa using hn
  simp [callFunc, program, Sem.run, hf, hb, hn']
theorem go_ok (hC : C.OK) {ext : CallF} (hext : ExtOK C B w0 ext) {L : Nat} (hops : ∀ callF, CallOK C B w0 callF → EntOK C callF → OpsOK C B w0 callF) (hdraw : ∀ callF, OpsOK C B w0 callF → DrawOK C B w0 callF) :
    ∀ d, CallOK C B w0 (go C ext L d) ∧ EntOK C (go C ext L d) := by
  intro d
  induction d with
  | zero => exact ⟨(fun t args st v st' h => by cases h), (fun f args st st' v h => by cases h)⟩
  | succ d ih =>
    have H := hops _ ih.1 ih.2
    have HD := hdraw _ H
    have HR := range_ok hC ih.1 ih.2
    refine ⟨?_, ?_⟩
    · intro t args st v st' h e w args' hR ha
      cases t with
      | fn f =>
        have h' : callA C ext (go C ext L d) L f args st = some (v, st') := h
        obtain ⟨fn, c, hf, hb, hn, hcase⟩ := callA_inv h'
        rcases hcase with he | ⟨hl, hx⟩
        · exact hext f args st v st' he e w args' hR ha
        · exact fn_ok hC H HD HR (hC.fns _ _ hf) hb hl hx hR ha
      | yield l =>
        have h' : (match st.loop? l with
          | some r => roundA C (go C ext L d) L l r args st
          | none => none) = some (v, st') := h
        intro x hx
        cases hl : st.loop? l with
        | none => rw [hl] at h'; cases h'
        | some r => rw [hl] at h'; exact yield_ok hC H HD HR h' hl hR ha hx
    · intro f args st st' v h args' w
      have h' : callA C ext (go C ext L d) L f args st = some (v, st') := h
      obtain ⟨fn, c, hf, hb, hn, _⟩ := callA_inv h'
      exact callFunc_ent (hC.fns _ _ hf) hb hn args' w
end
end Go.Proofs.YtmcbcoafodmbjaaGreatDoor.Ex
