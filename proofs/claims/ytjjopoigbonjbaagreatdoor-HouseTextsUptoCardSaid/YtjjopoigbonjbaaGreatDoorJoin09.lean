/-
  Texts joined: ExO, ExC, ExG.
-/
import Derived.Test.YtjjopoigbonjbaaGreatDoorJoin08
namespace Go.Proofs.YtjjopoigbonjbaaGreatDoor.Ex
open Go Go.RowKit
set_option linter.unusedVariables false
set_option linter.unusedSimpArgs false
variable {ro : Option Nat} {ds : List Deferred}
/-- A later state: what was named is named still, and stands for the same. -/
structure Fol (st : St) (e : Env) (st' : St) (e' : Env) : Prop where
  keep : Keep st e e'
  dom : ∀ b c, st.heap.get b = some c → ∃ c', st'.heap.get b = some c'
theorem Fol.refl (st : St) (e : Env) : Fol st e st e := ⟨fun _ _ _ => rfl, fun b c h => ⟨c, h⟩⟩
theorem Fol.trans {st st1 st2 : St} {e e1 e2 : Env} (h : Fol st e st1 e1) (k : Fol st1 e1 st2 e2) : Fol st e st2 e2 :=
  ⟨fun b c hb => let ⟨c', hc'⟩ := h.dom b c hb; (k.keep b c' hc').trans (h.keep b c hb), fun b c hb => let ⟨c', hc'⟩ := h.dom b c hb; k.dom b c' hc'⟩
theorem Fol.le {C : Ctx} {B : Nat} {w0 : World} {e e' : Env} {st st' : St} {w : World} (h : Rel C B w0 e st w) (hk : Fol st e st' e') : e.le e' := Keep.le h hk.keep
theorem Fol.put_ (st : St) (e : Env) (b : Nat) (c : Cel) : Fol st e (st.put b c) e := ⟨fun _ _ _ => rfl, fun b2 c2 h => by simp only [St.put, get_set]; split; exact ⟨_, rfl⟩; exact ⟨_, h⟩⟩
theorem Fol.new_ {C : Ctx} {B : Nat} {w0 : World} {e : Env} {st : St} {w : World} (hR : Rel C B w0 e st w) (c : Cel) (x : Bind) : Fol st e (st.new c) (e.upd st.next x) := by
  have hne : ∀ b c2, st.heap.get b = some c2 → b ≠ st.next := fun b c2 hb e1 => by subst e1; rw [hR.fresh _ (Nat.le_refl _)] at hb; cases hb
  refine ⟨fun b c2 hb => ?_, fun b c2 hb => ?_⟩
  · unfold Env.upd; rw [if_neg (hne b c2 hb)]
  · simp only [St.new, get_set, if_neg (hne b c2 hb)]; exact ⟨_, hb⟩
/-- What stands behind a call, or an operation. -/
def PostA (C : Ctx) (B : Nat) (w0 : World) (st : St) (e : Env) (st' : St) (v : Value) : Kont := fun v' w' => ∃ e', Fol st e st' e' ∧ Rel C B w0 e' st' w' ∧ VR e' v v'
/-- What is reckoned of calls, they do. -/
def CallOK (C : Ctx) (B : Nat) (w0 : World) (callF : CallF) : Prop := ∀ (t : Tgt) (args : List Value) (st : St) (v : Value) (st' : St), callF t args st = some (v, st') → ∀ (e : Env) (w : World) (args' : List Value), Rel C B w0 e st w → LR e args args' →
  match t with
  | .fn f => callE C.P f ⟨args'⟩ w (PostA C B w0 st e st' v)
  | .yield l => ∀ x, e l = some x → resE C.P ((Instr.yield x.blk ⟨args'⟩).run C.P w) (PostA C B w0 st e st' v)
/-- An operation's operands, as a state and a frame have them. -/
def OpR (C : Ctx) (e : Env) (s : Sl) (σ : Slots) (o : Oper) : Prop := ∀ x ∈ o.op.operands.toList, okOpd C x = true → VR e (evA s x) (ev σ x)
theorem OpR.of {C : Ctx} {e : Env} {s : Sl} {σ : Slots} (hG : ∀ g, C.gl g = true → e g = some ⟨g, 0, 0⟩) (h : SlR e s σ) (o : Oper) : OpR C e s σ o := fun x _ hx => ev_ok hG h x hx
structure OpsOK (C : Ctx) (B : Nat) (w0 : World) (callF : CallF) : Prop where
  still : ∀ (o : Oper) (s : Sl) (σ : Slots) (st : St) (e : Env) (w : World) (v : Value), insCls (compK C o.op) = .still → insS C s o st (compK C o.op) = some v → Rel C B w0 e st w → OpR C e s σ o → ∃ v', (execOp (ev σ) o).run C.P w = .ok (.value v') w ∧ VR e v v'
  alloc : ∀ (o : Oper) (s : Sl) (σ : Slots) (e : Env) (c : Cel) (mk : Nat → Value), insCls (compK C o.op) = .alloc → insN C s o (compK C o.op) = some (c, mk) → OpR C e s σ o →
    ∀ (b : Nat) (w : World), e b = none → ∃ ob sh r v' w1, (w1 = w ∨ w1 = w.drew) ∧ (execOp (ev σ) o).run C.P w = .ok (.value v') (w1.alloc ob) ∧ CR C (e.upd b ⟨w.heap.size, sh, r⟩) ⟨w.heap.size, sh, r⟩ c (some ob) ∧ VR (e.upd b ⟨w.heap.size, sh, r⟩) (mk b) v'
  loud : ∀ (o : Oper) (s : Sl) (σ : Slots) (st st' : St) (e : Env) (w : World) (v : Value), insCls (compK C o.op) = .loud → insL C callF s o st (compK C o.op) = some (v, st') → Rel C B w0 e st w → OpR C e s σ o → resE C.P ((execOp (ev σ) o).run C.P w) (PostA C B w0 st e st' v)
section
variable {C : Ctx} {B : Nat} {w0 : World} {e : Env} {st : St} {w : World}
theorem putA_ok {n : Nat} {s s' : Sl} {σ : Slots} {d : Option Tmp} {v v' : Value} (h : putA n s d v = some s') (hs : SlR e s σ) (hv : VR e v v') : SlR e s' (put n σ d v') := by
  cases d with
  | none => simp only [putA, Option.some.injEq] at h; subst h; exact hs
  | some d =>
    simp only [putA] at h
    cases hb : Nat.blt d n with
    | false => rw [hb] at h; cases h
    | true =>
      rw [hb] at h
      simp only [cond_true, Option.some.injEq] at h
      subst h
      intro t
      have hlt : d < n := Nat.le_of_ble_eq_true hb
      rw [get_set]
      by_cases ht : t = d
      · subst ht; rw [if_pos rfl, put_same _ _ _ _ hlt]; exact hv
      · rw [if_neg ht, put_other _ _ _ _ _ ht]; exact hs t
theorem guard_ok {ops : List Oper} {s : Sl} {σ : Slots} (hs : SlR e s σ) (j : Nat) : VR e (guardA ops s j) (guardS ops.toArray σ j) := by
  unfold guardA guardS
  rw [lget_eq]
  simp only [List.getElem?_toArray]
  cases h : ops[j]? with
  | none => exact VR.undef_
  | some o =>
    obtain ⟨d, a1, a2, a3, a4, a5⟩ := o
    cases d with
    | none => exact VR.undef_
    | some d => exact hs d
theorem wanted_ok {n : Nat} {ops : List Oper} {s : Sl} {σ : Slots} {a : Act} {o : Oper} (hs : SlR e s σ) (hf : Fits n ds σ a) : wantedA ops s o.guard = Region.wanted o (yielded ops.toArray a.tmps) := by
  unfold Region.wanted
  cases hg : o.guard with
  | none => rfl
  | some jw =>
    obtain ⟨j, want⟩ := jw
    simp only [yielded_eq hf]
    have h := guard_ok (ops := ops) hs j
    simp only [wantedA]
    generalize guardA ops s j = v at h
    generalize guardS ops.toArray σ j = v' at h
    cases h with
    | bool b => cases b <;> cases want <;> rfl
    | any h1 h2 => cases v' <;> first | exact absurd rfl (h1 _) | (cases want <;> rfl)
    | _ => cases want <;> rfl
theorem Rel.drewOr {w1 : World} (h : Rel C B w0 e st w) (h1 : w1 = w ∨ w1 = w.drew) : Rel C B w0 e st w1 ∧ w1.heap.size = w.heap.size := by
  rcases h1 with rfl | rfl
  · exact ⟨h, rfl⟩
  · exact ⟨h.drew, rfl⟩
/-- Operations in a row. -/
theorem opsA_ok {callF : CallF} (H : OpsOK C B w0 callF) {n : Nat} (all : List Oper) {Q : Exit → Act → World → Prop} {s' : Sl} {st' : St} : ∀ (l : List Oper) (s : Sl) (st : St) (e : Env) (w : World) (σ : Slots) (a : Act),
    opsA C callF n all l s st = some (s', st') → Rel C B w0 e st w → SlR e s σ → Fits n ds σ a →
    (∀ e' w' σ' a', Fol st e st' e' → Rel C B w0 e' st' w' → SlR e' s' σ' → Fits n ds σ' a' → Q .normal a' w') → wpListIn (fR ro) 0 C.P all.toArray Q l a w := by
  intro l
  induction l with
  | nil =>
    intro s st e w σ a h hR hs hf hQ
    cases h
    exact hQ e w σ a (Fol.refl _ _) hR hs hf
  | cons o rest ih =>
    intro s st e w σ a h hR hs hf hQ
    have h' : cond (wantedA all s o.guard)
        (match insCls (compK C o.op) with
        | .still => (match insS C s o st (compK C o.op) with
          | some v => (match putA n s o.dst v with | some s' => opsA C callF n all rest s' st | none => none)
          | none => none)
        | .alloc => (match insN C s o (compK C o.op) with
          | some (c, mk) => (match putA n s o.dst (mk st.next) with | some s' => opsA C callF n all rest s' (st.new c) | none => none)
          | none => none)
        | .loud => (match insL C callF s o st (compK C o.op) with
          | some (v, st') => (match putA n s o.dst v with | some s' => opsA C callF n all rest s' st' | none => none)
          | none => none))
        (match putA n s o.dst undefA with | some s' => opsA C callF n all rest s' st | none => none) = some (s', st') := h
    unfold wpListIn
    rw [wanted_ok hs hf] at h'
    cases hw : Region.wanted o (yielded all.toArray a.tmps) with
    | false =>
      rw [hw] at h'
      simp only [cond_false] at h'
      rw [if_neg (by simp)]
      cases hp : putA n s o.dst undefA with
      | none => rw [hp] at h'; cases h'
      | some s1 =>
        rw [hp] at h'
        exact ⟨fun f _ => trivial, ih s1 st e w _ _ h' hR (putA_ok hp hs VR.undef_) (hf.put _ _) hQ⟩
    | true =>
      rw [hw] at h'
      simp only [cond_true] at h'
      rw [if_pos rfl]
      cases hc : insCls (compK C o.op) with
      | still =>
        rw [hc] at h'
        simp only at h'
        cases hi : insS C s o st (compK C o.op) with
        | none => rw [hi] at h'; cases h'
        | some v =>
          rw [hi] at h'
          simp only at h'
          cases hp : putA n s o.dst v with
          | none => rw [hp] at h'; cases h'
          | some s1 =>
            rw [hp] at h'
            obtain ⟨v', hr, hv⟩ := H.still o s σ st e w v hc hi hR (.of hR.glob hs o)
            refine wpIn_of_resE (k := fun u w' => u = v' ∧ w' = w) (by rw [hf.eval, hr]; exact ⟨rfl, rfl⟩) ?_
            rintro u w' ⟨rfl, rfl⟩
            exact ih s1 st e w' _ _ h' hR (putA_ok hp hs hv) (hf.put _ _) hQ
      | alloc =>
        rw [hc] at h'
        simp only at h'
        cases hi : insN C s o (compK C o.op) with
        | none => rw [hi] at h'; cases h'
        | some cm =>
          obtain ⟨c, mk⟩ := cm
          rw [hi] at h'
          simp only at h'
          cases hp : putA n s o.dst (mk st.next) with
          | none => rw [hp] at h'; cases h'
          | some s1 =>
            rw [hp] at h'
            obtain ⟨ob, sh, r, v', w1, h1, hr, hcr, hv⟩ := H.alloc o s σ e c mk hc hi (.of hR.glob hs o) st.next w hR.next_none
            obtain ⟨hR1, hsz⟩ := hR.drewOr h1
            have hR2 := hR1.new_ c ob sh r (by rw [hsz]; exact hcr)
            rw [hsz] at hR2
            have hle := upd_le (x := ⟨w.heap.size, sh, r⟩) hR.next_none
            refine wpIn_of_resE (k := fun u w' => u = v' ∧ w' = w1.alloc ob) (by rw [hf.eval, hr]; exact ⟨rfl, rfl⟩) ?_
            rintro u w' ⟨rfl, rfl⟩
            refine ih s1 (st.new c) _ _ _ _ h' hR2 (putA_ok hp (hs.mono hle) hv) (hf.put _ _) fun e' w' σ' a' hk => hQ e' w' σ' a' ((Fol.new_ hR c _).trans hk)
      | loud =>
        rw [hc] at h'
        simp only at h'
        cases hi : insL C callF s o st (compK C o.op) with
        | none => rw [hi] at h'; cases h'
        | some vs =>
          obtain ⟨v, st1⟩ := vs
          rw [hi] at h'
          simp only at h'
          cases hp : putA n s o.dst v with
          | none => rw [hp] at h'; cases h'
          | some s1 =>
            rw [hp] at h'
            refine wpIn_of_resE (k := PostA C B w0 st e st1 v) (by rw [hf.eval]; exact H.loud o s σ st st1 e w v hc hi hR (.of hR.glob hs o)) ?_
            rintro u w' ⟨e1, hk1, hR1, hv⟩
            exact ih s1 st1 e1 w' _ _ h' hR1 (putA_ok hp (hs.mono (hk1.le hR)) hv) (hf.put _ _) fun e' w2 σ' a' hk => hQ e' w2 σ' a' (hk1.trans hk)
end
end Go.Proofs.YtjjopoigbonjbaaGreatDoor.Ex
namespace Go.Proofs.YtjjopoigbonjbaaGreatDoor.Ex
open Go Go.RowKit
set_option linter.unusedVariables false
set_option linter.unusedSimpArgs false
def exOf : Ax → Exit
  | .normal => .normal
  | .exit i => .exit i
  | .ret => .ret
/-- The frame's marks, by name. -/
def MK (e : Env) : List Nat → List Deferred → Prop
  | [], [] => True
  | D :: ms, d :: ds => (∃ x, e D = some x ∧ d = markOf x.blk) ∧ MK e ms ds
  | _, _ => False
theorem MK.mono {e e' : Env} (hle : e.le e') : ∀ {ms : List Nat} {ds : List Deferred}, MK e ms ds → MK e' ms ds
  | [], [], _ => trivial
  | D :: ms, d :: ds, ⟨⟨x, h1, h2⟩, h⟩ => ⟨⟨x, hle _ _ h1, h2⟩, MK.mono hle h⟩
  | [], _ :: _, h => h.elim
  | _ :: _, [], h => h.elim
/-- What a frame and the world are, as a state says. -/
structure At (C : Ctx) (B : Nat) (w0 : World) (n : Nat) (d0 : List Deferred) (st0 : St) (e0 : Env) (as : AS) (a : Act) (w : World) : Prop where
  at_ : ∃ e σ ds, Fol st0 e0 as.st e ∧ Rel C B w0 e as.st w ∧ SlR e as.s σ ∧ Fits n (ds ++ d0) σ a ∧ MK e as.ms ds
def CodeQ (C : Ctx) (B : Nat) (w0 : World) (n : Nat) (d0 : List Deferred) (st0 : St) (e0 : Env) (ax : Ax) (as : AS) : Exit → Act → World → Prop := fun ex a w => ex = exOf ax ∧ At C B w0 n d0 st0 e0 as a w
/-- Regions that draw their order. -/
def DrawOK (C : Ctx) (B : Nat) (w0 : World) (callF : CallF) : Prop := ∀ (n : Nat) (ops : List Oper) (pl : List PS) (s s' : Sl) (st st' : St), planOf C ops = some pl → drawA C callF n ops pl s st 0 [] = some (s', st') →
  ∀ (ro : Option Nat) (ds : List Deferred) (id : Nat) (e : Env) (w : World) (σ : Slots) (a : Act) (Q : Exit → Act → World → Prop), Rel C B w0 e st w → SlR e s σ → Fits n ds σ a →
    (∀ e' w' σ' a', Fol st e st' e' → Rel C B w0 e' st' w' → SlR e' s' σ' → Fits n ds σ' a' → Q .normal a' w') → (Code.region id ops.toArray true).wpIn (fR ro) 0 C.P Q a w
/-- Ranges over functions. -/
def RangeOK (C : Ctx) (B : Nat) (w0 : World) (callF : CallF) : Prop := ∀ (fn n : Nat) (g : Operand) (ps : Array Tmp) (assign body : Code) (as as' : AS) (ax : Ax), okOpd C g = true → rangeA callF fn n ps assign body (evA as.s g) as = some (ax, as') →
  ∀ (d0 : List Deferred) (st0 : St) (e0 : Env) (a : Act) (w : World), At C B w0 n d0 st0 e0 as a w → (Code.rangeFunc g ps assign body).wpIn (fR none) 0 C.P (CodeQ C B w0 n d0 st0 e0 ax as') a w
theorem least (p : Nat → Prop) : ∀ k, p k → ∃ m, p m ∧ ∀ j, p j → m ≤ j := by
  intro k
  induction k using Nat.strongRecOn with
  | _ k ih =>
    intro hk
    by_cases h : ∃ j, j < k ∧ p j
    · obtain ⟨j, hj, hp⟩ := h; exact ih j hj hp
    · exact ⟨k, hk, fun j hj => Nat.le_of_not_lt fun h2 => h ⟨j, h2, hj⟩⟩
section
variable {C : Ctx} {B : Nat} {w0 : World}
theorem loopA_succ (k : Nat) (f : AS → CO) (as : AS) : loopA (k + 1) f as = match f as with
    | some (.normal, as') => loopA k f as'
    | r => r := rfl
theorem execC_ok {callF : CallF} (H : OpsOK C B w0 callF) (HD : DrawOK C B w0 callF) (HR : RangeOK C B w0 callF) {L fn n : Nat} {top : Bool} {ro : Option Nat} (hro : top = true → ro = none) {d0 : List Deferred} {st0 : St} {e0 : Env} :
    ∀ (c : Code) (as as' : AS) (ax : Ax) (a : Act) (w : World), execC C callF L fn n top c as = some (ax, as') → At C B w0 n d0 st0 e0 as a w → c.wpIn (fR ro) 0 C.P (CodeQ C B w0 n d0 st0 e0 ax as') a w := by
  intro c
  induction c with
  | skip => intro as as' ax a w h hA; cases h; exact wpIn_skip ⟨rfl, hA⟩
  | label l => intro as as' ax a w h hA; cases h; exact wpIn_label ⟨rfl, hA⟩
  | exit id => intro as as' ax a w h hA; cases h; exact wpIn_exit ⟨rfl, hA⟩
  | ret => intro as as' ax a w h hA; cases h; exact wpIn_ret ⟨rfl, hA⟩
  | goto l => intro as as' ax a w h hA; cases h
  | refuse y => intro as as' ax a w h hA; cases h
  | seq x y ihx ihy =>
    intro as as' ax a w h hA
    have h' : thenA (execC C callF L fn n top y) (execC C callF L fn n top x as) = some (ax, as') := h
    cases hx : execC C callF L fn n top x as with
    | none => rw [hx] at h'; cases h'
    | some r =>
      obtain ⟨ax1, as1⟩ := r
      rw [hx] at h'
      refine wpIn_seq (wpIn_mono (ihx as as1 ax1 a w hx hA) ?_)
      rintro ex a1 w1 ⟨he, hA1⟩
      subst he
      cases ax1 with
      | normal => exact ihy as1 as' ax a1 w1 h' hA1
      | exit i => simp only [thenA, Option.some.injEq, Prod.mk.injEq] at h'; obtain ⟨rfl, rfl⟩ := h'; exact ⟨rfl, hA1⟩
      | ret => simp only [thenA, Option.some.injEq, Prod.mk.injEq] at h'; obtain ⟨rfl, rfl⟩ := h'; exact ⟨rfl, hA1⟩
  | cond c x y ihx ihy =>
    intro as as' ax a w h hA
    have h' : (match evA as.s c with
      | .bool t => cond t (execC C callF L fn n top x as) (execC C callF L fn n top y as)
      | _ => none) = some (ax, as') := h
    obtain ⟨e, σ, ds, h1, h2, h3, h4, h5⟩ := hA.at_
    have hv : ∀ b, evA as.s c = .bool b → ev σ c = .bool b := by
      intro b hb
      cases c with
      | tmp t =>
        have := h3 t
        have e1 : evA as.s (.tmp t) = ogetD (as.s.get t) := rfl
        rw [e1] at hb
        rw [hb] at this
        show σ t = _
        generalize σ t = v at this
        cases this
        rfl
      | const v => exact hb
      | global g => cases hb
      | func f => cases hb
    cases hb : evA as.s c with
    | bool b =>
      rw [hb] at h'
      cases b with
      | true => exact wpIn_cond_true (by rw [h4.eval]; exact hv _ hb) (ihx as as' ax a w h' hA)
      | false => exact wpIn_cond_false (by rw [h4.eval]; exact hv _ hb) (ihy as as' ax a w h' hA)
    | _ => rw [hb] at h'; cases h'
  | block id c ih =>
    intro as as' ax a w h hA
    have h' : blockA id (execC C callF L fn n top c as) = some (ax, as') := h
    cases hx : execC C callF L fn n top c as with
    | none => rw [hx] at h'; cases h'
    | some r =>
      obtain ⟨ax1, as1⟩ := r
      rw [hx] at h'
      refine wpIn_block (wpIn_mono (ih as as1 ax1 a w hx hA) ?_)
      rintro ex a1 w1 ⟨he, hA1⟩
      subst he
      cases ax1 with
      | normal => simp only [blockA, Option.some.injEq, Prod.mk.injEq] at h'; obtain ⟨rfl, rfl⟩ := h'; exact ⟨rfl, hA1⟩
      | ret => simp only [blockA, Option.some.injEq, Prod.mk.injEq] at h'; obtain ⟨rfl, rfl⟩ := h'; exact ⟨rfl, hA1⟩
      | exit i =>
        simp only [blockA] at h'
        simp only [exOf, Exit.inBlock]
        cases hb : Nat.beq i id with
        | true =>
          rw [hb] at h'
          simp only [cond_true, Option.some.injEq, Prod.mk.injEq] at h'
          obtain ⟨rfl, rfl⟩ := h'
          rw [if_pos (Nat.eq_of_beq_eq_true hb)]
          exact ⟨rfl, hA1⟩
        | false =>
          rw [hb] at h'
          simp only [cond_false, Option.some.injEq, Prod.mk.injEq] at h'
          obtain ⟨rfl, rfl⟩ := h'
          rw [if_neg (fun e1 => by subst e1; rw [Nat.beq_refl] at hb; cases hb)]
          exact ⟨rfl, hA1⟩
  | scope c ih =>
    intro as as' ax a w h hA
    refine wpIn_scope (wpIn_mono (ih as as' ax a w h hA) ?_)
    rintro ex a1 w1 ⟨he, hA1⟩
    subst he
    exact ⟨fun l h => (by cases ax <;> cases h), rfl, hA1⟩
  | region id ops draw =>
    intro as as' ax a w h hA
    obtain ⟨ops⟩ := ops
    have h' : regionA C callF n ops draw as = some (ax, as') := h
    obtain ⟨e, σ, ds, h1, h2, h3, h4, h5⟩ := hA.at_
    cases draw with
    | true =>
      simp only [regionA, cond_true] at h'
      cases hp : planOf C ops with
      | none => rw [hp] at h'; cases h'
      | some pl =>
        rw [hp] at h'
        simp only at h'
        cases hd : drawA C callF n ops pl as.s as.st 0 [] with
        | none => rw [hd] at h'; cases h'
        | some r =>
          obtain ⟨s', st'⟩ := r
          rw [hd] at h'
          simp only [regA, Option.some.injEq, Prod.mk.injEq] at h'
          obtain ⟨rfl, rfl⟩ := h'
          exact HD n ops pl as.s s' as.st st' hp hd ro (ds ++ d0) id e w σ a _ h2 h3 h4 fun e' w' σ' a' k1 k2 k3 k4 => ⟨rfl, ⟨e', σ', ds, h1.trans k1, k2, k3, k4, h5.mono (k1.le h2)⟩⟩
    | false =>
      simp only [regionA, cond_false] at h'
      cases hd : opsA C callF n ops ops as.s as.st with
      | none => rw [hd] at h'; cases h'
      | some r =>
        obtain ⟨s', st'⟩ := r
        rw [hd] at h'
        simp only [regA, Option.some.injEq, Prod.mk.injEq] at h'
        obtain ⟨rfl, rfl⟩ := h'
        refine wpIn_region_list ?_
        exact opsA_ok H ops ops as.s as.st e w σ a hd h2 h3 h4 fun e' w' σ' a' k1 k2 k3 k4 => ⟨rfl, ⟨e', σ', ds, h1.trans k1, k2, k3, k4, h5.mono (k1.le h2)⟩⟩
  | rangeFunc g ps x y ihx ihy =>
    intro as as' ax a w h hA
    have h' : cond (top && okOpd C g) (rangeA callF fn n ps x y (evA as.s g) as) none = some (ax, as') := h
    cases ht : (top && okOpd C g) with
    | false => rw [ht] at h'; cases h'
    | true =>
      rw [ht] at h'
      simp only [Bool.and_eq_true] at ht
      rw [hro ht.1]
      exact HR fn n g ps x y as as' ax ht.2 h' d0 st0 e0 a w hA
  | loop c ih =>
    intro as as' ax a w h hA
    have h' : loopA L (execC C callF L fn n top c) as = some (ax, as') := h
    let R : Nat → Act → World → Prop := fun k a w => ∃ asx, loopA k (execC C callF L fn n top c) asx = some (ax, as') ∧ At C B w0 n d0 st0 e0 asx a w
    have hex : ∀ a w, ∃ m, ((∃ k, R k a w) → R m a w ∧ ∀ j, R j a w → m ≤ j) := by
      intro a w
      by_cases h : ∃ k, R k a w
      · obtain ⟨k, hk⟩ := h; obtain ⟨m, h1, h2⟩ := least (fun k => R k a w) k hk; exact ⟨m, fun _ => ⟨h1, h2⟩⟩
      · exact ⟨0, fun h2 => absurd h2 h⟩
    let μ : Act → World → Nat := fun a w => Classical.choose (hex a w)
    have hμ : ∀ a w k, R k a w → R (μ a w) a w ∧ μ a w ≤ k := by
      intro a w k hk
      have := Classical.choose_spec (hex a w) ⟨k, hk⟩
      exact ⟨this.1, this.2 k hk⟩
    refine wpIn_loop (fun a w => ∃ k, R k a w) μ ⟨L, as, h', hA⟩ ?_
    rintro a w ⟨k, hk⟩
    obtain ⟨⟨asx, h1, hAx⟩, _⟩ := hμ a w k hk
    cases hm : μ a w with
    | zero => rw [hm] at h1; cases h1
    | succ m =>
      rw [hm, loopA_succ] at h1
      cases hx : execC C callF L fn n top c asx with
      | none => rw [hx] at h1; cases h1
      | some r =>
        obtain ⟨ax1, as1⟩ := r
        rw [hx] at h1
        refine wpIn_mono (ih asx as1 ax1 a w hx hAx) ?_
        rintro ex a1 w1 ⟨he, hA1⟩
        subst he
        cases ax1 with
        | normal =>
          have hr : R m a1 w1 := ⟨as1, h1, hA1⟩
          exact ⟨⟨m, hr⟩, Nat.lt_succ_of_le (hμ a1 w1 m hr).2⟩
        | exit i => simp only [Option.some.injEq, Prod.mk.injEq] at h1; obtain ⟨rfl, rfl⟩ := h1; exact ⟨rfl, hA1⟩
        | ret => simp only [Option.some.injEq, Prod.mk.injEq] at h1; obtain ⟨rfl, rfl⟩ := h1; exact ⟨rfl, hA1⟩
end
end Go.Proofs.YtjjopoigbonjbaaGreatDoor.Ex
namespace Go.Proofs.YtjjopoigbonjbaaGreatDoor.Ex
open Go Go.RowKit
set_option linter.unusedVariables false
set_option linter.unusedSimpArgs false
section
variable {C : Ctx} {B : Nat} {w0 : World}
theorem argsA_get : ∀ (l : List Value) (k : Nat) (s : Sl) (t : Nat), (argsA l k s).get t = if k ≤ t ∧ t < k + l.length then l[t - k]? else s.get t
  | [], k, s, t => by rw [if_neg (by intro h; simp only [List.length_nil] at h; omega)]; rfl
  | v :: l, k, s, t => by
    have h : argsA (v :: l) k s = argsA l (k + 1) (s.set k v) := rfl
    rw [h, argsA_get l (k + 1) (s.set k v) t, get_set]
    simp only [List.length_cons]
    by_cases h1 : k + 1 ≤ t ∧ t < k + 1 + l.length
    · rw [if_pos h1, if_pos (by omega), show t - k = (t - (k + 1)) + 1 by omega, List.getElem?_cons_succ]
    · rw [if_neg h1]
      by_cases h2 : t = k
      · subst h2; rw [if_pos rfl, if_pos (by omega)]; simp
      · rw [if_neg h2, if_neg (by omega)]
theorem argsA_ok {e : Env} {args args' : List Value} (h : LR e args args') : SlR e (argsA args 0 .leaf) (argsE ⟨args'⟩) := by
  intro t
  rw [argsA_get]
  simp only [argsE, Array.getD_eq_getD_getElem?, List.getElem?_toArray]
  by_cases ht : t < args.length
  · rw [if_pos (by omega)]
    obtain ⟨v', hv', hr⟩ := h.get (List.getElem?_eq_getElem ht)
    rw [Nat.sub_zero, List.getElem?_eq_getElem ht]
    simp only [hv', Option.getD_some]
    exact hr
  · rw [if_neg (by omega)]
    have h2 : args'[t]? = none := by rw [List.getElem?_eq_none_iff, ← h.1]; omega
    rw [h2, get_leaf]
    exact VR.undef_
theorem resA_ok (hC : C.OK) {e : Env} {st : St} {w : World} {s : Sl} {σ : Slots} (hR : Rel C B w0 e st w) (hs : SlR e s σ) : ∀ (rs : List ResultVar) (l : List Value), resA C s st rs = some l → ∃ l', resO C.P σ w rs = some l' ∧ LR e l l'
  | [], l, h => by cases h; exact ⟨[], rfl, LR.nil⟩
  | .tmp t :: rs, l, h => by
    have h' : (match resA C s st rs with | none => none | some l => some (ogetD (s.get t) :: l)) = some l := h
    cases hr : resA C s st rs with
    | none => rw [hr] at h'; cases h'
    | some l1 =>
      rw [hr] at h'
      simp only [Option.some.injEq] at h'
      obtain ⟨l', a, b⟩ := resA_ok hC hR hs rs l1 hr
      subst h'
      exact ⟨σ t :: l', by simp [resO, a, consO], LR.cons (hs t) b⟩
  | .cell t ty :: rs, l, h => by
    have h' : (match resA C s st rs with | none => none | some l => (match ogetD (s.get t), sizeA C ty with
        | .pointer (some ⟨b, off, none⟩), some none => (match st.cell? b off with | some v => some (v :: l) | none => none)
        | .pointer (some ⟨b, off, none⟩), some (some n) => (match st.cells? b off n with | some cs => some (.agg ⟨cs⟩ :: l) | none => none)
        | _, _ => none)) = some l := h
    cases hr : resA C s st rs with
    | none => rw [hr] at h'; cases h'
    | some l1 =>
      rw [hr] at h'
      simp only at h'
      obtain ⟨l', a, b⟩ := resA_ok hC hR hs rs l1 hr
      have hv := hs t
      generalize ogetD (s.get t) = v at h' hv
      generalize hσ : σ t = v' at hv
      split at h'
      · rename_i b1 off hsz
        cases hv with
        | ptr hb =>
          cases hc : st.cell? b1 off with
          | none => rw [hc] at h'; cases h'
          | some u =>
            rw [hc] at h'
            simp only [Option.some.injEq] at h'
            subst h'
            obtain ⟨u', h1, h2⟩ := hR.cell_ hc hb
            exact ⟨u' :: l', by simp [resO, a, consO, hσ, size_ok hC hsz, valO, h1], LR.cons h2 b⟩
      · rename_i b1 off n hsz
        cases hv with
        | ptr hb =>
          cases hc : st.cells? b1 off n with
          | none => rw [hc] at h'; cases h'
          | some u =>
            rw [hc] at h'
            simp only [Option.some.injEq] at h'
            subst h'
            obtain ⟨u', h1, h2, _⟩ := hR.cells_ hc hb
            exact ⟨.agg ⟨u'⟩ :: l', by simp [resO, a, consO, hσ, size_ok hC hsz, valO, h1], LR.cons (VR.agg_ h2) b⟩
      · cases h'
theorem tupA_ok {e : Env} {l l' : List Value} (h : LR e l l') : VR e (tupA l) (tupleOf l') := by
  match l, l', h with
  | [], l', h => rw [h.unnil]; exact VR.tuple_ LR.nil
  | [v], l', h =>
    obtain ⟨v', r, rfl, hv, hr⟩ := h.uncons
    rw [hr.unnil]; exact hv
  | v :: u :: l, l', h =>
    obtain ⟨v', r, rfl, hv, hr⟩ := h.uncons
    obtain ⟨u', r', rfl, hu, hr'⟩ := hr.uncons
    exact VR.tuple_ h
theorem MK.form {e : Env} : ∀ {ms : List Nat} {ds : List Deferred}, MK e ms ds → ∃ bs : List Nat, ds = bs.map markOf ∧ bs.length = ms.length ∧ ∀ (i : Nat) (D b : Nat), ms[i]? = some D → bs[i]? = some b → ∃ x, e D = some x ∧ b = x.blk
  | [], [], _ => ⟨[], rfl, rfl, fun i D b h => by simp at h⟩
  | D :: ms, d :: ds, ⟨⟨x, h1, h2⟩, h⟩ => by
    obtain ⟨bs, a, b, c⟩ := MK.form h
    refine ⟨x.blk :: bs, by simp [h2, a], by simp [b], fun i D' b' hi hi' => ?_⟩
    cases i with
    | zero => simp at hi hi'; subst hi hi'; exact ⟨x, h1, rfl⟩
    | succ i => simp at hi hi'; exact c i D' b' hi hi'
  | [], _ :: _, h => h.elim
  | _ :: _, [], h => h.elim
/-- The marks are taken off, and what stands behind. -/
theorem takeA_ok {e : Env} {R : Kont} {rs : Array ResultVar} {σ : Slots} {stE : St} (hend : ∀ w', Rel C B w0 e stE w' → @endE ⟨R⟩ (resO C.P σ w' rs.toList) w') : ∀ (ms bs : List Nat) (st : St) (w : World), takeA ms st = some stE → Rel C B w0 e st w →
    bs.length = ms.length → (∀ (i : Nat) (D b : Nat), ms[i]? = some D → bs[i]? = some b → ∃ x, e D = some x ∧ b = x.blk) → @leaveE rs C.P σ ⟨R⟩ bs w
  | [], bs, st, w, h, hR, hl, hb => by
    cases h
    rw [List.eq_nil_of_length_eq_zero hl]
    exact hend w hR
  | D :: ms, bs, st, w, h, hR, hl, hb => by
    cases bs with
    | nil => cases hl
    | cons b bs =>
      have h' : (match st.heap.get D with
        | some (.obj (.deferred (some []))) => takeA ms (st.put D (.obj (.deferred none)))
        | _ => none) = some stE := h
      obtain ⟨x, he, rfl⟩ := hb 0 D b rfl rfl
      split at h'
      · rename_i hg
        obtain ⟨o', ho, hor⟩ := hR.obj_ hg he
        cases hor with
        | mark =>
          refine ⟨ho, ?_⟩
          have hR' := hR.putObj_ hg he OR.taken
          exact takeA_ok hend ms bs _ _ h' hR' (by simpa using hl) (fun i D' b' hi hi' => hb (i + 1) D' b' (by simpa using hi) (by simpa using hi'))
      · cases h'
theorem takeA_dom : ∀ (ms : List Nat) (st stE : St) (e : Env), takeA ms st = some stE → Fol st e stE e
  | [], st, stE, e, h => by cases h; exact Fol.refl _ _
  | D :: ms, st, stE, e, h => by
    have h' : (match st.heap.get D with
      | some (.obj (.deferred (some []))) => takeA ms (st.put D (.obj (.deferred none)))
      | _ => none) = some stE := h
    split at h'
    · exact (Fol.put_ st e D _).trans (takeA_dom ms _ _ e h')
    · cases h'
theorem endA_inv {rs : List ResultVar} {r : CO} {v : Value} {st' : St} (h : endA C rs r = some (v, st')) : ∃ ax as l, r = some (ax, as) ∧ (ax = .normal ∨ ax = .ret) ∧ takeA as.ms as.st = some st' ∧ resA C as.s st' rs = some l ∧ v = tupA l := by
  unfold endA at h
  have key : ∀ as : AS, (match takeA as.ms as.st with
    | some st' => (match resA C as.s st' rs with
      | some l => some (tupA l, st')
      | none => none)
    | none => none) = some (v, st') → ∃ l, takeA as.ms as.st = some st' ∧ resA C as.s st' rs = some l ∧ v = tupA l := by
    intro as h
    cases ht : takeA as.ms as.st with
    | none => rw [ht] at h; cases h
    | some s1 =>
      rw [ht] at h
      simp only at h
      cases hr : resA C as.s s1 rs with
      | none => rw [hr] at h; cases h
      | some l =>
        rw [hr] at h
        simp only [Option.some.injEq, Prod.mk.injEq] at h
        obtain ⟨rfl, rfl⟩ := h
        exact ⟨l, rfl, hr, rfl⟩
  split at h
  · rename_i as
    obtain ⟨l, a, b, c⟩ := key as h
    exact ⟨.normal, as, l, rfl, .inl rfl, a, b, c⟩
  · rename_i as
    obtain ⟨l, a, b, c⟩ := key as h
    exact ⟨.ret, as, l, rfl, .inr rfl, a, b, c⟩
  · cases h
theorem fn_ok (hC : C.OK) {callF : CallF} (H : OpsOK C B w0 callF) (HD : DrawOK C B w0 callF) (HR : RangeOK C B w0 callF) {L f : Nat} {fn : Func} {c : Code} {args args' : List Value} {st st' : St} {v : Value} {e : Env} {w : World}
    (hf : C.P.funcs[f]? = some fn) (hb : fn.body = some c) (hle : args.length ≤ fn.ntmps) (h : endA C fn.results.toList (execC C callF L f fn.ntmps true c ⟨argsA args 0 .leaf, st, []⟩) = some (v, st')) (hR : Rel C B w0 e st w) (ha : LR e args args') :
    callE C.P f ⟨args'⟩ w (PostA C B w0 st e st' v) := by
  obtain ⟨ax, as, l, hx, hax, ht, hr, rfl⟩ := endA_inv h
  suffices h0 : CallsIn Fence.wide 0 C.P f ⟨args'⟩ w (fun e' w' => ∃ v', e' = .returned v' ∧ PostA C B w0 st e st' (tupA l) v' w') from callsIn_wide.1 h0
  refine callsIn_of_wp_marks hf hb trivial ?_
  have hsz : (⟨args'⟩ : Array Value).size ≤ fn.ntmps := by simp; rw [← ha.1]; exact hle
  have hfit : Fits fn.ntmps [] (argsE ⟨args'⟩) { tmps := (⟨args'⟩ : Array Value) ++ Array.replicate (fn.ntmps - (⟨args'⟩ : Array Value).size) undef, defers := [] } := by
    refine ⟨by simp; simp at hsz; omega, rfl, fun t => ?_⟩
    simp only [argsE, Array.getD_eq_getD_getElem?]
    by_cases ht : t < (⟨args'⟩ : Array Value).size
    · rw [Array.getElem?_append_left ht]
    · rw [Array.getElem?_append_right (by omega), Array.getElem?_replicate, Array.getElem?_eq_none (show (⟨args'⟩ : Array Value).size ≤ t by omega)]
      split <;> rfl
  have hA : At C B w0 fn.ntmps [] st e ⟨argsA args 0 .leaf, st, []⟩ { tmps := (⟨args'⟩ : Array Value) ++ Array.replicate (fn.ntmps - (⟨args'⟩ : Array Value).size) undef, defers := [] } w :=
    ⟨e, argsE ⟨args'⟩, [], Fol.refl _ _, hR, argsA_ok ha, hfit, trivial⟩
  have h1 := execC_ok H HD HR (ro := none) (fun _ => rfl) c _ as ax _ w hx hA
  refine wpIn_mono h1 ?_
  rintro ex a' w' ⟨he, hA'⟩
  obtain ⟨e', σ', ds, k1, k2, k3, k4, k5⟩ := hA'.at_
  rw [List.append_nil] at k4
  obtain ⟨bs, b1, b2, b3⟩ := k5.form
  have hl : @leaveE fn.results C.P σ' ⟨PostA C B w0 st e st' (tupA l)⟩ bs w' := by
    refine takeA_ok (stE := st') (e := e') ?_ as.ms bs as.st w' ht k2 b2 b3
    intro w2 hR2
    obtain ⟨l', r1, r2⟩ := resA_ok hC hR2 k3 fn.results.toList l hr
    rw [r1]
    exact ⟨e', k1.trans (takeA_dom _ _ _ e' ht), hR2, tupA_ok r2⟩
  have hlv := leaveE_sound (fn := fn) rfl k4.at_ bs w' hl
  rw [b1] at k4
  rcases hax with rfl | rfl <;> subst he
  · show LeavesInM Fence.wide 0 C.P fn a'.tmps _ a'.defers .returning w'
    rw [k4.defers]; exact hlv
  · show LeavesInM Fence.wide 0 C.P fn a'.tmps _ a'.defers .returning w'
    rw [k4.defers]; exact hlv
end
end Go.Proofs.YtjjopoigbonjbaaGreatDoor.Ex
