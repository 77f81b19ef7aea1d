/-
  Texts joined: ExD2, ExD3, ExD4.
-/
import Derived.Test.YtmcbcoafodmbjaaGreatDoorJoin16
namespace Go.Proofs.YtmcbcoafodmbjaaGreatDoor.Ex
open Go Go.RowKit
set_option linter.unusedVariables false
set_option linter.unusedSimpArgs false
/-! ## More names -/
def HE (st st' : St) : Prop := ∀ b c, st.heap.get b = some c → st'.heap.get b = some c
theorem HE.refl (st : St) : HE st st := fun _ _ h => h
theorem HE.trans {a b c : St} (h : HE a b) (k : HE b c) : HE a c := fun x y hx => k _ _ (h _ _ hx)
inductive GE : St → St → Prop
  | refl (st : St) : GE st st
  | new {st st' : St} (c : Cel) (h : st.heap.get st.next = none) (k : GE (st.new c) st') : GE st st'
theorem HE.new {st : St} (c : Cel) (h : st.heap.get st.next = none) : HE st (st.new c) := fun b c2 hb => by
  simp only [St.new, get_set]
  rw [if_neg (fun e => by subst e; rw [h] at hb; cases hb)]
  exact hb
theorem GE.he {st st' : St} (h : GE st st') : HE st st' := by
  induction h with
  | refl st => exact HE.refl st
  | new c h k ih => exact (HE.new c h).trans ih
theorem GE.trans {a b c : St} (h : GE a b) (k : GE b c) : GE a c := by
  induction h with
  | refl st => exact k
  | new c h _ ih => exact .new c h (ih k)
theorem Rel.ghosts {C : Ctx} {B : Nat} {w0 : World} {e : Env} {w : World} {st st' : St} (hR : Rel C B w0 e st w) (h : GE st st') : Rel C B w0 e st' w := by
  induction h with
  | refl st => exact hR
  | new c h k ih => exact ih (hR.ghost c)
section
variable {C : Ctx} {s : Sl} {o : Oper} {st st' : St} {i : Ins} {v : Value}
theorem cell?_grow (hE : HE st st') {b off : Nat} (h : st.cell? b off = some v) : st'.cell? b off = some v := by
  unfold St.cell? at h ⊢
  split at h
  · rename_i hg; rw [hE _ _ hg]; exact h
  · cases h
theorem cells?_grow (hE : HE st st') {b off n : Nat} {l : List Value} (h : st.cells? b off n = some l) : st'.cells? b off n = some l := by
  unfold St.cells? at h ⊢
  split at h
  · rename_i hg; rw [hE _ _ hg]; exact h
  · cases h
theorem kindOf_grow (hE : HE st st') {b : Nat} {k : Knd} (h : st.kindOf b = some k) : st'.kindOf b = some k := by
  unfold St.kindOf at h ⊢
  split at h
  · rename_i hg; rw [hE _ _ hg]; exact h
  · cases h
theorem map?_grow (hE : HE st st') {b : Nat} {x : List MapEntry × Nat} (h : st.map? b = some x) : st'.map? b = some x := by
  unfold St.map? at h ⊢
  split at h
  · rename_i hg; rw [hE _ _ hg]; exact h
  · cases h
theorem iLoad_grow (hE : HE st st') {x : Value} (h : iLoad st x = some v) : iLoad st' x = some v := by
  unfold iLoad at h ⊢
  split at h
  · exact cell?_grow hE h
  · cases h
theorem iLoads_grow (hE : HE st st') {n : Nat} {x : Value} (h : iLoads st n x = some v) : iLoads st' n x = some v := by
  unfold iLoads at h ⊢
  split at h
  · split at h
    · rename_i hl; simp only [cells?_grow hE hl]; exact h
    · cases h
  · cases h
theorem iSlice_grow (hE : HE st st') {z : Nat} {x : Value} {lo hi : Option Operand} (h : iSlice s st z x lo hi = some v) : iSlice s st' z x lo hi = some v := by
  unfold iSlice at h ⊢
  split at h
  · split at h
    · rename_i h1 h2 h3; simp only [h1, h2, kindOf_grow hE h3]; exact h
    · cases h
  · exact h
  · cases h
theorem iSlice3_grow (hE : HE st st') {z : Nat} {x : Value} {lo : Option Operand} {hi mx : Operand} (h : iSlice3 s st z x lo hi mx = some v) : iSlice3 s st' z x lo hi mx = some v := by
  unfold iSlice3 at h ⊢
  split at h
  · split at h
    · rename_i h1 h2 h3 h4; simp only [h1, h2, h3, kindOf_grow hE h4]; exact h
    · cases h
  · exact h
  · cases h
theorem iSlicP_grow (hE : HE st st') {n z : Nat} {x : Value} {lo hi : Option Operand} (h : iSlicP s st n z x lo hi = some v) : iSlicP s st' n z x lo hi = some v := by
  unfold iSlicP at h ⊢
  split at h
  · split at h
    · rename_i h1 h2 h3; simp only [h1, h2, kindOf_grow hE h3]; exact h
    · cases h
  · cases h
theorem iCap_grow (hE : HE st st') {x : Value} (h : iCap st x = some v) : iCap st' x = some v := by
  unfold iCap at h ⊢
  split at h
  · exact h
  · split at h
    · rename_i h1; simp only [kindOf_grow hE h1]; exact h
    · cases h
  · cases h
theorem iLookup_grow (hE : HE st st') {kk : KK} {ok : Bool} {z m k : Value} (h : iLookup st kk ok z m k = some v) : iLookup st' kk ok z m k = some v := by
  unfold iLookup at h ⊢
  split at h
  · exact h
  · split at h
    · rename_i h1; simp only [map?_grow hE h1]; exact h
    · cases h
  · cases h
theorem iMapLen_grow (hE : HE st st') {m : Value} (h : iMapLen st m = some v) : iMapLen st' m = some v := by
  unfold iMapLen at h ⊢
  split at h
  · exact h
  · split at h
    · rename_i h1; simp only [map?_grow hE h1]; exact h
    · cases h
  · cases h
theorem iToStr_grow (hE : HE st st') {x : Value} (h : iToStr st x = some v) : iToStr st' x = some v := by
  unfold iToStr at h ⊢
  split at h
  · exact h
  · exact h
  · split at h
    · rename_i hl; simp only [cells?_grow hE hl]; exact h
    · cases h
  · cases h
theorem insS_grow (hE : HE st st') (h : insS C s o st i = some v) : insS C s o st' i = some v := by
  cases i
  case load x => exact iLoad_grow hE h
  case loads n x => exact iLoads_grow hE h
  case slice z x lo hi => exact iSlice_grow hE h
  case slice3 z x lo hi mx => exact iSlice3_grow hE h
  case slicP n z x lo hi => exact iSlicP_grow hE h
  case cap x => exact iCap_grow hE h
  case lookup kk ok z m k => exact iLookup_grow hE h
  case mapLen m => exact iMapLen_grow hE h
  case toStr x => exact iToStr_grow hE h
  all_goals exact h
end
/-! ## The same values -/
theorem addrEq_eq {a b : Addr} (h : addrEq a b = true) : a = b := by
  obtain ⟨x, p, i⟩ := a
  obtain ⟨y, q, j⟩ := b
  simp only [addrEq, Bool.and_eq_true] at h
  obtain ⟨⟨h1, h2⟩, h3⟩ := h
  rw [Nat.eq_of_beq_eq_true h1, Nat.eq_of_beq_eq_true h2]
  cases i <;> cases j <;> simp at h3
  · rfl
  · rw [h3]
theorem valEqs_eq {f : Value → Value → Bool} (hf : ∀ v w, f v w = true → v = w) : ∀ l m : List Value, valEqs f l m = true → l = m
  | [], [], _ => rfl
  | [], _ :: _, h => by cases h
  | _ :: _, [], h => by cases h
  | x :: l, y :: m, h => by
    have h' : cond (f x y) (valEqs f l m) false = true := h
    cases hb : f x y <;> rw [hb] at h'
    · cases h'
    · rw [hf _ _ hb, valEqs_eq hf l m h']
theorem valEq_eq : ∀ (n : Nat) (v w : Value), valEq n v w = true → v = w
  | 0, v, w, h => by cases h
  | n + 1, v, w, h => by
    have ih := valEq_eq n
    have h' : (match (generalizing := false) v, w with
      | .bool a, .bool b => cond a b (not b)
      | .int j a, .int k b => ikeq j k && ieq a b
      | .string a, .string b => a.data.toList == b.data.toList
      | .pointer none, .pointer none => true
      | .pointer (some a), .pointer (some b) => addrEq a b
      | .slice none n c, .slice none m d => Nat.beq n m && Nat.beq c d
      | .slice (some ⟨x, p, i⟩) n c, .slice (some ⟨y, q, j⟩) m d => addrEq ⟨x, p, i⟩ ⟨y, q, j⟩ && Nat.beq n m && Nat.beq c d && (match (generalizing := false) i with | some 2 => false | _ => true)
      | .map none, .map none => true
      | .map (some a), .map (some b) => Nat.beq a b
      | .nilFunc, .nilFunc => true
      | .nilIface, .nilIface => true
      | .iface t v, .iface u w => Nat.beq t u && valEq n v w
      | .agg ⟨l⟩, .agg ⟨m⟩ => valEqs (valEq n) l m
      | .tuple ⟨l⟩, .tuple ⟨m⟩ => valEqs (valEq n) l m
      | _, _ => false) = true := h
    split at h'
    · rename_i a b; cases a <;> cases b <;> first | rfl | exact absurd h' (by simp)
    · rename_i j a k b
      simp only [Bool.and_eq_true] at h'
      rw [ikeq_eq h'.1]
      have := h'.2
      rw [ieq_eq] at this
      simp at this
      rw [this]
    · rename_i a b
      have h2 : a.data.toList = b.data.toList := by simpa using h'
      have h3 : a.data = b.data := Array.ext' h2
      cases a; cases b
      simp only at h3
      rw [h3]
    · rfl
    · rw [addrEq_eq h']
    · simp only [Bool.and_eq_true] at h'
      rw [Nat.eq_of_beq_eq_true h'.1, Nat.eq_of_beq_eq_true h'.2]
    · simp only [Bool.and_eq_true] at h'
      rw [addrEq_eq h'.1.1.1, Nat.eq_of_beq_eq_true h'.1.1.2, Nat.eq_of_beq_eq_true h'.1.2]
    · rfl
    · rw [Nat.eq_of_beq_eq_true h']
    · rfl
    · rfl
    · simp only [Bool.and_eq_true] at h'
      rw [Nat.eq_of_beq_eq_true h'.1, ih _ _ h'.2]
    · rw [valEqs_eq ih _ _ h']
    · rw [valEqs_eq ih _ _ h']
    · cases h'
theorem celEq_eq {a b : Cel} (h : celEq a b = true) : a = b := by
  unfold celEq at h
  split at h
  · simp only [Bool.and_eq_true] at h
    rw [Nat.eq_of_beq_eq_true h.1, valEqs_eq (valEq_eq 3) _ _ h.2]
  · simp only [Bool.and_eq_true] at h
    rw [Nat.eq_of_beq_eq_true h.1, valEqs_eq (valEq_eq 3) _ _ h.2]
  · rw [Nat.eq_of_beq_eq_true h]
  · cases h
end Go.Proofs.YtmcbcoafodmbjaaGreatDoor.Ex
namespace Go.Proofs.YtmcbcoafodmbjaaGreatDoor.Ex
open Go Go.RowKit
set_option linter.unusedVariables false
set_option linter.unusedSimpArgs false
def Agr (S SF : Sl) (o : Oper) : Prop := ∀ y ∈ o.op.operands.toList, evA S y = evA SF y
def PNow (C : Ctx) (SF : Sl) (st : St) : Pend → Prop
  | .val p v => ∃ S, Agr S SF p.o ∧ insS C S p.o st p.ins = some v
  | .obj _ b c => st.heap.get b = some c
def POk (ops : List Oper) (pl : List PS) : Pend → Prop
  | .val p _ => Apart ops pl p.o
  | .obj .. => True
def AgrO (ops : List Oper) (S0 S SF : Sl) (x : PS) : Prop := (Agr S SF x.o ∧ Bd ops x.o) ∨ ∃ t j z, x.o.op = .move (.tmp t) ∧ ops[j]? = some z ∧ z.dst = some t ∧ Reach ops j x.i ∧ S.get t = S0.get t
structure Fx (C : Ctx) (callF : CallF) (n : Nat) (ops : List Oper) (S0 SF : Sl) (H Bs : Nat → St) (K : Nat) (x : PS) (lo : Nat) (v : Value) (nm : Nat) : Prop where
  dst : ∀ d, x.o.dst = some d → SF.get d = some v ∧ d < n
  skip : wantedA ops SF x.o.guard = false → v = undefA ∧ (loudB x.ins = true → Bs (lo + 1) = H lo)
  still : wantedA ops SF x.o.guard = true → insCls x.ins = .still → ∀ k, lo ≤ k → k ≤ x.hi → k ≤ K → ∃ S, AgrO ops S0 S SF x ∧ insS C S x.o (H k) x.ins = some v
  alloc : wantedA ops SF x.o.guard = true → insCls x.ins = .alloc → ∃ c mk S, AgrO ops S0 S SF x ∧ insN C S x.o x.ins = some (c, mk) ∧ v = mk nm ∧ (Bs lo).heap.get nm = none ∧ ∀ k, lo ≤ k → k ≤ x.hi → k ≤ K → (H k).heap.get nm = some c
  loud : wantedA ops SF x.o.guard = true → insCls x.ins = .loud → ∃ S, AgrO ops S0 S SF x ∧ insL C callF S x.o (H lo) x.ins = some (v, Bs (lo + 1))
def AW (ops : List Oper) (SF : Sl) (x : PS) : Prop := insCls x.ins = .alloc ∧ wantedA ops SF x.o.guard = true
section
variable {C : Ctx} {callF : CallF} {n : Nat} {ops : List Oper}
theorem putA_get {s s1 : Sl} {d : Option Tmp} {v : Value} (h : putA n s d v = some s1) : (∀ t, d ≠ some t → s1.get t = s.get t) ∧ ∀ t, d = some t → s1.get t = some v ∧ t < n := by
  cases d with
  | none => simp only [putA, Option.some.injEq] at h; subst h; exact ⟨fun _ _ => rfl, fun t ht => by cases ht⟩
  | some d =>
    simp only [putA] at h
    cases hb : Nat.blt d n with
    | false => rw [hb] at h; cases h
    | true =>
      rw [hb] at h
      simp only [cond_true, Option.some.injEq] at h
      subst h
      exact ⟨fun t ht => by rw [get_set, if_neg (fun e => ht (by rw [e]))], fun t ht => by cases ht; rw [get_set, if_pos rfl]; exact ⟨rfl, Nat.le_of_ble_eq_true hb⟩⟩
theorem Agr.to {S s s1 : Sl} {o : Oper} {pl : List PS} (h : Agr S s o) (ha : Apart ops pl o) (hs : ∀ t, (∀ x ∈ pl, x.o.dst ≠ some t) → s1.get t = s.get t) : Agr S s1 o := by
  intro y hy
  rw [h y hy]
  cases y with
  | tmp t =>
    show ogetD (s.get t) = ogetD (s1.get t)
    rw [hs t fun x hx => (ha x hx).1 t hy]
  | _ => rfl
theorem Agr.refl (s : Sl) (o : Oper) : Agr s s o := fun _ _ => rfl
theorem PNow.to {s s1 : Sl} {st : St} {pl : List PS} {q : Pend} (h : PNow C s st q) (ho : POk ops pl q) (hs : ∀ t, (∀ x ∈ pl, x.o.dst ≠ some t) → s1.get t = s.get t) : PNow C s1 st q := by
  cases q with
  | val p v => obtain ⟨S, h1, h2⟩ := h; exact ⟨S, h1.to ho hs, h2⟩
  | obj h2 b c => exact h
theorem PNow.grow {s : Sl} {st st' : St} {q : Pend} (h : PNow C s st q) (hE : HE st st') : PNow C s st' q := by
  cases q with
  | val p v => obtain ⟨S, h1, h2⟩ := h; exact ⟨S, h1, insS_grow hE h2⟩
  | obj h2 b c => exact hE _ _ h
theorem PNow.ok {s : Sl} {st : St} {q : Pend} (h : Pend.ok C s st q = true) : PNow C s st q := by
  cases q with
  | val p v =>
    have h' : (match insS C s p.o st p.ins with | some u => valEq 4 u v | none => false) = true := h
    cases hi : insS C s p.o st p.ins with
    | none => rw [hi] at h'; cases h'
    | some u => rw [hi] at h'; rw [← valEq_eq 4 u v h']; exact ⟨s, Agr.refl _ _, hi⟩
  | obj h2 b c =>
    have h' : (match st.heap.get b with | some c' => celEq c' c | none => false) = true := h
    cases hi : st.heap.get b with
    | none => rw [hi] at h'; cases h'
    | some u => rw [hi] at h'; rw [← celEq_eq h']; exact hi
theorem POk.tail {p : PS} {pl : List PS} {q : Pend} (h : POk ops (p :: pl) q) : POk ops pl q := by
  cases q with
  | val => exact fun x hx => h x (List.mem_cons_of_mem _ hx)
  | obj => trivial
theorem POk.put {p : PS} {pl : List PS} {q : Pend} {s s1 : Sl} {st : St} {v : Value} (h : PNow C s st q) (ho : POk ops (p :: pl) q) (hp : putA n s p.o.dst v = some s1) : PNow C s1 st q :=
  h.to (pl := [p]) (by cases q with | val => exact fun x hx => ho x (by simp at hx; rw [hx]; exact List.mem_cons_self) | obj => trivial) fun t ht => (putA_get hp).1 t (ht p List.mem_cons_self)
theorem wanted_same {s s1 : Sl} {p : PS} {pl : List PS} (ha : Apart ops pl p.o) (hs : ∀ t, (∀ x ∈ pl, x.o.dst ≠ some t) → s1.get t = s.get t) : wantedA ops s1 p.o.guard = wantedA ops s p.o.guard := by
  cases hg : p.o.guard with
  | none => rfl
  | some jw =>
    obtain ⟨j, w⟩ := jw
    have : guardA ops s1 j = guardA ops s j := by
      unfold guardA
      rw [lget_eq]
      split
      · rename_i d _ _ _ _ _ hq
        rw [hs d fun x hx => (ha x hx).2 j w _ d hg hq rfl]
      · rfl
    simp only [wantedA, this]
theorem blind_same {s : Sl} {o : Oper} {i : Ins} (h : blind i = true) (st st' : St) : insS C s o st i = insS C s o st' i := by
  cases i <;> first | rfl | cases h
theorem loF_le : ∀ (pl : List PS) (k i : Nat), k ≤ loF pl k i
  | [], k, i => Nat.le_refl _
  | p :: pl, k, i => by
    unfold loF
    split
    · exact Nat.le_refl _
    · have := loF_le pl (cond (loudB p.ins) (k + 1) k) i
      cases hb : loudB p.ins <;> rw [hb] at this <;> simp only [cond_true, cond_false] at this ⊢ <;> omega
inductive Step1 (C : Ctx) (callF : CallF) (n : Nat) (ops : List Oper) (p : PS) (l : List PS) (s : Sl) (st : St) (k : Nat) (pend : List Pend) (r : Sl × St) : Prop
  | skip (s1 : Sl) (hw : wantedA ops s p.o.guard = false) (hp : putA n s p.o.dst undefA = some s1) (h : drawA C callF n ops l s1 st (cond (loudB p.ins) (k + 1) k) pend = some r)
  | still (v : Value) (s1 : Sl) (pend1 : List Pend) (hw : wantedA ops s p.o.guard = true) (hc : insCls p.ins = .still) (hi : insS C s p.o st p.ins = some v) (hp : putA n s p.o.dst v = some s1)
      (h1 : (pend1 = .val p v :: pend ∧ blind p.ins = false) ∨ (pend1 = pend ∧ (p.hi ≤ k ∨ blind p.ins = true))) (h : drawA C callF n ops l s1 st k pend1 = some r)
  | alloc (c : Cel) (mk : Nat → Value) (s1 : Sl) (pend1 : List Pend) (hw : wantedA ops s p.o.guard = true) (hc : insCls p.ins = .alloc) (hi : insN C s p.o p.ins = some (c, mk)) (hn : st.heap.get st.next = none) (hp : putA n s p.o.dst (mk st.next) = some s1)
      (h1 : (pend1 = .obj p.hi st.next c :: pend) ∨ (pend1 = pend ∧ p.hi ≤ k)) (h : drawA C callF n ops l s1 (st.new c) k pend1 = some r)
  | loud (v : Value) (st1 : St) (s1 : Sl) (hw : wantedA ops s p.o.guard = true) (hc : insCls p.ins = .loud) (hi : insL C callF s p.o st p.ins = some (v, st1)) (hp : putA n s p.o.dst v = some s1)
      (hq : ∀ q ∈ pend, k + 1 ≤ q.hi → Pend.ok C s1 st1 q = true) (h : drawA C callF n ops l s1 st1 (k + 1) (pend.filter fun q => Nat.ble (k + 1) q.hi) = some r)
theorem drawA_cons {p : PS} {l : List PS} {s : Sl} {st : St} {k : Nat} {pend : List Pend} {r : Sl × St} (h : drawA C callF n ops (p :: l) s st k pend = some r) : Step1 C callF n ops p l s st k pend r := by
  have h' : cond (wantedA ops s p.o.guard)
        (match insCls p.ins with
        | .still => (match insS C s p.o st p.ins with
          | some v => (match putA n s p.o.dst v with
            | some s' => drawA C callF n ops l s' st k (cond (Nat.blt k p.hi && not (blind p.ins)) (.val p v :: pend) pend)
            | none => none)
          | none => none)
        | .alloc => (match insN C s p.o p.ins, st.heap.get st.next with
          | some (c, mk), none => (match putA n s p.o.dst (mk st.next) with
            | some s' => drawA C callF n ops l s' (st.new c) k (cond (Nat.blt k p.hi) (.obj p.hi st.next c :: pend) pend)
            | none => none)
          | _, _ => none)
        | .loud => (match insL C callF s p.o st p.ins with
          | some (v, st') => (match putA n s p.o.dst v with
            | some s' => (match pend.filter fun q => Nat.ble (k + 1) q.hi with
              | [] => drawA C callF n ops l s' st' (k + 1) []
              | pend' => cond (lall (Pend.ok C s' st') pend') (drawA C callF n ops l s' st' (k + 1) pend') none)
            | none => none)
          | none => none))
        (match putA n s p.o.dst undefA with
        | some s' => drawA C callF n ops l s' st (match insCls p.ins with | .loud => k + 1 | _ => k) pend
        | none => none) = some r := h
  cases hw : wantedA ops s p.o.guard with
  | false =>
    rw [hw] at h'
    simp only [cond_false] at h'
    cases hp : putA n s p.o.dst undefA with
    | none => rw [hp] at h'; cases h'
    | some s1 =>
      rw [hp] at h'
      refine .skip s1 hw hp ?_
      unfold loudB
      cases hc : insCls p.ins <;> rw [hc] at h' <;> exact h'
  | true =>
    rw [hw] at h'
    simp only [cond_true] at h'
    cases hc : insCls p.ins with
    | still =>
      rw [hc] at h'
      simp only at h'
      cases hi : insS C s p.o st p.ins with
      | none => rw [hi] at h'; cases h'
      | some v =>
        rw [hi] at h'
        simp only at h'
        cases hp : putA n s p.o.dst v with
        | none => rw [hp] at h'; cases h'
        | some s1 =>
          rw [hp] at h'
          refine .still v s1 _ hw hc hi hp ?_ h'
          cases hb : Nat.blt k p.hi with
          | false => exact .inr ⟨rfl, .inl (by
            rcases Nat.lt_or_ge k p.hi with h9 | h9
            · have : Nat.blt k p.hi = true := Nat.ble_eq_true_of_le h9
              rw [hb] at this; cases this
            · exact h9)⟩
          | true =>
            cases hbl : blind p.ins with
            | false => exact .inl ⟨rfl, rfl⟩
            | true => exact .inr ⟨rfl, .inr rfl⟩
    | alloc =>
      rw [hc] at h'
      simp only at h'
      split at h'
      · rename_i c mk hi hn
        cases hp : putA n s p.o.dst (mk st.next) with
        | none => rw [hp] at h'; cases h'
        | some s1 =>
          rw [hp] at h'
          refine .alloc c mk s1 _ hw hc hi hn hp ?_ h'
          cases hb : Nat.blt k p.hi with
          | false => exact .inr ⟨rfl, by
            rcases Nat.lt_or_ge k p.hi with h9 | h9
            · have : Nat.blt k p.hi = true := Nat.ble_eq_true_of_le h9
              rw [hb] at this; cases this
            · exact h9⟩
          | true => exact .inl rfl
      · cases h'
    | loud =>
      rw [hc] at h'
      simp only at h'
      cases hi : insL C callF s p.o st p.ins with
      | none => rw [hi] at h'; cases h'
      | some vs =>
        obtain ⟨v, st1⟩ := vs
        rw [hi] at h'
        simp only at h'
        cases hp : putA n s p.o.dst v with
        | none => rw [hp] at h'; cases h'
        | some s1 =>
          rw [hp] at h'
          simp only at h'
          split at h'
          · rename_i hf
            refine .loud v st1 s1 hw hc hi hp (fun q hq hk => ?_) (by rw [hf]; exact h')
            have : q ∈ pend.filter fun q => Nat.ble (k + 1) q.hi := List.mem_filter.2 ⟨hq, Nat.ble_eq_true_of_le hk⟩
            rw [hf] at this
            cases this
          · cases hb : lall (Pend.ok C s1 st1) (pend.filter fun q => Nat.ble (k + 1) q.hi) with
            | false => rw [hb] at h'; cases h'
            | true =>
              rw [hb] at h'
              refine .loud v st1 s1 hw hc hi hp (fun q hq hk => ?_) h'
              rw [lall_eq, List.all_eq_true] at hb
              exact hb q (List.mem_filter.2 ⟨hq, Nat.ble_eq_true_of_le hk⟩)
end
end Go.Proofs.YtmcbcoafodmbjaaGreatDoor.Ex
namespace Go.Proofs.YtmcbcoafodmbjaaGreatDoor.Ex
open Go Go.RowKit
set_option linter.unusedVariables false
set_option linter.unusedSimpArgs false
section
variable {C : Ctx} {callF : CallF} {n : Nat} {ops : List Oper}
theorem Fx.congr {S0 SF : Sl} {H Bs H' Bs' : Nat → St} {K : Nat} {x : PS} {lo : Nat} {v : Value} {nm : Nat} (h : Fx C callF n ops S0 SF H Bs K x lo v nm) (hH : ∀ j, lo ≤ j → H' j = H j) (h1 : Bs' (lo + 1) = Bs (lo + 1)) (h0 : HE (Bs' lo) (Bs lo)) : Fx C callF n ops S0 SF H' Bs' K x lo v nm := by
  refine ⟨h.dst, fun hw => ⟨(h.skip hw).1, fun hl => by rw [h1, hH lo (Nat.le_refl _)]; exact (h.skip hw).2 hl⟩, fun hw hc k h1 h2 h3 => by rw [hH k h1]; exact h.still hw hc k h1 h2 h3, fun hw hc => ?_, fun hw hc => by rw [hH lo (Nat.le_refl _), h1]; exact h.loud hw hc⟩
  obtain ⟨c, mk, S, a1, a2, a3, a4, a5⟩ := h.alloc hw hc
  refine ⟨c, mk, S, a1, a2, a3, ?_, fun k h1 h2 h3 => by rw [hH k h1]; exact a5 k h1 h2 h3⟩
  cases hg : (Bs' lo).heap.get nm with
  | none => rfl
  | some u => have := h0 _ _ hg; rw [a4] at this; cases this
structure DF (C : Ctx) (callF : CallF) (n : Nat) (ops : List Oper) (pl : List PS) (S0 s s' : Sl) (st st' : St) (k : Nat) (pend : List Pend) (H Bs : Nat → St) (v : Nat → Value) (nm : Nat → Nat) : Prop where
  last : H (k + louds pl) = st'
  first : Bs k = st
  ge : ∀ j, k ≤ j → j ≤ k + louds pl → GE (Bs j) (H j)
  fx : ∀ x ∈ pl, Fx C callF n ops S0 s' H Bs (k + louds pl) x (loF pl k x.i) (v x.i) (nm x.i)
  far : ∀ t, (∀ x ∈ pl, x.o.dst ≠ some t) → s'.get t = s.get t
  held : ∀ q ∈ pend, ∀ j, k ≤ j → j ≤ q.hi → j ≤ k + louds pl → PNow C s' (H j) q
  new : ∀ x ∈ pl, AW ops s' x → loF pl k x.i = k → st.heap.get (nm x.i) = none
  unlike : ∀ x ∈ pl, AW ops s' x → ∀ h b c, Pend.obj h b c ∈ pend → loF pl k x.i ≤ h → nm x.i ≠ b
  two : ∀ x ∈ pl, ∀ y ∈ pl, AW ops s' x → AW ops s' y → x.i ≠ y.i → loF pl k x.i ≤ y.hi → loF pl k y.i ≤ x.hi → nm x.i ≠ nm y.i
theorem louds_cons (p : PS) (l : List PS) : louds (p :: l) = louds l + cond (loudB p.ins) 1 0 := by
  simp only [louds, List.countP_cons]
  cases loudB p.ins <;> simp
theorem far_cons {p : PS} {l : List PS} {s s1 s' : Sl} {u : Value} (hp : putA n s p.o.dst u = some s1) (h : ∀ t, (∀ x ∈ l, x.o.dst ≠ some t) → s'.get t = s1.get t) : ∀ t, (∀ x ∈ p :: l, x.o.dst ≠ some t) → s'.get t = s.get t := fun t ht => by
  rw [h t fun x hx => ht x (List.mem_cons_of_mem _ hx), (putA_get hp).1 t (ht p List.mem_cons_self)]
theorem DF.quiet {p : PS} {l : List PS} {S0 s s1 s' : Sl} {st st1 st' : St} {k : Nat} {pend pend1 : List Pend} {H Bs : Nat → St} {v : Nat → Value} {nm : Nat → Nat} {u : Value} {np : Nat} (h : DF C callF n ops l S0 s1 s' st1 st' k pend1 H Bs v nm)
    (hb : loudB p.ins = false) (hR : Rowed ops (p :: l)) (hp : putA n s p.o.dst u = some s1) (hge : GE st st1) (hpe : ∀ q ∈ pend, q ∈ pend1) (hpn : ∀ q ∈ pend, PNow C s st q)
    (hf : Fx C callF n ops S0 s' H (fun j => if j = k then st else Bs j) (k + louds l) p k u np) (hn : AW ops s' p → st.heap.get np = none) (h2 : AW ops s' p → ∀ y ∈ l, AW ops s' y → loF l k y.i ≤ p.hi → nm y.i ≠ np) :
    DF C callF n ops (p :: l) S0 s s' st st' k pend H (fun j => if j = k then st else Bs j) (fun i => if i = p.i then u else v i) (fun i => if i = p.i then np else nm i) := by
  obtain ⟨r1, r2, r3, r4⟩ := hR
  have hl : louds (p :: l) = louds l := by rw [louds_cons, hb]; rfl
  have hlo : ∀ x ∈ l, loF (p :: l) k x.i = loF l k x.i := fun x hx => by rw [loF_ne (r3 x hx), hb]; rfl
  have hv : ∀ x ∈ l, (if x.i = p.i then u else v x.i) = v x.i := fun x hx => if_neg (r3 x hx)
  have hm : ∀ x ∈ l, (if x.i = p.i then np else nm x.i) = nm x.i := fun x hx => if_neg (r3 x hx)
  have hnone : ∀ b, st1.heap.get b = none → st.heap.get b = none := fun b hb => by
    cases hg : st.heap.get b with
    | none => rfl
    | some c => have := hge.he _ _ hg; rw [hb] at this; cases this
  refine ⟨by rw [hl]; exact h.last, if_pos rfl, fun j h1 h2 => ?_, fun x hx => ?_, far_cons hp h.far, fun q hq j h1 h2 h3 => h.held q (hpe q hq) j h1 h2 (by rwa [hl] at h3), fun x hx ha hk => ?_, fun x hx ha hh b c hq hk => ?_, fun x hx y hy hax hay hne h3 h4 => ?_⟩
  · skip
    rw [hl] at h2
    split
    · rename_i e1
      subst e1
      have := h.ge j h1 h2
      rw [h.first] at this
      exact hge.trans this
    · exact h.ge j h1 h2
  · rw [hl]
    rcases List.mem_cons.1 hx with rfl | hx
    · simp only [if_true, loF_eq]; exact hf
    · skip
      rw [hlo x hx, hv x hx, hm x hx]
      have := loF_le l k x.i
      refine (h.fx x hx).congr (fun j _ => rfl) (by rw [if_neg (by omega)]) ?_
      split
      · rename_i e1; rw [e1, h.first]; exact hge.he
      · exact HE.refl _
  · rcases List.mem_cons.1 hx with rfl | hx
    · simp only [if_true]; exact hn ha
    · skip
      rw [hm x hx]
      rw [hlo x hx] at hk
      exact hnone _ (h.new x hx ha hk)
  · rcases List.mem_cons.1 hx with rfl | hx
    · simp only [if_true]
      intro e1
      have := hpn _ hq
      have h9 := hn ha
      rw [e1] at h9
      rw [show st.heap.get b = some c from this] at h9
      cases h9
    · skip
      rw [hm x hx]
      rw [hlo x hx] at hk
      exact h.unlike x hx ha hh b c (hpe _ hq) hk
  · rcases List.mem_cons.1 hx with rfl | hx1 <;> rcases List.mem_cons.1 hy with rfl | hy1
    · exact absurd rfl hne
    · simp only [if_true]
      rw [hm y hy1]
      rw [hlo y hy1] at h4
      exact fun e1 => h2 hax y hy1 hay h4 e1.symm
    · simp only [if_true]
      rw [hm x hx1]
      rw [hlo x hx1] at h3
      exact h2 hay x hx1 hax h3
    · skip
      rw [hm x hx1, hm y hy1]
      rw [hlo x hx1] at h3
      rw [hlo y hy1] at h4
      exact h.two x hx1 y hy1 hax hay hne h3 h4
theorem DF.loud {p : PS} {l : List PS} {S0 s s1 s' : Sl} {st st1 st' : St} {k : Nat} {pend pend1 : List Pend} {H Bs : Nat → St} {v : Nat → Value} {nm : Nat → Nat} {u : Value} (h : DF C callF n ops l S0 s1 s' st1 st' (k + 1) pend1 H Bs v nm)
    (hb : loudB p.ins = true) (hR : Rowed ops (p :: l)) (hp : putA n s p.o.dst u = some s1) (hpe : ∀ q ∈ pend, k + 1 ≤ q.hi → q ∈ pend1) (hpn : ∀ q ∈ pend, PNow C s st q) (hpo : ∀ q ∈ pend, POk ops (p :: l) q) (hna : insCls p.ins ≠ .alloc ∨ wantedA ops s' p.o.guard = false)
    (hf : Fx C callF n ops S0 s' (fun j => if j ≤ k then st else H j) (fun j => if j ≤ k then st else Bs j) (k + 1 + louds l) p k u 0) :
    DF C callF n ops (p :: l) S0 s s' st st' k pend (fun j => if j ≤ k then st else H j) (fun j => if j ≤ k then st else Bs j) (fun i => if i = p.i then u else v i) nm := by
  obtain ⟨r1, r2, r3, r4⟩ := hR
  have hl : k + louds (p :: l) = k + 1 + louds l := by rw [louds_cons, hb]; simp only [cond_true]; omega
  have hlo : ∀ x ∈ l, loF (p :: l) k x.i = loF l (k + 1) x.i := fun x hx => by rw [loF_ne (r3 x hx), hb]; rfl
  have hle : ∀ x ∈ l, k + 1 ≤ loF l (k + 1) x.i := fun x _ => loF_le _ _ _
  have hv : ∀ x ∈ l, (if x.i = p.i then u else v x.i) = v x.i := fun x hx => if_neg (r3 x hx)
  have hnot : ¬ AW ops s' p := fun ha => by
    rcases hna with h1 | h1
    · exact h1 ha.1
    · have := ha.2; rw [h1] at this; cases this
  have far := far_cons hp h.far
  refine ⟨by simp only [hl]; rw [if_neg (by omega)]; exact h.last, if_pos (Nat.le_refl _), fun j h1 h2 => ?_, fun x hx => ?_, far, fun q hq j h1 h2 h3 => ?_, fun x hx ha hk => ?_, fun x hx ha hh b c hq hk => ?_, fun x hx y hy hax hay hne h3 h4 => ?_⟩
  · skip
    split
    · exact .refl _
    · rw [hl] at h2; exact h.ge j (by omega) h2
  · rw [hl]
    rcases List.mem_cons.1 hx with rfl | hx
    · simp only [if_true, loF_eq]
      refine ⟨hf.dst, hf.skip, hf.still, fun hw hc => absurd ⟨hc, hw⟩ hnot, hf.loud⟩
    · skip
      rw [hlo x hx, hv x hx]
      have := hle x hx
      refine (h.fx x hx).congr (fun j hj => if_neg (by omega)) (by rw [if_neg (by omega)]) ?_
      rw [if_neg (by omega)]
      exact HE.refl _
  · skip
    split
    · exact (hpn q hq).to (hpo q hq) far
    · rw [hl] at h3; exact h.held q (hpe q hq (by omega)) j (by omega) h2 h3
  · rcases List.mem_cons.1 hx with rfl | hx
    · exact absurd ha hnot
    · rw [hlo x hx] at hk
      have := hle x hx
      omega
  · rcases List.mem_cons.1 hx with rfl | hx
    · exact absurd ha hnot
    · rw [hlo x hx] at hk
      have := hle x hx
      exact h.unlike x hx ha hh b c (hpe _ hq (by show k + 1 ≤ hh; omega)) hk
  · rcases List.mem_cons.1 hx with rfl | hx1 <;> rcases List.mem_cons.1 hy with rfl | hy1
    · exact absurd hax hnot
    · exact absurd hax hnot
    · exact absurd hay hnot
    · rw [hlo x hx1] at h3
      rw [hlo y hy1] at h4
      exact h.two x hx1 y hy1 hax hay hne h3 h4
theorem draw_facts {S0 s' : Sl} {st' : St} : ∀ (pl : List PS) (s : Sl) (st : St) (k : Nat) (pend : List Pend), drawA C callF n ops pl s st k pend = some (s', st') → Rowed ops pl → (∀ q ∈ pend, POk ops pl q) → (∀ q ∈ pend, PNow C s st q) → (∀ x ∈ pl, ∀ t, x.o.dst = some t → s.get t = S0.get t) →
    ∃ H Bs v nm, DF C callF n ops pl S0 s s' st st' k pend H Bs v nm
  | [], s, st, k, pend, h, hR, hpo, hpn, hs0 => by
    cases h
    exact ⟨fun _ => st', fun _ => st', fun _ => undefA, fun _ => 0, rfl, rfl, fun j _ _ => .refl _, fun x hx => (by cases hx), fun t _ => rfl, fun q hq j _ _ _ => hpn q hq, fun x hx => (by cases hx), fun x hx => (by cases hx), fun x hx => (by cases hx)⟩
  | p :: l, s, st, k, pend, h, hR, hpo, hpn, hs0 => by
    have hR' := hR
    obtain ⟨r1, r2, r3, r4⟩ := hR'
    have tl : ∀ q ∈ pend, POk ops l q := fun q hq => (hpo q hq).tail
    have hs1 : ∀ {u : Value} {s1 : Sl}, putA n s p.o.dst u = some s1 → ∀ x ∈ l, ∀ t, x.o.dst = some t → s1.get t = S0.get t := fun hp x hx t ht => by
      rw [(putA_get hp).1 t fun e1 => r2 t e1 x hx ht]
      exact hs0 x (List.mem_cons_of_mem _ hx) t ht
    have hsame : ∀ {s2 : Sl}, (∀ t, (∀ x ∈ p :: l, x.o.dst ≠ some t) → s2.get t = s.get t) → wantedA ops s2 p.o.guard = wantedA ops s p.o.guard := fun far => by
      rcases r1 with r1 | r1
      · exact wanted_same r1.1 far
      · rw [r1.1]; rfl
    have hago : ∀ {s2 : Sl}, (∀ t, (∀ x ∈ p :: l, x.o.dst ≠ some t) → s2.get t = s.get t) → AgrO ops S0 s s2 p := fun far => by
      rcases r1 with r1 | ⟨_, t, z, e1, e2, e3, e4, e5, e6⟩
      · exact .inl ⟨(Agr.refl s p.o).to r1.1 far, r1.2⟩
      · exact .inr ⟨t, z.i, z.o, e1, e5, e4, e6, hs0 z (List.mem_cons_of_mem _ e3) t e4⟩
    cases drawA_cons h with
    | skip s1 hw hp h1 =>
      have hn1 : ∀ q ∈ pend, PNow C s1 st q := fun q hq => POk.put (hpn q hq) (hpo q hq) hp
      obtain ⟨H, Bs, v, nm, hD⟩ := draw_facts l s1 st _ pend h1 r4 tl hn1 (hs1 hp)
      have far := far_cons hp hD.far
      have hws : wantedA ops s' p.o.guard = false := by rw [hsame far]; exact hw
      have hdst : ∀ d, p.o.dst = some d → s'.get d = some undefA ∧ d < n := fun d hd => by rw [hD.far d fun x hx => r2 d hd x hx]; exact (putA_get hp).2 d hd
      cases hb : loudB p.ins with
      | true =>
        rw [hb] at hD
        simp only [cond_true] at hD
        refine ⟨_, _, _, _, hD.loud (u := undefA) hb hR hp (fun q hq _ => hq) hpn hpo (.inr hws) ⟨hdst, fun _ => ⟨rfl, fun _ => ?_⟩, fun hw2 => ?_, fun hw2 => ?_, fun hw2 => ?_⟩⟩
        · simp only [Nat.le_refl, if_true]
          rw [if_neg (by omega)]
          exact hD.first
        all_goals (rw [hws] at hw2; cases hw2)
      | false =>
        rw [hb] at hD
        simp only [cond_false] at hD
        refine ⟨_, _, _, _, hD.quiet (u := undefA) (np := 0) hb hR hp (.refl _) (fun q hq => hq) hpn ⟨hdst, fun _ => ⟨rfl, fun hl => ?_⟩, fun hw2 => ?_, fun hw2 => ?_, fun hw2 => ?_⟩ (fun ha => ?_) (fun ha => ?_)⟩
        · rw [hb] at hl; cases hl
        iterate 3 (rw [hws] at hw2; cases hw2)
        all_goals (have := ha.2; rw [hws] at this; cases this)
    | still u s1 pend1 hw hc hi hp h0 h1 =>
      have hb : loudB p.ins = false := loudB_not (by rw [hc]; intro h; cases h)
      have hsub : ∀ q ∈ pend, q ∈ pend1 := by
        rcases h0 with ⟨rfl, _⟩ | ⟨rfl, _⟩
        · exact fun q hq => List.mem_cons_of_mem _ hq
        · exact fun q hq => hq
      have hmem : ∀ q ∈ pend1, (q = .val p u ∧ blind p.ins = false) ∨ q ∈ pend := by
        rcases h0 with ⟨rfl, hbl⟩ | ⟨rfl, _⟩
        · exact fun q hq => (List.mem_cons.1 hq).imp (fun h => ⟨h, hbl⟩) id
        · exact fun q hq => .inr hq
      have hapt : blind p.ins = false → Apart ops (p :: l) p.o := fun hbl => by
        rcases r1 with r1 | ⟨_, t, z, e1, e2, _⟩
        · exact r1.1
        · rw [e2] at hbl; cases hbl
      have hag : blind p.ins = false → Agr s s1 p.o := fun hbl => (Agr.refl s p.o).to (pl := [p]) (fun x hx => hapt hbl x (by simp at hx; rw [hx]; exact List.mem_cons_self)) fun t ht => (putA_get hp).1 t (ht p List.mem_cons_self)
      have hn1 : ∀ q ∈ pend1, PNow C s1 st q := fun q hq => by
        rcases hmem q hq with ⟨rfl, hbl⟩ | hq
        · exact ⟨s, hag hbl, hi⟩
        · exact POk.put (hpn q hq) (hpo q hq) hp
      have ho1 : ∀ q ∈ pend1, POk ops l q := fun q hq => by
        rcases hmem q hq with ⟨rfl, hbl⟩ | hq
        · exact fun x hx => hapt hbl x (List.mem_cons_of_mem _ hx)
        · exact tl q hq
      obtain ⟨H, Bs, v, nm, hD⟩ := draw_facts l s1 st k pend1 h1 r4 ho1 hn1 (hs1 hp)
      have far := far_cons hp hD.far
      have hws : wantedA ops s' p.o.guard = true := by rw [hsame far]; exact hw
      have hdst : ∀ d, p.o.dst = some d → s'.get d = some u ∧ d < n := fun d hd => by rw [hD.far d fun x hx => r2 d hd x hx]; exact (putA_get hp).2 d hd
      have hag2 := hago far
      have hgk : GE st (H k) := by have := hD.ge k (Nat.le_refl _) (by omega); rwa [hD.first] at this
      refine ⟨_, _, _, _, hD.quiet (u := u) (np := 0) hb hR hp (.refl _) hsub hpn ⟨hdst, fun hw2 => ?_, fun _ _ j h2 h3 h4 => ?_, fun _ hc2 => ?_, fun _ hc2 => ?_⟩ (fun ha => ?_) (fun ha => ?_)⟩
      · rw [hws] at hw2; cases hw2
      · rcases h0 with ⟨rfl, hbl⟩ | ⟨rfl, h0⟩
        · rcases r1 with r1 | ⟨_, t, z, e1, e2, _⟩
          · obtain ⟨S, g1, g2⟩ := hD.held _ List.mem_cons_self j h2 h3 h4
            exact ⟨S, .inl ⟨g1, r1.2⟩, g2⟩
          · rw [e2] at hbl; cases hbl
        · rcases h0 with h0 | h0
          · have : j = k := by omega
            subst this
            exact ⟨s, hag2, insS_grow hgk.he hi⟩
          · exact ⟨s, hag2, by rw [blind_same h0 (H j) st]; exact hi⟩
      · rw [hc] at hc2; cases hc2
      · rw [hc] at hc2; cases hc2
      all_goals (have := ha.1; rw [hc] at this; cases this)
    | alloc c mk s1 pend1 hw hc hi hno hp h0 h1 =>
      have hb : loudB p.ins = false := loudB_not (by rw [hc]; intro h; cases h)
      have hsub : ∀ q ∈ pend, q ∈ pend1 := by
        rcases h0 with rfl | ⟨rfl, _⟩
        · exact fun q hq => List.mem_cons_of_mem _ hq
        · exact fun q hq => hq
      have hmem : ∀ q ∈ pend1, q = .obj p.hi st.next c ∨ q ∈ pend := by
        rcases h0 with rfl | ⟨rfl, _⟩
        · exact fun q hq => List.mem_cons.1 hq
        · exact fun q hq => .inr hq
      have hself : (st.new c).heap.get st.next = some c := by simp [St.new, get_set]
      have hE := HE.new c hno
      have hn1 : ∀ q ∈ pend1, PNow C s1 (st.new c) q := fun q hq => by
        rcases hmem q hq with rfl | hq
        · exact hself
        · exact (POk.put (hpn q hq) (hpo q hq) hp).grow hE
      have ho1 : ∀ q ∈ pend1, POk ops l q := fun q hq => by
        rcases hmem q hq with rfl | hq
        · trivial
        · exact tl q hq
      obtain ⟨H, Bs, v, nm, hD⟩ := draw_facts l s1 (st.new c) k pend1 h1 r4 ho1 hn1 (hs1 hp)
      have far := far_cons hp hD.far
      have hws : wantedA ops s' p.o.guard = true := by rw [hsame far]; exact hw
      have hdst : ∀ d, p.o.dst = some d → s'.get d = some (mk st.next) ∧ d < n := fun d hd => by rw [hD.far d fun x hx => r2 d hd x hx]; exact (putA_get hp).2 d hd
      have hag2 := hago far
      have hgk : GE (st.new c) (H k) := by have := hD.ge k (Nat.le_refl _) (by omega); rwa [hD.first] at this
      refine ⟨_, _, _, _, hD.quiet (u := mk st.next) (np := st.next) hb hR hp (.new c hno (.refl _)) hsub hpn ⟨hdst, fun hw2 => ?_, fun _ hc2 => ?_, fun _ _ => ⟨c, mk, s, hag2, hi, rfl, ?_, fun j h2 h3 h4 => ?_⟩, fun _ hc2 => ?_⟩ (fun ha => hno) (fun ha y hy hay hly e1 => ?_)⟩
      · rw [hws] at hw2; cases hw2
      · rw [hc] at hc2; cases hc2
      · rw [if_pos rfl]; exact hno
      · rcases h0 with rfl | ⟨rfl, h0⟩
        · exact hD.held _ List.mem_cons_self j h2 h3 h4
        · have : j = k := by omega
          subst this
          exact hgk.he _ _ hself
      · rw [hc] at hc2; cases hc2
      · have hly2 := loF_le l k y.i
        by_cases hk : loF l k y.i = k
        · have := hD.new y hy hay hk
          rw [e1, hself] at this
          cases this
        · rcases h0 with rfl | ⟨rfl, h0⟩
          · exact hD.unlike y hy hay p.hi st.next c List.mem_cons_self hly e1
          · omega
    | loud u st1 s1 hw hc hi hp hq h1 =>
      have hb : loudB p.ins = true := loudB_cls hc
      have hmem : ∀ q ∈ pend.filter (fun q => Nat.ble (k + 1) q.hi), q ∈ pend ∧ k + 1 ≤ q.hi := fun q hq => by
        obtain ⟨h2, h3⟩ := List.mem_filter.1 hq
        exact ⟨h2, Nat.le_of_ble_eq_true h3⟩
      obtain ⟨H, Bs, v, nm, hD⟩ := draw_facts l s1 st1 (k + 1) _ h1 r4 (fun q hq2 => tl q (hmem q hq2).1) (fun q hq2 => PNow.ok (hq q (hmem q hq2).1 (hmem q hq2).2)) (hs1 hp)
      have far := far_cons hp hD.far
      have hws : wantedA ops s' p.o.guard = true := by rw [hsame far]; exact hw
      have hdst : ∀ d, p.o.dst = some d → s'.get d = some u ∧ d < n := fun d hd => by rw [hD.far d fun x hx => r2 d hd x hx]; exact (putA_get hp).2 d hd
      have hag2 := hago far
      refine ⟨_, _, _, _, hD.loud (u := u) hb hR hp (fun q hq2 h2 => List.mem_filter.2 ⟨hq2, Nat.ble_eq_true_of_le h2⟩) hpn hpo (.inl (by rw [hc]; intro h; cases h)) ⟨hdst, fun hw2 => ?_, fun _ hc2 => ?_, fun _ hc2 => ?_, fun _ _ => ⟨s, hag2, ?_⟩⟩⟩
      · rw [hws] at hw2; cases hw2
      · rw [hc] at hc2; cases hc2
      · rw [hc] at hc2; cases hc2
      · simp only [Nat.le_refl, if_true]
        rw [if_neg (by omega), hD.first]
        exact hi
end
end Go.Proofs.YtmcbcoafodmbjaaGreatDoor.Ex
