/-
  Texts joined: ExD2, ExD3.
-/
import Derived.Test.YtjjopoigbonjbaaGreatDoorJoin19
namespace Go.Proofs.YtjjopoigbonjbaaGreatDoor.Ex
open Go Go.RowKit
set_option linter.unusedVariables false
set_option linter.unusedSimpArgs false
/-! ## More names -/
def HE (st st' : St) : Prop := ∀ b c, st.heap.get b = some c → st'.heap.get b = some c
theorem HE.refl (st : St) : HE st st := fun _ _ h => h
theorem HE.trans {a b c : St} (h : HE a b) (k : HE b c) : HE a c := fun x y hx => k _ _ (h _ _ hx)
inductive GE : St → St → Prop
  | refl (st : St) : GE st st
  | new {st st' : St} (c : Cel) (h : st.heap.get st.next = none) (k : GE (st.new c) st') : GE st st'
theorem HE.new {st : St} (c : Cel) (h : st.heap.get st.next = none) : HE st (st.new c) := fun b c2 hb => by
  simp only [St.new, get_set]
  rw [if_neg (fun e => by subst e; rw [h] at hb; cases hb)]
  exact hb
theorem GE.he {st st' : St} (h : GE st st') : HE st st' := by
  induction h with
  | refl st => exact HE.refl st
  | new c h k ih => exact (HE.new c h).trans ih
theorem GE.trans {a b c : St} (h : GE a b) (k : GE b c) : GE a c := by
  induction h with
  | refl st => exact k
  | new c h _ ih => exact .new c h (ih k)
theorem Rel.ghosts {C : Ctx} {B : Nat} {w0 : World} {e : Env} {w : World} {st st' : St} (hR : Rel C B w0 e st w) (h : GE st st') : Rel C B w0 e st' w := by
  induction h with
  | refl st => exact hR
  | new c h k ih => exact ih (hR.ghost c)
section
variable {C : Ctx} {s : Sl} {o : Oper} {st st' : St} {i : Ins} {v : Value}
theorem cell?_grow (hE : HE st st') {b off : Nat} (h : st.cell? b off = some v) : st'.cell? b off = some v := by
  unfold St.cell? at h ⊢
  split at h
  · rename_i hg; rw [hE _ _ hg]; exact h
  · cases h
theorem cells?_grow (hE : HE st st') {b off n : Nat} {l : List Value} (h : st.cells? b off n = some l) : st'.cells? b off n = some l := by
  unfold St.cells? at h ⊢
  split at h
  · rename_i hg; rw [hE _ _ hg]; exact h
  · cases h
theorem kindOf_grow (hE : HE st st') {b : Nat} {k : Knd} (h : st.kindOf b = some k) : st'.kindOf b = some k := by
  unfold St.kindOf at h ⊢
  split at h
  · rename_i hg; rw [hE _ _ hg]; exact h
  · cases h
theorem map?_grow (hE : HE st st') {b : Nat} {x : List MapEntry × Nat} (h : st.map? b = some x) : st'.map? b = some x := by
  unfold St.map? at h ⊢
  split at h
  · rename_i hg; rw [hE _ _ hg]; exact h
  · cases h
theorem iLoad_grow (hE : HE st st') {x : Value} (h : iLoad st x = some v) : iLoad st' x = some v := by
  unfold iLoad at h ⊢
  split at h
  · exact cell?_grow hE h
  · cases h
theorem iLoads_grow (hE : HE st st') {n : Nat} {x : Value} (h : iLoads st n x = some v) : iLoads st' n x = some v := by
  unfold iLoads at h ⊢
  split at h
  · split at h
    · rename_i hl; simp only [cells?_grow hE hl]; exact h
    · cases h
  · cases h
theorem iSlice_grow (hE : HE st st') {z : Nat} {x : Value} {lo hi : Option Operand} (h : iSlice s st z x lo hi = some v) : iSlice s st' z x lo hi = some v := by
  unfold iSlice at h ⊢
  split at h
  · split at h
    · rename_i h1 h2 h3; simp only [h1, h2, kindOf_grow hE h3]; exact h
    · cases h
  · exact h
  · cases h
theorem iSlice3_grow (hE : HE st st') {z : Nat} {x : Value} {lo : Option Operand} {hi mx : Operand} (h : iSlice3 s st z x lo hi mx = some v) : iSlice3 s st' z x lo hi mx = some v := by
  unfold iSlice3 at h ⊢
  split at h
  · split at h
    · rename_i h1 h2 h3 h4; simp only [h1, h2, h3, kindOf_grow hE h4]; exact h
    · cases h
  · exact h
  · cases h
theorem iSlicP_grow (hE : HE st st') {n z : Nat} {x : Value} {lo hi : Option Operand} (h : iSlicP s st n z x lo hi = some v) : iSlicP s st' n z x lo hi = some v := by
  unfold iSlicP at h ⊢
  split at h
  · split at h
    · rename_i h1 h2 h3; simp only [h1, h2, kindOf_grow hE h3]; exact h
    · cases h
  · cases h
theorem iCap_grow (hE : HE st st') {x : Value} (h : iCap st x = some v) : iCap st' x = some v := by
  unfold iCap at h ⊢
  split at h
  · exact h
  · split at h
    · rename_i h1; simp only [kindOf_grow hE h1]; exact h
    · cases h
  · cases h
theorem iLookup_grow (hE : HE st st') {kk : KK} {ok : Bool} {z m k : Value} (h : iLookup st kk ok z m k = some v) : iLookup st' kk ok z m k = some v := by
  unfold iLookup at h ⊢
  split at h
  · exact h
  · split at h
    · rename_i h1; simp only [map?_grow hE h1]; exact h
    · cases h
  · cases h
theorem iMapLen_grow (hE : HE st st') {m : Value} (h : iMapLen st m = some v) : iMapLen st' m = some v := by
  unfold iMapLen at h ⊢
  split at h
  · exact h
  · split at h
    · rename_i h1; simp only [map?_grow hE h1]; exact h
    · cases h
  · cases h
theorem iToStr_grow (hE : HE st st') {x : Value} (h : iToStr st x = some v) : iToStr st' x = some v := by
  unfold iToStr at h ⊢
  split at h
  · exact h
  · exact h
  · split at h
    · rename_i hl; simp only [cells?_grow hE hl]; exact h
    · cases h
  · cases h
theorem insS_grow (hE : HE st st') (h : insS C s o st i = some v) : insS C s o st' i = some v := by
  cases i
  case load x => exact iLoad_grow hE h
  case loads n x => exact iLoads_grow hE h
  case slice z x lo hi => exact iSlice_grow hE h
  case slice3 z x lo hi mx => exact iSlice3_grow hE h
  case slicP n z x lo hi => exact iSlicP_grow hE h
  case cap x => exact iCap_grow hE h
  case lookup kk ok z m k => exact iLookup_grow hE h
  case mapLen m => exact iMapLen_grow hE h
  case toStr x => exact iToStr_grow hE h
  all_goals exact h
end
/-! ## The same values -/
theorem addrEq_eq {a b : Addr} (h : addrEq a b = true) : a = b := by
  obtain ⟨x, p, i⟩ := a
  obtain ⟨y, q, j⟩ := b
  simp only [addrEq, Bool.and_eq_true] at h
  obtain ⟨⟨h1, h2⟩, h3⟩ := h
  rw [Nat.eq_of_beq_eq_true h1, Nat.eq_of_beq_eq_true h2]
  cases i <;> cases j <;> simp at h3
  · rfl
  · rw [h3]
theorem valEqs_eq {f : Value → Value → Bool} (hf : ∀ v w, f v w = true → v = w) : ∀ l m : List Value, valEqs f l m = true → l = m
  | [], [], _ => rfl
  | [], _ :: _, h => by cases h
  | _ :: _, [], h => by cases h
  | x :: l, y :: m, h => by
    have h' : cond (f x y) (valEqs f l m) false = true := h
    cases hb : f x y <;> rw [hb] at h'
    · cases h'
    · rw [hf _ _ hb, valEqs_eq hf l m h']
theorem valEq_eq : ∀ (n : Nat) (v w : Value), valEq n v w = true → v = w
  | 0, v, w, h => by cases h
  | n + 1, v, w, h => by
    have ih := valEq_eq n
    have h' : (match (generalizing := false) v, w with
      | .bool a, .bool b => cond a b (not b)
      | .int j a, .int k b => ikeq j k && ieq a b
      | .string a, .string b => a.data.toList == b.data.toList
      | .pointer none, .pointer none => true
      | .pointer (some a), .pointer (some b) => addrEq a b
      | .slice none n c, .slice none m d => Nat.beq n m && Nat.beq c d
      | .slice (some ⟨x, p, i⟩) n c, .slice (some ⟨y, q, j⟩) m d => addrEq ⟨x, p, i⟩ ⟨y, q, j⟩ && Nat.beq n m && Nat.beq c d && (match (generalizing := false) i with | some 2 => false | _ => true)
      | .map none, .map none => true
      | .map (some a), .map (some b) => Nat.beq a b
      | .nilFunc, .nilFunc => true
      | .nilIface, .nilIface => true
      | .iface t v, .iface u w => Nat.beq t u && valEq n v w
      | .agg ⟨l⟩, .agg ⟨m⟩ => valEqs (valEq n) l m
      | .tuple ⟨l⟩, .tuple ⟨m⟩ => valEqs (valEq n) l m
      | _, _ => false) = true := h
    split at h'
    · rename_i a b; cases a <;> cases b <;> first | rfl | exact absurd h' (by simp)
    · rename_i j a k b
      simp only [Bool.and_eq_true] at h'
      rw [ikeq_eq h'.1]
      have := h'.2
      rw [ieq_eq] at this
      simp at this
      rw [this]
    · rename_i a b
      have h2 : a.data.toList = b.data.toList := by simpa using h'
      have h3 : a.data = b.data := Array.ext' h2
      cases a; cases b
      simp only at h3
      rw [h3]
    · rfl
    · rw [addrEq_eq h']
    · simp only [Bool.and_eq_true] at h'
      rw [Nat.eq_of_beq_eq_true h'.1, Nat.eq_of_beq_eq_true h'.2]
    · simp only [Bool.and_eq_true] at h'
      rw [addrEq_eq h'.1.1.1, Nat.eq_of_beq_eq_true h'.1.1.2, Nat.eq_of_beq_eq_true h'.1.2]
    · rfl
    · rw [Nat.eq_of_beq_eq_true h']
    · rfl
    · rfl
    · simp only [Bool.and_eq_true] at h'
      rw [Nat.eq_of_beq_eq_true h'.1, ih _ _ h'.2]
    · rw [valEqs_eq ih _ _ h']
    · rw [valEqs_eq ih _ _ h']
    · cases h'
theorem celEq_eq {a b : Cel} (h : celEq a b = true) : a = b := by
  unfold celEq at h
  split at h
  · simp only [Bool.and_eq_true] at h
    rw [Nat.eq_of_beq_eq_true h.1, valEqs_eq (valEq_eq 3) _ _ h.2]
  · simp only [Bool.and_eq_true] at h
    rw [Nat.eq_of_beq_eq_true h.1, valEqs_eq (valEq_eq 3) _ _ h.2]
  · rw [Nat.eq_of_beq_eq_true h]
  · cases h
end Go.Proofs.YtjjopoigbonjbaaGreatDoor.Ex
namespace Go.Proofs.YtjjopoigbonjbaaGreatDoor.Ex
open Go Go.RowKit
set_option linter.unusedVariables false
set_option linter.unusedSimpArgs false
def Agr (S SF : Sl) (o : Oper) : Prop := ∀ y ∈ o.op.operands.toList, evA S y = evA SF y
/-- What is kept in mind holds here. -/
def PNow (C : Ctx) (SF : Sl) (st : St) : Pend → Prop
  | .val p v => ∃ S, Agr S SF p.o ∧ insS C S p.o st p.ins = some v
  | .obj _ b c => st.heap.get b = some c
/-- Nobody writes what it reads. -/
def POk (ops : List Oper) (pl : List PS) : Pend → Prop
  | .val p _ => Apart ops pl p.o
  | .obj .. => True
/-- What it reads is as it is in the end; or a variable is read as it was at first. -/
def AgrO (ops : List Oper) (S0 S SF : Sl) (x : PS) : Prop := (Agr S SF x.o ∧ Bd ops x.o) ∨ ∃ t j z, x.o.op = .move (.tmp t) ∧ ops[j]? = some z ∧ z.dst = some t ∧ Reach ops j x.i ∧ S.get t = S0.get t
structure Fx (C : Ctx) (callF : CallF) (n : Nat) (ops : List Oper) (S0 SF : Sl) (H Bs : Nat → St) (K : Nat) (x : PS) (lo : Nat) (v : Value) (nm : Nat) : Prop where
  dst : ∀ d, x.o.dst = some d → SF.get d = some v ∧ d < n
  skip : wantedA ops SF x.o.guard = false → v = undefA ∧ (loudB x.ins = true → Bs (lo + 1) = H lo)
  still : wantedA ops SF x.o.guard = true → insCls x.ins = .still → ∀ k, lo ≤ k → k ≤ x.hi → k ≤ K → ∃ S, AgrO ops S0 S SF x ∧ insS C S x.o (H k) x.ins = some v
  alloc : wantedA ops SF x.o.guard = true → insCls x.ins = .alloc → ∃ c mk S, AgrO ops S0 S SF x ∧ insN C S x.o x.ins = some (c, mk) ∧ v = mk nm ∧ (Bs lo).heap.get nm = none ∧ ∀ k, lo ≤ k → k ≤ x.hi → k ≤ K → (H k).heap.get nm = some c
  loud : wantedA ops SF x.o.guard = true → insCls x.ins = .loud → ∃ S, AgrO ops S0 S SF x ∧ insL C callF S x.o (H lo) x.ins = some (v, Bs (lo + 1))
/-- An allocation that runs. -/
def AW (ops : List Oper) (SF : Sl) (x : PS) : Prop := insCls x.ins = .alloc ∧ wantedA ops SF x.o.guard = true
section
variable {C : Ctx} {callF : CallF} {n : Nat} {ops : List Oper}
theorem putA_get {s s1 : Sl} {d : Option Tmp} {v : Value} (h : putA n s d v = some s1) : (∀ t, d ≠ some t → s1.get t = s.get t) ∧ ∀ t, d = some t → s1.get t = some v ∧ t < n := by
  cases d with
  | none => simp only [putA, Option.some.injEq] at h; subst h; exact ⟨fun _ _ => rfl, fun t ht => by cases ht⟩
  | some d =>
    simp only [putA] at h
    cases hb : Nat.blt d n with
    | false => rw [hb] at h; cases h
    | true =>
      rw [hb] at h
      simp only [cond_true, Option.some.injEq] at h
      subst h
      exact ⟨fun t ht => by rw [get_set, if_neg (fun e => ht (by rw [e]))], fun t ht => by cases ht; rw [get_set, if_pos rfl]; exact ⟨rfl, Nat.le_of_ble_eq_true hb⟩⟩
theorem Agr.to {S s s1 : Sl} {o : Oper} {pl : List PS} (h : Agr S s o) (ha : Apart ops pl o) (hs : ∀ t, (∀ x ∈ pl, x.o.dst ≠ some t) → s1.get t = s.get t) : Agr S s1 o := by
  intro y hy
  rw [h y hy]
  cases y with
  | tmp t =>
    show ogetD (s.get t) = ogetD (s1.get t)
    rw [hs t fun x hx => (ha x hx).1 t hy]
  | _ => rfl
theorem Agr.refl (s : Sl) (o : Oper) : Agr s s o := fun _ _ => rfl
theorem PNow.to {s s1 : Sl} {st : St} {pl : List PS} {q : Pend} (h : PNow C s st q) (ho : POk ops pl q) (hs : ∀ t, (∀ x ∈ pl, x.o.dst ≠ some t) → s1.get t = s.get t) : PNow C s1 st q := by
  cases q with
  | val p v => obtain ⟨S, h1, h2⟩ := h; exact ⟨S, h1.to ho hs, h2⟩
  | obj h2 b c => exact h
theorem PNow.grow {s : Sl} {st st' : St} {q : Pend} (h : PNow C s st q) (hE : HE st st') : PNow C s st' q := by
  cases q with
  | val p v => obtain ⟨S, h1, h2⟩ := h; exact ⟨S, h1, insS_grow hE h2⟩
  | obj h2 b c => exact hE _ _ h
theorem PNow.ok {s : Sl} {st : St} {q : Pend} (h : Pend.ok C s st q = true) : PNow C s st q := by
  cases q with
  | val p v =>
    have h' : (match insS C s p.o st p.ins with | some u => valEq 4 u v | none => false) = true := h
    cases hi : insS C s p.o st p.ins with
    | none => rw [hi] at h'; cases h'
    | some u => rw [hi] at h'; rw [← valEq_eq 4 u v h']; exact ⟨s, Agr.refl _ _, hi⟩
  | obj h2 b c =>
    have h' : (match st.heap.get b with | some c' => celEq c' c | none => false) = true := h
    cases hi : st.heap.get b with
    | none => rw [hi] at h'; cases h'
    | some u => rw [hi] at h'; rw [← celEq_eq h']; exact hi
theorem POk.tail {p : PS} {pl : List PS} {q : Pend} (h : POk ops (p :: pl) q) : POk ops pl q := by
  cases q with
  | val => exact fun x hx => h x (List.mem_cons_of_mem _ hx)
  | obj => trivial
theorem POk.put {p : PS} {pl : List PS} {q : Pend} {s s1 : Sl} {st : St} {v : Value} (h : PNow C s st q) (ho : POk ops (p :: pl) q) (hp : putA n s p.o.dst v = some s1) : PNow C s1 st q :=
  h.to (pl := [p]) (by cases q with | val => exact fun x hx => ho x (by simp at hx; rw [hx]; exact List.mem_cons_self) | obj => trivial) fun t ht => (putA_get hp).1 t (ht p List.mem_cons_self)
theorem wanted_same {s s1 : Sl} {p : PS} {pl : List PS} (ha : Apart ops pl p.o) (hs : ∀ t, (∀ x ∈ pl, x.o.dst ≠ some t) → s1.get t = s.get t) : wantedA ops s1 p.o.guard = wantedA ops s p.o.guard := by
  cases hg : p.o.guard with
  | none => rfl
  | some jw =>
    obtain ⟨j, w⟩ := jw
    have : guardA ops s1 j = guardA ops s j := by
      unfold guardA
      rw [lget_eq]
      split
      · rename_i d _ _ _ _ _ hq
        rw [hs d fun x hx => (ha x hx).2 j w _ d hg hq rfl]
      · rfl
    simp only [wantedA, this]
theorem blind_same {s : Sl} {o : Oper} {i : Ins} (h : blind i = true) (st st' : St) : insS C s o st i = insS C s o st' i := by
  cases i <;> first | rfl | cases h
theorem loF_le : ∀ (pl : List PS) (k i : Nat), k ≤ loF pl k i
  | [], k, i => Nat.le_refl _
  | p :: pl, k, i => by
    unfold loF
    split
    · exact Nat.le_refl _
    · have := loF_le pl (cond (loudB p.ins) (k + 1) k) i
      cases hb : loudB p.ins <;> rw [hb] at this <;> simp only [cond_true, cond_false] at this ⊢ <;> omega
/-- The run of a plan, its first operation. -/
inductive Step1 (C : Ctx) (callF : CallF) (n : Nat) (ops : List Oper) (p : PS) (l : List PS) (s : Sl) (st : St) (k : Nat) (pend : List Pend) (r : Sl × St) : Prop
  | skip (s1 : Sl) (hw : wantedA ops s p.o.guard = false) (hp : putA n s p.o.dst undefA = some s1) (h : drawA C callF n ops l s1 st (cond (loudB p.ins) (k + 1) k) pend = some r)
  | still (v : Value) (s1 : Sl) (pend1 : List Pend) (hw : wantedA ops s p.o.guard = true) (hc : insCls p.ins = .still) (hi : insS C s p.o st p.ins = some v) (hp : putA n s p.o.dst v = some s1)
      (h1 : (pend1 = .val p v :: pend ∧ blind p.ins = false) ∨ (pend1 = pend ∧ (p.hi ≤ k ∨ blind p.ins = true))) (h : drawA C callF n ops l s1 st k pend1 = some r)
  | alloc (c : Cel) (mk : Nat → Value) (s1 : Sl) (pend1 : List Pend) (hw : wantedA ops s p.o.guard = true) (hc : insCls p.ins = .alloc) (hi : insN C s p.o p.ins = some (c, mk)) (hn : st.heap.get st.next = none) (hp : putA n s p.o.dst (mk st.next) = some s1)
      (h1 : (pend1 = .obj p.hi st.next c :: pend) ∨ (pend1 = pend ∧ p.hi ≤ k)) (h : drawA C callF n ops l s1 (st.new c) k pend1 = some r)
  | loud (v : Value) (st1 : St) (s1 : Sl) (hw : wantedA ops s p.o.guard = true) (hc : insCls p.ins = .loud) (hi : insL C callF s p.o st p.ins = some (v, st1)) (hp : putA n s p.o.dst v = some s1)
      (hq : ∀ q ∈ pend, k + 1 ≤ q.hi → Pend.ok C s1 st1 q = true) (h : drawA C callF n ops l s1 st1 (k + 1) (pend.filter fun q => Nat.ble (k + 1) q.hi) = some r)
theorem drawA_cons {p : PS} {l : List PS} {s : Sl} {st : St} {k : Nat} {pend : List Pend} {r : Sl × St} (h : drawA C callF n ops (p :: l) s st k pend = some r) : Step1 C callF n ops p l s st k pend r := by
  have h' : cond (wantedA ops s p.o.guard)
        (match insCls p.ins with
        | .still => (match insS C s p.o st p.ins with
          | some v => (match putA n s p.o.dst v with
            | some s' => drawA C callF n ops l s' st k (cond (Nat.blt k p.hi && not (blind p.ins)) (.val p v :: pend) pend)
            | none => none)
          | none => none)
        | .alloc => (match insN C s p.o p.ins, st.heap.get st.next with
          | some (c, mk), none => (match putA n s p.o.dst (mk st.next) with
            | some s' => drawA C callF n ops l s' (st.new c) k (cond (Nat.blt k p.hi) (.obj p.hi st.next c :: pend) pend)
            | none => none)
          | _, _ => none)
        | .loud => (match insL C callF s p.o st p.ins with
          | some (v, st') => (match putA n s p.o.dst v with
            | some s' => (match pend.filter fun q => Nat.ble (k + 1) q.hi with
              | [] => drawA C callF n ops l s' st' (k + 1) []
              | pend' => cond (lall (Pend.ok C s' st') pend') (drawA C callF n ops l s' st' (k + 1) pend') none)
            | none => none)
          | none => none))
        (match putA n s p.o.dst undefA with
        | some s' => drawA C callF n ops l s' st (match insCls p.ins with | .loud => k + 1 | _ => k) pend
        | none => none) = some r := h
  cases hw : wantedA ops s p.o.guard with
  | false =>
    rw [hw] at h'
    simp only [cond_false] at h'
    cases hp : putA n s p.o.dst undefA with
    | none => rw [hp] at h'; cases h'
    | some s1 =>
      rw [hp] at h'
      refine .skip s1 hw hp ?_
      unfold loudB
      cases hc : insCls p.ins <;> rw [hc] at h' <;> exact h'
  | true =>
    rw [hw] at h'
    simp only [cond_true] at h'
    cases hc : insCls p.ins with
    | still =>
      rw [hc] at h'
      simp only at h'
      cases hi : insS C s p.o st p.ins with
      | none => rw [hi] at h'; cases h'
      | some v =>
        rw [hi] at h'
        simp only at h'
        cases hp : putA n s p.o.dst v with
        | none => rw [hp] at h'; cases h'
        | some s1 =>
          rw [hp] at h'
          refine .still v s1 _ hw hc hi hp ?_ h'
          cases hb : Nat.blt k p.hi with
          | false => exact .inr ⟨rfl, .inl (by
            rcases Nat.lt_or_ge k p.hi with h9 | h9
            · have : Nat.blt k p.hi = true := Nat.ble_eq_true_of_le h9
              rw [hb] at this; cases this
            · exact h9)⟩
          | true =>
            cases hbl : blind p.ins with
            | false => exact .inl ⟨rfl, rfl⟩
            | true => exact .inr ⟨rfl, .inr rfl⟩
    | alloc =>
      rw [hc] at h'
      simp only at h'
      split at h'
      · rename_i c mk hi hn
        cases hp : putA n s p.o.dst (mk st.next) with
        | none => rw [hp] at h'; cases h'
        | some s1 =>
          rw [hp] at h'
          refine .alloc c mk s1 _ hw hc hi hn hp ?_ h'
          cases hb : Nat.blt k p.hi with
          | false => exact .inr ⟨rfl, by
            rcases Nat.lt_or_ge k p.hi with h9 | h9
            · have : Nat.blt k p.hi = true := Nat.ble_eq_true_of_le h9
              rw [hb] at this; cases this
            · exact h9⟩
          | true => exact .inl rfl
      · cases h'
    | loud =>
      rw [hc] at h'
      simp only at h'
      cases hi : insL C callF s p.o st p.ins with
      | none => rw [hi] at h'; cases h'
      | some vs =>
        obtain ⟨v, st1⟩ := vs
        rw [hi] at h'
        simp only at h'
        cases hp : putA n s p.o.dst v with
        | none => rw [hp] at h'; cases h'
        | some s1 =>
          rw [hp] at h'
          simp only at h'
          split at h'
          · rename_i hf
            refine .loud v st1 s1 hw hc hi hp (fun q hq hk => ?_) (by rw [hf]; exact h')
            have : q ∈ pend.filter fun q => Nat.ble (k + 1) q.hi := List.mem_filter.2 ⟨hq, Nat.ble_eq_true_of_le hk⟩
            rw [hf] at this
            cases this
          · cases hb : lall (Pend.ok C s1 st1) (pend.filter fun q => Nat.ble (k + 1) q.hi) with
            | false => rw [hb] at h'; cases h'
            | true =>
              rw [hb] at h'
              refine .loud v st1 s1 hw hc hi hp (fun q hq hk => ?_) h'
              rw [lall_eq, List.all_eq_true] at hb
              exact hb q (List.mem_filter.2 ⟨hq, Nat.ble_eq_true_of_le hk⟩)
end
end Go.Proofs.YtjjopoigbonjbaaGreatDoor.Ex
