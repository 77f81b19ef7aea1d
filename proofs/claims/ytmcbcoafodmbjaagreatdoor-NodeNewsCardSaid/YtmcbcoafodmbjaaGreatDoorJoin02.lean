/-
  Texts joined: Ord, Any.
-/
import Derived.Test.YtmcbcoafodmbjaaGreatDoorJoin01
namespace Go.Proofs.YtmcbcoafodmbjaaGreatDoor
open Go.RowKit
set_option linter.unusedVariables false
variable {ro : Option Nat} {ds : List Deferred}
def bindsTo (o : Oper) (j : Nat) : Bool := o.after.any fun e => Region.binds .any e && e.on == j
def isSelect : Op → Bool
  | .select _ _ => true
  | _ => false
def ordB (ops : Array Oper) : Bool :=
  (List.range ops.size).all fun i => match ops[i]? with
    | none => true
    | some o => !isSelect o.op && (o.after.all fun e => !Region.binds .any e || decide (e.on < i)) &&
      (List.range ops.size).all fun j => match ops[j]? with
        | none => true
        | some p => match p.dst with
          | none => true
          | some d => (!(o.looksAt ops).contains d || bindsTo o j) && (j == i || o.dst != some d)
def putAll (n : Nat) : List Oper → List Value → Slots → Slots
  | o :: l, v :: vs, s => putAll n l vs (put n s o.dst v)
  | _, _, s => s
def oneE (P : Program) (ops : Array Oper) (R : World → Prop) (s : Slots) (o : Oper) (v : Value) : Prop :=
  match o.guard with
  | none => ∀ w, R w → resE P (opR P o s w) fun u w' => u = v ∧ R w'
  | some (j, want) =>
    match guardS ops s j with
    | .bool b => if b == want then ∀ w, R w → resE P (opR P { o with guard := none } s w) fun u w' => u = v ∧ R w' else v = undef
    | _ => v = undef
def eachE (P : Program) (ops : Array Oper) (R : World → Prop) (s : Slots) : List Oper → List Value → Prop
  | o :: l, v :: vs => oneE P ops R s o v ∧ eachE P ops R s l vs
  | [], [] => True
  | _, _ => False
theorem ordB_at {ops : Array Oper} (h : ordB ops = true) {i : Nat} {o : Oper} (hi : ops[i]? = some o) :
    (∀ cs b, o.op ≠ .select cs b) ∧ (∀ e ∈ o.after, Region.binds .any e = true → e.on < i) ∧
    ∀ (j : Nat) (p : Oper) (d : Tmp), ops[j]? = some p → p.dst = some d → (d ∈ o.looksAt ops → ∃ e ∈ o.after, Region.binds .any e = true ∧ e.on = j) ∧ (j ≠ i → o.dst ≠ some d) := by
  have hlt : i < ops.size := (Array.getElem?_eq_some_iff.1 hi).1
  unfold ordB at h
  rw [List.all_eq_true] at h
  have h1 := h i (List.mem_range.2 hlt)
  simp only [hi, Bool.and_eq_true] at h1
  obtain ⟨⟨h1, h2⟩, h3⟩ := h1
  refine ⟨(fun cs b e => by rw [e] at h1; cases h1), fun e he hb => ?_, fun j p d hj hd => ?_⟩
  · have := Array.all_eq_true_iff_forall_mem.1 h2 e he
    simp [hb] at this; exact this
  · rw [List.all_eq_true] at h3
    have h4 := h3 j (List.mem_range.2 (Array.getElem?_eq_some_iff.1 hj).1)
    simp only [hj, hd, Bool.and_eq_true, Bool.or_eq_true] at h4
    obtain ⟨h4, h5⟩ := h4
    refine ⟨fun hm => ?_, fun hne => ?_⟩
    · rcases h4 with h4 | h4
      · simp [hm] at h4
      · unfold bindsTo at h4
        obtain ⟨e, he, hb⟩ := Array.any_eq_true'.1 h4
        simp only [Bool.and_eq_true, beq_iff_eq] at hb
        exact ⟨e, he, hb.1, hb.2⟩
    · rcases h5 with h5 | h5
      · exact absurd (by simpa using h5) hne
      · simpa using h5
theorem put_far (n : Nat) (s : Slots) (d : Option Tmp) (v : Value) (k : Nat) (h : d ≠ some k) : put n s d v k = s k := by
  cases d with
  | none => rfl
  | some d => exact put_other n s d k v (fun e => h (by rw [e]))
theorem putAll_far (n : Nat) : ∀ (l : List Oper) (vs : List Value) (s : Slots) (k : Nat), (∀ o ∈ l, o.dst ≠ some k) → putAll n l vs s k = s k
  | [], vs, s, k, _ => rfl
  | o :: l, [], s, k, _ => rfl
  | o :: l, v :: vs, s, k, h => by
    rw [putAll, putAll_far n l vs _ k (fun p hp => h p (List.mem_cons_of_mem _ hp)), put_far _ _ _ _ _ (h o List.mem_cons_self)]
theorem putAll_at (n : Nat) : ∀ (l : List Oper) (vs : List Value) (s : Slots) (i : Nat) (o : Oper) (v : Value) (d : Tmp), l[i]? = some o → vs[i]? = some v → o.dst = some d →
    (∀ (j : Nat) (p : Oper), l[j]? = some p → p.dst = some d → j = i) → putAll n l vs s d = put n s (some d) v d
  | [], vs, s, i, o, v, d, h, _, _, _ => by simp at h
  | p :: l, [], s, i, o, v, d, _, h, _, _ => by simp at h
  | p :: l, u :: vs, s, 0, o, v, d, h1, h2, h3, h4 => by
    simp only [List.getElem?_cons_zero, Option.some.injEq] at h1 h2
    subst h1 h2
    rw [putAll, h3, putAll_far]
    intro q hq hd
    obtain ⟨j, hj⟩ := List.mem_iff_getElem?.1 hq
    exact absurd (h4 (j + 1) q (by simpa using hj) hd) (by omega)
  | p :: l, u :: vs, s, i + 1, o, v, d, h1, h2, h3, h4 => by
    rw [putAll, putAll_at n l vs _ i o v d (by simpa using h1) (by simpa using h2) h3 (fun j q hj hd => by have := h4 (j + 1) q (by simpa using hj) hd; omega)]
    have hp : p.dst ≠ some d := fun hd => absurd (h4 0 p rfl hd) (by omega)
    have := put_far n s p.dst u d hp
    show (if d = d ∧ d < n then v else put n s p.dst u d) = if d = d ∧ d < n then v else s d
    rw [this]
theorem eachE_at {P : Program} {ops : Array Oper} {R : World → Prop} {s : Slots} : ∀ {l : List Oper} {vs : List Value}, eachE P ops R s l vs → ∀ (i : Nat) (o : Oper), l[i]? = some o → ∃ v, vs[i]? = some v ∧ oneE P ops R s o v
  | [], _, _, i, o, h => by simp at h
  | p :: l, [], h, _, _, _ => h.elim
  | p :: l, u :: vs, h, 0, o, hi => by simp at hi; subst hi; exact ⟨u, rfl, h.1⟩
  | p :: l, u :: vs, h, i + 1, o, hi => by simpa using eachE_at h.2 i o (by simpa using hi)
theorem getD_far (xs : Array Bool) {i j : Nat} (h : j ≠ i) {v d : Bool} : (xs.setIfInBounds i v).getD j d = xs.getD j d := by
  simp [Array.getD_eq_getD_getElem?, Array.getElem?_setIfInBounds, Ne.symm h]
def Part (P : Program) (n : Nat) (ds : List Deferred) (ops : Array Oper) (R : World → Prop) (s S : Slots) (listed : Array Bool) (a : Act) (w : World) : Prop :=
  R w ∧ listed.size = ops.size ∧ ∃ s', Fits n ds s' a ∧ (∀ (i : Nat) (o : Oper) (d : Tmp), ops[i]? = some o → o.dst = some d → listed.getD i true = true → s' d = S d) ∧
    ∀ k : Nat, (∀ (i : Nat) (o : Oper), ops[i]? = some o → listed.getD i true = true → o.dst ≠ some k) → s' k = s k
theorem Part.step {P : Program} {n : Nat} {l : List Oper} {vs : List Value} {R : World → Prop} {s : Slots} {Q : Exit → Act → World → Prop} (hB : ordB l.toArray = true) (h : eachE P l.toArray R (putAll n l vs s) l vs)
    {listed : Array Bool} {a : Act} {w : World} (hp : Part P n ds l.toArray R s (putAll n l vs s) listed a w) {i : Nat} (hi : i ∈ Region.ready .any l.toArray listed) :
    wpOpIn (fR ro) 0 P l.toArray Q i (Part P n ds l.toArray R s (putAll n l vs s) (listed.setIfInBounds i true)) a w := by
  obtain ⟨hR, hsz, s', hf, h1, h2⟩ := hp
  obtain ⟨hun, o, ho, hall⟩ := mem_ready.1 hi
  obtain ⟨hsel, hback, hdst⟩ := ordB_at hB ho
  have hlt : i < l.toArray.size := (Array.getElem?_eq_some_iff.1 ho).1
  have hol : l[i]? = some o := by simpa using ho
  obtain ⟨v, hv, hone⟩ := eachE_at h i o hol
  have hagree : ∀ t, t ∈ o.looksAt l.toArray → s' t = putAll n l vs s t := by
    intro t ht
    by_cases hex : ∃ (j : Nat) (p : Oper), l.toArray[j]? = some p ∧ p.dst = some t
    · obtain ⟨j, p, hj, hd⟩ := hex
      obtain ⟨e, he, hb, rfl⟩ := (hdst j p t hj hd).1 ht
      have hlj := hall e he hb
      refine h1 e.on p t hj hd ?_
      rcases Nat.lt_or_ge e.on listed.size with hl | hl
      · simpa [Array.getD, hl] using hlj
      · simp [Array.getD, Nat.not_lt.2 hl]
    · rw [h2 t (fun j p hj _ hd => hex ⟨j, p, hj, hd⟩), putAll_far]
      intro p hp hd
      obtain ⟨j, hj⟩ := List.mem_iff_getElem?.1 hp
      exact hex ⟨j, p, by simpa using hj, hd⟩
  have hexec : execOp a.eval o = execOp (ev (putAll n l vs s)) o := by
    rw [hf.eval]
    refine execOp_congr o hsel fun x hx => ?_
    cases x with
    | tmp t => exact hagree t (List.mem_append_left _ (List.mem_filterMap.2 ⟨.tmp t, by simpa using hx, rfl⟩))
    | _ => rfl
  have hnext : ∀ w', R w' → Part P n ds l.toArray R s (putAll n l vs s) (listed.setIfInBounds i true) (a.put o.dst v) w' := by
    intro w' hR'
    have hset : ∀ j, (listed.setIfInBounds i true).getD j true = true → j = i ∨ listed.getD j true = true := by
      intro j hj
      by_cases hji : j = i
      · exact .inl hji
      · right
        rw [getD_far _ hji] at hj; exact hj
    have hset2 : ∀ j, listed.getD j true = true → (listed.setIfInBounds i true).getD j true = true := by
      intro j hj
      by_cases hji : j = i
      · subst hji; simp [Array.getD, hsz]
      · rw [getD_far _ hji]; exact hj
    have hset3 : (listed.setIfInBounds i true).getD i true = true := by simp [Array.getD]
    have huniq : ∀ (d : Tmp), o.dst = some d → ∀ (j : Nat) (p : Oper), l[j]? = some p → p.dst = some d → j = i := fun d hd j p hj hpd => by
      by_cases hji : j = i
      · exact hji
      · exact absurd hd ((hdst j p d (by simpa using hj) hpd).2 hji)
    refine ⟨hR', by simp [hsz], put n s' o.dst v, hf.put _ _, fun j p d hj hd hlj => ?_, fun k hk => ?_⟩
    · by_cases hji : j = i
      · subst hji
        obtain rfl : p = o := Option.some.inj (hj.symm.trans ho)
        rw [putAll_at n l vs s j p v d hol hv hd (huniq d hd), hd]
        show (if d = d ∧ d < n then v else s' d) = if d = d ∧ d < n then v else s d
        rw [h2 d (fun j2 p2 hj2 hl2 hd2 => by
          have := huniq d hd j2 p2 (by simpa using hj2) hd2
          subst this
          rw [hun] at hl2
          cases hl2)]
      · rw [put_far _ _ _ _ _ ((hdst j p d hj hd).2 hji)]
        exact h1 j p d hj hd ((hset j hlj).resolve_left hji)
    · rw [put_far _ _ _ _ _ (hk i o ho hset3)]
      exact h2 k fun j p hj hlj => hk j p hj (hset2 j hlj)
  unfold wpOpIn
  simp only [ho]
  cases hg : o.guard with
  | none =>
    rw [if_pos (by simp [Region.wanted, hg])]
    unfold oneE at hone
    simp only [hg] at hone
    exact wpIn_of_resE (by rw [hexec]; exact resE_ends (opR_ends P o _ w) (hone w hR)) (fun u w' hu => by obtain ⟨rfl, hR'⟩ := hu; exact hnext w' hR')
  | some jw =>
    obtain ⟨j, want⟩ := jw
    unfold oneE at hone
    simp only [hg] at hone
    have hgs : guardS l.toArray s' j = guardS l.toArray (putAll n l vs s) j := by
      unfold guardS
      cases hd : (l.toArray[j]?).bind (·.dst) with
      | none => rfl
      | some d => exact hagree d (List.mem_append_right _ (by simp only [hg, hd]; simp))
    simp only [Region.wanted, hg, yielded_eq hf, hgs]
    have hrun : (∀ w, R w → resE P (opR P { o with guard := none } (putAll n l vs s) w) fun u w' => u = v ∧ R w') → o.wpIn (fR ro) 0 P a w (Part P n ds l.toArray R s (putAll n l vs s) (listed.setIfInBounds i true)) Q := by
      intro hone
      exact wpIn_of_resE (by rw [hexec, show execOp (ev (putAll n l vs s)) o = execOp (ev (putAll n l vs s)) { o with guard := none } from rfl]; exact resE_ends (opR_ends P _ _ w) (hone w hR)) (fun u w' hu => by obtain ⟨rfl, hR'⟩ := hu; exact hnext w' hR')
    generalize guardS l.toArray (putAll n l vs s) j = g at hone
    cases g with
    | bool b =>
      simp only at hone ⊢
      by_cases hb : b = want
      · subst hb
        simp only [BEq.rfl, if_true] at hone ⊢
        exact hrun hone
      · have e1 : (b == want) = false := by simpa using hb
        simp only [e1, Bool.false_eq_true, if_false] at hone
        rw [if_neg (by simpa using hb)]
        exact ⟨fun f _ => trivial, hone ▸ hnext w hR⟩
    | _ => simp only at hone ⊢; rw [if_neg (by simp)]; exact ⟨fun f _ => trivial, hone ▸ hnext w hR⟩
theorem getD_true {xs : Array Bool} {i : Nat} (h : xs.getD i true = false) : ∃ hl : i < xs.toList.length, xs.toList[i] = false := by
  rcases Nat.lt_or_ge i xs.size with hl | hl
  · exact ⟨by simpa using hl, by simpa [Array.getD, hl] using h⟩
  · simp [Array.getD, Nat.not_lt.2 hl] at h
theorem Part.all {P : Program} {n : Nat} {l : List Oper} {vs : List Value} {R : World → Prop} {s : Slots} {Q : Exit → Act → World → Prop} (hB : ordB l.toArray = true) (h : eachE P l.toArray R (putAll n l vs s) l vs)
    (hend : ∀ listed a w, Part P n ds l.toArray R s (putAll n l vs s) listed a w → Region.ready .any l.toArray listed = [] → Q .normal a w) :
    ∀ (fuel : Nat) (listed : Array Bool) (a : Act) (w : World), Part P n ds l.toArray R s (putAll n l vs s) listed a w → listed.toList.countP (fun b => !b) ≤ fuel → wpAnyIn (fR ro) 0 P .any l.toArray Q fuel listed a w := by
  intro fuel
  induction fuel with
  | zero =>
    intro listed a w hp hc
    have hr : Region.ready .any l.toArray listed = [] := by
      rw [List.eq_nil_iff_forall_not_mem]
      intro i hi
      obtain ⟨hl, hv⟩ := getD_true (mem_ready.1 hi).1
      have := List.countP_eq_zero.1 (Nat.le_zero.1 hc) _ (List.getElem_mem hl)
      simp [hv] at this
    exact ⟨hr, hend listed a w hp hr⟩
  | succ fuel ih =>
    intro listed a w hp hc
    refine ⟨fun hr => hend listed a w hp hr, fun i hi => ?_⟩
    obtain ⟨hl, hv⟩ := getD_true (mem_ready.1 hi).1
    refine wpOpIn_mono (fun a' w' hp' => ih _ _ _ hp' ?_) (hp.step (Q := Q) hB h hi)
    rw [Array.toList_setIfInBounds, List.countP_set hl]
    generalize List.countP (fun b => !b) listed.toList = c at hc ⊢
    simp [hv]
    omega
theorem Part.done {P : Program} {n : Nat} {l : List Oper} {vs : List Value} {R : World → Prop} {s : Slots} (hB : ordB l.toArray = true) {listed : Array Bool} {a : Act} {w : World}
    (hp : Part P n ds l.toArray R s (putAll n l vs s) listed a w) (hr : Region.ready .any l.toArray listed = []) : Fits n ds (putAll n l vs s) a := by
  obtain ⟨hR, hsz, s', hf, h1, h2⟩ := hp
  have hall : ∀ i, i < l.toArray.size → listed.getD i true = true := by
    intro i
    induction i using Nat.strongRecOn with
    | _ i ih =>
      intro hi
      cases hun : listed.getD i true with
      | true => rfl
      | false =>
        have ho : l.toArray[i]? = some l.toArray[i] := Array.getElem?_eq_getElem hi
        have hm : i ∈ Region.ready .any l.toArray listed := mem_ready.2 ⟨hun, _, ho, fun e he hb => by
          have hlt := (ordB_at hB ho).2.1 e he hb
          have h3 := ih e.on hlt (by omega)
          have hl : e.on < listed.size := by omega
          simpa [Array.getD, hl] using h3⟩
        rw [hr] at hm
        cases hm
  have he : s' = putAll n l vs s := by
    funext k
    by_cases hex : ∃ (j : Nat) (p : Oper), l.toArray[j]? = some p ∧ p.dst = some k
    · obtain ⟨j, p, hj, hd⟩ := hex
      exact h1 j p k hj hd (hall j (Array.getElem?_eq_some_iff.1 hj).1)
    · rw [h2 k (fun j p hj _ hd => hex ⟨j, p, hj, hd⟩), putAll_far]
      intro p hp hd
      obtain ⟨j, hj⟩ := List.mem_iff_getElem?.1 hp
      exact hex ⟨j, p, by simpa using hj, hd⟩
  exact he ▸ hf
variable {ro : Option Nat} {ds : List Deferred}
def anyRes (P : Program) (W : World) (r : World → Result Next) (k : Value → Prop) : Prop :=
  ∃ v, (∀ w, Below W.heap.size W w → resE P (r w) fun u w' => u = v ∧ Below W.heap.size W w') ∧ k v
def anyCall (P : Program) (f : FuncId) (args : Array Value) (W : World) (k : Value → Prop) : Prop :=
  ∃ v, (∀ w, Below W.heap.size W w → callE P f args w fun u w' => u = v ∧ Below W.heap.size W w') ∧ k v
def onOne (i : Nat) (p : Prop) : Prop := i = 1 ∧ p
@[go_sem] theorem onOne_one (p : Prop) : onOne 1 p = p := by simp [onOne]
theorem onOne_congr {i j : Nat} {p : Prop} (h : i = j) : onOne i p = onOne j p := by rw [h]
attribute [congr] onOne_congr
def anyLoad (P : Program) (W : World) (v : Value) (t : Option (Option Nat)) (k : Value → Prop) : Prop :=
  match v with
  | .pointer (some a) => onOne (if a.block < W.heap.size then 1 else 0) (stillRes P W (loadR P (.pointer (some a)) t W) k)
  | _ => False
def isLoad : Op → Bool
  | .load _ _ => true
  | _ => false
def anyOp (P : Program) (W : World) (o : Oper) (s : Slots) (k : Value → Prop) : Prop :=
  match o.op with
  | .load ty x => anyLoad P W (ev s x) (shapeOf P ty) k
  | _ => anyRes P W (fun w => opR P o s w) k
def anyE (P : Program) (n : Nat) (ops : Array Oper) (W : World) (K : Slots → Prop) : List Oper → Slots → Prop
  | [], s => K s
  | o :: rest, s =>
    match o.guard with
    | none => anyOp P W o s (fun v => anyE P n ops W K rest (put n s o.dst v))
    | some (j, want) =>
      match guardS ops s j with
      | .bool b => if b == want then anyOp P W { o with guard := none } s (fun v => anyE P n ops W K rest (put n s o.dst v)) else anyE P n ops W K rest (put n s o.dst undef)
      | _ => anyE P n ops W K rest (put n s o.dst undef)
def anyK (P : Program) (n : Nat) (ops : Array Oper) (W : World) (K : Slots → Prop) (rest : List Oper) (s : Slots) (d : Option Tmp) : Value → Prop := fun v => anyE P n ops W K rest (put n s d v)
def anyG (P : Program) (n : Nat) (ops : Array Oper) (W : World) (K : Slots → Prop) (o : Oper) (rest : List Oper) (s : Slots) (g : Value) (want : Bool) : Prop :=
  match g with
  | .bool b => if b == want then anyOp P W o s (anyK P n ops W K rest s o.dst) else anyE P n ops W K rest (put n s o.dst undef)
  | _ => anyE P n ops W K rest (put n s o.dst undef)
section
variable (P : Program) (n : Nat) (ops : Array Oper) (W : World) (K : Slots → Prop) (rest : List Oper) (s : Slots) (o : Oper)
@[go_sem] theorem anyE_nil : anyE P n ops W K [] s = K s := propext Iff.rfl
@[go_sem] theorem anyE_plain (d : Option Tmp) (op : Op) (ty : TypeId) (pos : String) (after : Array Edge) :
    anyE P n ops W K (⟨d, op, ty, pos, after, none⟩ :: rest) s = anyOp P W ⟨d, op, ty, pos, after, none⟩ s (anyK P n ops W K rest s d) := propext Iff.rfl
@[go_sem] theorem anyE_guard (d : Option Tmp) (op : Op) (ty : TypeId) (pos : String) (after : Array Edge) (j : Nat) (want : Bool) :
    anyE P n ops W K (⟨d, op, ty, pos, after, some (j, want)⟩ :: rest) s = anyG P n ops W K ⟨d, op, ty, pos, after, none⟩ rest s (guardS ops s j) want := propext Iff.rfl
@[go_sem] theorem anyK_eq (d : Option Tmp) (v : Value) : anyK P n ops W K rest s d v = anyE P n ops W K rest (put n s d v) := propext Iff.rfl
@[go_sem] theorem anyG_true : anyG P n ops W K o rest s (.bool true) true = anyOp P W o s (anyK P n ops W K rest s o.dst) := propext Iff.rfl
@[go_sem] theorem anyG_false : anyG P n ops W K o rest s (.bool false) false = anyOp P W o s (anyK P n ops W K rest s o.dst) := propext Iff.rfl
@[go_sem] theorem anyG_skip1 : anyG P n ops W K o rest s (.bool true) false = anyE P n ops W K rest (put n s o.dst undef) := propext Iff.rfl
@[go_sem] theorem anyG_skip2 : anyG P n ops W K o rest s (.bool false) true = anyE P n ops W K rest (put n s o.dst undef) := propext Iff.rfl
@[go_sem] theorem anyG_skip3 (want : Bool) : anyG P n ops W K o rest s undef want = anyE P n ops W K rest (put n s o.dst undef) := propext Iff.rfl
@[go_sem] theorem anyG_dec (p : Prop) [Decidable p] (want : Bool) : anyG P n ops W K o rest s (.bool (decide p)) want = anyG P n ops W K o rest s (.bool (natB (if p then 1 else 0))) want := by
  by_cases h : p <;> simp [h, natB]
@[go_sem] theorem anyG_ndec (p : Prop) [Decidable p] (want : Bool) : anyG P n ops W K o rest s (.bool (!decide p)) want = anyG P n ops W K o rest s (.bool (natB (if p then 0 else 1))) want := by
  by_cases h : p <;> simp [h, natB]
@[go_sem] theorem anyOp_load (d : Option Tmp) (t : TypeId) (x : Operand) (ty : TypeId) (pos : String) (after : Array Edge) (k : Value → Prop) : anyOp P W ⟨d, .load t x, ty, pos, after, none⟩ s k = anyLoad P W (ev s x) (shapeOf P t) k := propext Iff.rfl
@[go_sem] theorem anyOp_other (d : Option Tmp) (op : Op) (ty : TypeId) (pos : String) (after : Array Edge) (k : Value → Prop) (h : isLoad op = false) : anyOp P W ⟨d, op, ty, pos, after, none⟩ s k = anyRes P W (fun w => opR P ⟨d, op, ty, pos, after, none⟩ s w) k := by
  unfold anyOp; cases op <;> first | rfl | cases h
@[go_sem] theorem anyLoad_at (a : Addr) (t : Option (Option Nat)) (k : Value → Prop) : anyLoad P W (.pointer (some a)) t k = onOne (if a.block < W.heap.size then 1 else 0) (stillRes P W (loadR P (.pointer (some a)) t W) k) := propext Iff.rfl
@[go_sem] theorem anyRes_value (v : Value) (k : Value → Prop) : anyRes P W (fun w => .ok (.value v) w) k = k v := by
  apply propext
  constructor
  · rintro ⟨u, hu, hk⟩
    have := (hu W (Below.refl _ _)).1
    exact this ▸ hk
  · exact fun hk => ⟨v, fun w hw => ⟨rfl, hw⟩, hk⟩
@[go_sem] theorem anyRes_enter (f : FuncId) (args : Array Value) (k : Value → Prop) : anyRes P W (fun w => .ok (.enter f args) w) k = anyCall P f args W k := propext Iff.rfl
end
@[go_sem] theorem isLoad_move (x : Operand) : isLoad (.move x) = false := Eq.trans rfl rfl
@[go_sem] theorem isLoad_assign (x : Operand) : isLoad (.assign x) = false := Eq.trans rfl rfl
@[go_sem] theorem isLoad_box (t : TypeId) (x : Operand) : isLoad (.box t x) = false := Eq.trans rfl rfl
@[go_sem] theorem isLoad_build (t : TypeId) (l : Array (Nat × Operand)) : isLoad (.build t l) = false := Eq.trans rfl rfl
@[go_sem] theorem isLoad_nilCheck (x : Operand) : isLoad (.nilCheck x) = false := Eq.trans rfl rfl
@[go_sem] theorem isLoad_binOp (b : BinOp) (t : TypeId) (x y : Operand) (u : TypeId) : isLoad (.binOp b t x y u) = false := Eq.trans rfl rfl
@[go_sem] theorem isLoad_unOp (b : UnOp) (t : TypeId) (x : Operand) : isLoad (.unOp b t x) = false := Eq.trans rfl rfl
@[go_sem] theorem isLoad_convert (t u : TypeId) (x : Operand) : isLoad (.convert t u x) = false := Eq.trans rfl rfl
@[go_sem] theorem isLoad_makeInterface (t : TypeId) (x : Operand) : isLoad (.makeInterface t x) = false := Eq.trans rfl rfl
@[go_sem] theorem isLoad_makeFunc (f : Fn) (l m : Array Operand) : isLoad (.makeFunc f l m) = false := Eq.trans rfl rfl
@[go_sem] theorem isLoad_slice (t : TypeId) (x : Operand) (l h m : Option Operand) : isLoad (.slice t x l h m) = false := Eq.trans rfl rfl
@[go_sem] theorem isLoad_fieldAddr (t : TypeId) (x : Operand) (f : Nat) : isLoad (.fieldAddr t x f) = false := Eq.trans rfl rfl
@[go_sem] theorem isLoad_field (t : TypeId) (x : Operand) (f : Nat) : isLoad (.field t x f) = false := Eq.trans rfl rfl
@[go_sem] theorem isLoad_indexAddr (t : TypeId) (x y : Operand) : isLoad (.indexAddr t x y) = false := Eq.trans rfl rfl
@[go_sem] theorem isLoad_index (t : TypeId) (x y : Operand) : isLoad (.index t x y) = false := Eq.trans rfl rfl
@[go_sem] theorem isLoad_lookup (t : TypeId) (x y : Operand) (c : Bool) : isLoad (.lookup t x y c) = false := Eq.trans rfl rfl
@[go_sem] theorem isLoad_extract (x : Operand) (i : Nat) : isLoad (.extract x i) = false := Eq.trans rfl rfl
@[go_sem] theorem isLoad_call (c : Call) : isLoad (.call c) = false := Eq.trans rfl rfl
@[go_sem] theorem isLoad_pick (c x y : Operand) : isLoad (.pick c x y) = false := Eq.trans rfl rfl
@[go_sem] theorem isLoad_typeAssert (x : Operand) (t u : TypeId) (c : Bool) : isLoad (.typeAssert x t u c) = false := Eq.trans rfl rfl
@[go_sem] theorem isLoad_sliceToArrayPointer (t : TypeId) (x : Operand) : isLoad (.sliceToArrayPointer t x) = false := Eq.trans rfl rfl
@[go_sem] theorem isLoad_store (t : TypeId) (x y : Operand) : isLoad (.store t x y) = false := Eq.trans rfl rfl
@[go_sem] theorem isLoad_panic (x : Operand) : isLoad (.panic x) = false := Eq.trans rfl rfl
theorem anyG_congr {P : Program} {n : Nat} {ops : Array Oper} {W : World} {K : Slots → Prop} {o : Oper} {rest : List Oper} {s : Slots} {g g' : Value} {want : Bool} (h : g = g') : anyG P n ops W K o rest s g want = anyG P n ops W K o rest s g' want := by rw [h]
theorem anyRes_congr {P : Program} {W : World} {r r' : World → Result Next} {k : Value → Prop} (h : ∀ w, r w = r' w) : anyRes P W r k = anyRes P W r' k := by rw [show r = r' from funext h]
theorem anyCall_congr {P : Program} {W : World} {f : FuncId} {args args' : Array Value} {k : Value → Prop} (h : args = args') : anyCall P f args W k = anyCall P f args' W k := by rw [h]
theorem anyLoad_congr {P : Program} {W : World} {v v' : Value} {t t' : Option (Option Nat)} {k : Value → Prop} (h : v = v') (ht : t = t') : anyLoad P W v t k = anyLoad P W v' t' k := by rw [h, ht]
theorem anyOp_congr {P : Program} {W : World} {o : Oper} {s : Slots} {k : Value → Prop} : anyOp P W o s k = anyOp P W o s k := rfl
theorem anyE_congr {P : Program} {n : Nat} {ops : Array Oper} {W : World} {K : Slots → Prop} {l : List Oper} {s : Slots} : anyE P n ops W K l s = anyE P n ops W K l s := rfl
theorem anyK_congr {P : Program} {n : Nat} {ops : Array Oper} {W : World} {K : Slots → Prop} {l : List Oper} {s : Slots} {d : Option Tmp} {v v' : Value} (h : v = v') : anyK P n ops W K l s d v = anyK P n ops W K l s d v' := by rw [h]
attribute [congr] anyG_congr anyRes_congr anyCall_congr anyLoad_congr anyOp_congr anyE_congr anyK_congr

/-! Along a tree of orders: pure operations first, else whichever is ready. -/
inductive Tree where
  | done
  | pure (i : Nat) (r : Tree)
  | one (i : Nat) (r : Tree)
  | two (i : Nat) (r : Tree) (j : Nat) (q : Tree)
def treeB (ops : Array Oper) : Tree → Nat → Array Bool → Bool
  | .done, f, listed => f == 0 && (Region.ready .any ops listed).isEmpty
  | .pure i r, f + 1, listed => (Region.ready .any ops listed).contains i && Region.free .any ops listed i && treeB ops r f (listed.setIfInBounds i true)
  | .one i r, f + 1, listed => Region.ready .any ops listed == [i] && treeB ops r f (listed.setIfInBounds i true)
  | .two i r j q, f + 1, listed => Region.ready .any ops listed == [i, j] && treeB ops r f (listed.setIfInBounds i true) && treeB ops q f (listed.setIfInBounds j true)
  | _, _, _ => false
def runO (P : Program) (b : Bool) (o : Oper) (s : Slots) (w : World) (k : Value → World → Prop) : Prop :=
  match b with
  | true => pureE (fun w => opR P o s w) (fun v => k v w)
  | false => resE P (opR P o s w) k
def stepG (P : Program) (n : Nat) (b : Bool) (o : Oper) (g : Option (Value × Bool)) (s : Slots) (w : World) (k : Slots → World → Prop) : Prop :=
  match g with
  | none => runO P b o s w fun v w' => k (put n s o.dst v) w'
  | some (.bool c, want) => if c == want then runO P b o s w fun v w' => k (put n s o.dst v) w' else k (put n s o.dst undef) w
  | some _ => k (put n s o.dst undef) w
def stepO (P : Program) (n : Nat) (ops : Array Oper) (o : Option Oper) (b : Bool) (s : Slots) (w : World) (k : Slots → World → Prop) : Prop :=
  match o with
  | none => False
  | some o => stepG P n b { o with guard := none } (o.guard.map fun (j, want) => (guardS ops s j, want)) s w k
def treeE (P : Program) (n : Nat) (ops : Array Oper) (K : Slots → World → Prop) : Tree → Slots → World → Prop
  | .done, s, w => K s w
  | .pure i r, s, w => stepO P n ops ops[i]? true s w (treeE P n ops K r)
  | .one i r, s, w => stepO P n ops ops[i]? false s w (treeE P n ops K r)
  | .two i r j q, s, w => stepO P n ops ops[i]? false s w (treeE P n ops K r) ∧ stepO P n ops ops[j]? false s w (treeE P n ops K q)
def treeK (P : Program) (n : Nat) (ops : Array Oper) (K : Slots → World → Prop) (r : Tree) (s : Slots) (d : Option Tmp) : Kont := fun v w => treeE P n ops K r (put n s d v) w
def treeV (P : Program) (n : Nat) (ops : Array Oper) (K : Slots → World → Prop) (r : Tree) (s : Slots) (d : Option Tmp) (w : World) : Value → Prop := fun v => treeE P n ops K r (put n s d v) w
def treeG (P : Program) (n : Nat) (ops : Array Oper) (K : Slots → World → Prop) (r : Tree) (b : Bool) (o : Oper) (s : Slots) (w : World) (g : Value) (want : Bool) : Prop := stepG P n b o (some (g, want)) s w (treeE P n ops K r)
def treeO (P : Program) (n : Nat) (ops : Array Oper) (K : Slots → World → Prop) (o : Option Oper) (b : Bool) (r : Tree) (s : Slots) (w : World) : Prop := stepO P n ops o b s w (treeE P n ops K r)
section
variable (P : Program) (n : Nat) (ops : Array Oper) (K : Slots → World → Prop) (r q : Tree) (s : Slots) (w : World) (i j : Nat) (d : Option Tmp) (o : Oper)
@[go_sem] theorem treeE_done : treeE P n ops K .done s w = K s w := propext Iff.rfl
@[go_sem] theorem treeE_pure : treeE P n ops K (.pure i r) s w = treeO P n ops K ops[i]? true r s w := propext Iff.rfl
@[go_sem] theorem treeE_one : treeE P n ops K (.one i r) s w = treeO P n ops K ops[i]? false r s w := propext Iff.rfl
@[go_sem] theorem treeE_two : treeE P n ops K (.two i r j q) s w = (treeO P n ops K ops[i]? false r s w ∧ treeO P n ops K ops[j]? false q s w) := propext Iff.rfl
@[go_sem] theorem treeO_pure (op : Op) (ty : TypeId) (pos : String) (after : Array Edge) : treeO P n ops K (some ⟨d, op, ty, pos, after, none⟩) true r s w = pureE (fun w => opR P ⟨d, op, ty, pos, after, none⟩ s w) (treeV P n ops K r s d w) := propext Iff.rfl
@[go_sem] theorem treeO_loud (op : Op) (ty : TypeId) (pos : String) (after : Array Edge) : treeO P n ops K (some ⟨d, op, ty, pos, after, none⟩) false r s w = resE P (opR P ⟨d, op, ty, pos, after, none⟩ s w) (treeK P n ops K r s d) := propext Iff.rfl
@[go_sem] theorem treeO_guard (op : Op) (ty : TypeId) (pos : String) (after : Array Edge) (want b : Bool) : treeO P n ops K (some ⟨d, op, ty, pos, after, some (j, want)⟩) b r s w = treeG P n ops K r b ⟨d, op, ty, pos, after, none⟩ s w (guardS ops s j) want := propext Iff.rfl
@[go_sem] theorem treeG_true : treeG P n ops K r true o s w (.bool true) true = pureE (fun w => opR P o s w) (treeV P n ops K r s o.dst w) := propext Iff.rfl
@[go_sem] theorem treeG_false : treeG P n ops K r true o s w (.bool false) false = pureE (fun w => opR P o s w) (treeV P n ops K r s o.dst w) := propext Iff.rfl
@[go_sem] theorem treeG_ltrue : treeG P n ops K r false o s w (.bool true) true = resE P (opR P o s w) (treeK P n ops K r s o.dst) := propext Iff.rfl
@[go_sem] theorem treeG_lfalse : treeG P n ops K r false o s w (.bool false) false = resE P (opR P o s w) (treeK P n ops K r s o.dst) := propext Iff.rfl
@[go_sem] theorem treeG_skip1 (b : Bool) : treeG P n ops K r b o s w (.bool true) false = treeE P n ops K r (put n s o.dst undef) w := propext Iff.rfl
@[go_sem] theorem treeG_skip2 (b : Bool) : treeG P n ops K r b o s w (.bool false) true = treeE P n ops K r (put n s o.dst undef) w := propext Iff.rfl
@[go_sem] theorem treeG_skip3 (b want : Bool) : treeG P n ops K r b o s w undef want = treeE P n ops K r (put n s o.dst undef) w := propext Iff.rfl
@[go_sem] theorem treeG_dec (p : Prop) [Decidable p] (b want : Bool) : treeG P n ops K r b o s w (.bool (decide p)) want = treeG P n ops K r b o s w (.bool (natB (if p then 1 else 0))) want := by
  by_cases h : p <;> simp [h, natB]
@[go_sem] theorem treeG_ndec (p : Prop) [Decidable p] (b want : Bool) : treeG P n ops K r b o s w (.bool (!decide p)) want = treeG P n ops K r b o s w (.bool (natB (if p then 0 else 1))) want := by
  by_cases h : p <;> simp [h, natB]
@[go_sem] theorem treeK_eq (v : Value) : treeK P n ops K r s d v w = treeE P n ops K r (put n s d v) w := propext Iff.rfl
@[go_sem] theorem treeV_eq (v : Value) : treeV P n ops K r s d w v = treeE P n ops K r (put n s d v) w := propext Iff.rfl
end
theorem treeO_congr {P : Program} {n : Nat} {ops : Array Oper} {K : Slots → World → Prop} {o o' : Option Oper} {b : Bool} {r : Tree} {s : Slots} {w w' : World} (h : o = o') (hw : w = w') : treeO P n ops K o b r s w = treeO P n ops K o' b r s w' := by rw [h, hw]
theorem treeE_congr {P : Program} {n : Nat} {ops : Array Oper} {K : Slots → World → Prop} {r : Tree} {s : Slots} {w w' : World} (h : w = w') : treeE P n ops K r s w = treeE P n ops K r s w' := by rw [h]
theorem treeG_congr {P : Program} {n : Nat} {ops : Array Oper} {K : Slots → World → Prop} {r : Tree} {b : Bool} {o : Oper} {s : Slots} {w w' : World} {g g' : Value} {want : Bool} (h : g = g') (hw : w = w') : treeG P n ops K r b o s w g want = treeG P n ops K r b o s w' g' want := by rw [h, hw]
theorem treeK_congr {P : Program} {n : Nat} {ops : Array Oper} {K : Slots → World → Prop} {r : Tree} {s : Slots} {d : Option Tmp} {v v' : Value} {w w' : World} (h : v = v') (hw : w = w') : treeK P n ops K r s d v w = treeK P n ops K r s d v' w' := by rw [h, hw]
theorem treeV_congr {P : Program} {n : Nat} {ops : Array Oper} {K : Slots → World → Prop} {r : Tree} {s : Slots} {d : Option Tmp} {v v' : Value} {w : World} (h : v = v') : treeV P n ops K r s d w v = treeV P n ops K r s d w v' := by rw [h]
attribute [congr] treeO_congr treeE_congr treeG_congr treeK_congr treeV_congr
theorem stepO_yields {P : Program} {n : Nat} {ops : Array Oper} {o : Oper} {s : Slots} {w : World} {k : Slots → World → Prop} {a : Act} (hf : Fits n ds s a) (h : stepO P n ops (some o) true s w k) : ∃ v, YieldsAll P ops o v a ∧ k (put n s o.dst v) w := by
  unfold stepO at h
  simp only at h
  have run : runO P true { o with guard := none } s w (fun v w' => k (put n s o.dst v) w') → Region.wanted o (yielded ops a.tmps) = true → ∃ v, YieldsAll P ops o v a ∧ k (put n s o.dst v) w := by
    rintro ⟨v, hv, hk⟩ hw
    refine ⟨v, .inl ⟨hw, fun w' => ?_⟩, hk⟩
    rw [hf.eval, show execOp (ev s) o = execOp (ev s) { o with guard := none } from rfl]
    exact opR_ends P _ s w' _ _ (hv w')
  cases hg : o.guard with
  | none =>
    simp only [hg, Option.map_none, stepG] at h
    exact run h (by simp [Region.wanted, hg])
  | some jw =>
    obtain ⟨j, want⟩ := jw
    simp only [hg, Option.map_some] at h
    have hw := yielded_eq hf ops j
    generalize guardS ops s j = g at h hw
    cases g with
    | bool b =>
      simp only [stepG] at h
      by_cases hb : b = want
      · subst hb
        simp only [BEq.rfl, if_true] at h
        exact run h (by simp [Region.wanted, hg, hw])
      · have e1 : (b == want) = false := by simpa using hb
        simp only [e1, Bool.false_eq_true, if_false] at h
        exact ⟨undef, .inr ⟨by simp [Region.wanted, hg, hw, hb], rfl⟩, h⟩
    | _ => exact ⟨undef, .inr ⟨by simp [Region.wanted, hg, hw], rfl⟩, h⟩
theorem stepO_runs {P : Program} {n : Nat} {ops : Array Oper} {o : Oper} {i : Nat} (hi : ops[i]? = some o) {s : Slots} {w : World} {k : Slots → World → Prop} {a : Act} (hf : Fits n ds s a) (h : stepO P n ops (some o) false s w k) {K : Act → World → Prop} {Q : Exit → Act → World → Prop}
    (hK : ∀ s' w' a', Fits n ds s' a' → k s' w' → K a' w') : wpOpIn (fR ro) 0 P ops Q i K a w := by
  unfold stepO at h
  simp only at h
  unfold wpOpIn
  simp only [hi]
  have run : runO P false { o with guard := none } s w (fun v w' => k (put n s o.dst v) w') → o.wpIn (fR ro) 0 P a w K Q := by
    intro hr
    exact wpIn_of_resE (by rw [hf.eval, show execOp (ev s) o = execOp (ev s) { o with guard := none } from rfl]; exact resE_ends (opR_ends P _ s w) hr) (fun v w' hk => hK _ _ _ (hf.put _ _) hk)
  cases hg : o.guard with
  | none =>
    simp only [hg, Option.map_none, stepG] at h
    rw [if_pos (by simp [Region.wanted, hg])]
    exact run h
  | some jw =>
    obtain ⟨j, want⟩ := jw
    simp only [hg, Option.map_some] at h
    have hw := yielded_eq hf ops j
    generalize guardS ops s j = g at h hw
    cases g with
    | bool b =>
      simp only [stepG] at h
      by_cases hb : b = want
      · subst hb
        simp only [BEq.rfl, if_true] at h
        rw [if_pos (by simp [Region.wanted, hg, hw])]
        exact run h
      · have e1 : (b == want) = false := by simpa using hb
        simp only [e1, Bool.false_eq_true, if_false] at h
        rw [if_neg (by simp [Region.wanted, hg, hw, hb])]
        exact ⟨fun f _ => trivial, hK _ _ _ (hf.put _ _) h⟩
    | _ =>
      rw [if_neg (by simp [Region.wanted, hg, hw])]
      exact ⟨fun f _ => trivial, hK _ _ _ (hf.put _ _) h⟩
theorem treeE_sound {P : Program} {n : Nat} {ops : Array Oper} {K : Slots → World → Prop} {Q : Exit → Act → World → Prop} (hQ : ∀ e a w, Q e a w → e = .normal) (hK : ∀ s w a, Fits n ds s a → K s w → Q .normal a w) (hs : Region.noSelect ops = true) :
    ∀ (t : Tree) (f : Nat) (listed : Array Bool) (s : Slots) (w : World) (a : Act), Fits n ds s a → treeB ops t f listed = true → treeE P n ops K t s w → wpAnyIn (fR ro) 0 P .any ops Q f listed a w := by
  intro t
  induction t with
  | done =>
    intro f listed s w a hf hB h
    simp only [treeB, Bool.and_eq_true, beq_iff_eq] at hB
    obtain ⟨rfl, hB⟩ := hB
    exact ⟨by simpa using hB, hK s w a hf h⟩
  | pure i r ih =>
    intro f listed s w a hf hB h
    cases f with
    | zero => simp [treeB] at hB
    | succ f =>
      simp only [treeB, Bool.and_eq_true] at hB
      unfold treeE at h
      cases hi : ops[i]? with
      | none => simp only [hi] at h; exact h.elim
      | some o =>
        simp only [hi] at h
        obtain ⟨v, hv, hk⟩ := stepO_yields hf h
        exact wpAny_first hQ hi (Region.noSelect_spec hs) f listed a w (Region.free_spec hi hB.1.2) (by simpa using hB.1.1) hv (ih _ _ _ _ _ (hf.put _ _) hB.2 hk)
  | one i r ih =>
    intro f listed s w a hf hB h
    cases f with
    | zero => simp [treeB] at hB
    | succ f =>
      simp only [treeB, Bool.and_eq_true, beq_iff_eq] at hB
      unfold treeE at h
      refine ⟨fun h0 => (by rw [hB.1] at h0; cases h0), fun j hj => ?_⟩
      rw [hB.1] at hj
      obtain rfl : j = i := by simpa using hj
      cases hi : ops[j]? with
      | none => simp only [hi] at h; exact h.elim
      | some o =>
        simp only [hi] at h
        exact stepO_runs hi hf h fun s' w' a' hf' hk => ih _ _ _ _ _ hf' hB.2 hk
  | two i r j q ih1 ih2 =>
    intro f listed s w a hf hB h
    cases f with
    | zero => simp [treeB] at hB
    | succ f =>
      simp only [treeB, Bool.and_eq_true, beq_iff_eq] at hB
      unfold treeE at h
      refine ⟨fun h0 => (by rw [hB.1.1] at h0; cases h0), fun x hx => ?_⟩
      rw [hB.1.1] at hx
      rcases (by simpa using hx : x = i ∨ x = j) with rfl | rfl
      · cases hi : ops[x]? with
        | none => simp only [hi] at h; exact h.1.elim
        | some o =>
          simp only [hi] at h
          exact stepO_runs hi hf h.1 fun s' w' a' hf' hk => ih1 _ _ _ _ _ hf' hB.1.2 hk
      · cases hi : ops[x]? with
        | none => simp only [hi] at h; exact h.2.elim
        | some o =>
          simp only [hi] at h
          exact stepO_runs hi hf h.2 fun s' w' a' hf' hk => ih2 _ _ _ _ _ hf' hB.2 hk
theorem W_cut {P : Program} {n : Nat} {c : Code} {s : Slots} {w : World} {Q : Exit → Slots → World → Prop} (Q' : Exit → Slots → World → Prop) (h : W P n c s w Q') (hQ : ∀ e s w, Q' e s w → Q e s w) : W P n c s w Q := by
  intro ro ds a hf
  exact wpIn_mono (h ro ds a hf) fun e a' w' ⟨s', hf', hq⟩ => ⟨s', hf', hQ e s' w' hq⟩
def exitsAt (id : Nat) (F : Slots → World → Prop) : Exit → Slots → World → Prop := fun e s w => e = .exit id ∧ F s w
@[go_sem] theorem exitsAt_exit (id : Nat) (F : Slots → World → Prop) (s : Slots) (w : World) : exitsAt id F (.exit id) s w = F s w := by simp [exitsAt]
theorem W_loopAt {P : Program} {n : Nat} {c : Code} {s : Slots} {w : World} {Q : Exit → Slots → World → Prop} (id : Nat) (I : Slots → World → Prop) (m : Slots → World → Nat) (F : Slots → World → Prop) (h0 : I s w)
    (round : ∀ s w, I s w → E P n c s w (@loopQ ⟨I⟩ ⟨m⟩ (m s w) (exitsAt id F))) (hF : ∀ s w, F s w → Q (.exit id) s w) : W P n (.loop c) s w Q :=
  W_cut (exitsAt id F) (W_loop I m h0 round) fun e s w ⟨he, hf⟩ => by subst he; exact hF s w hf
end Go.Proofs.YtmcbcoafodmbjaaGreatDoor
