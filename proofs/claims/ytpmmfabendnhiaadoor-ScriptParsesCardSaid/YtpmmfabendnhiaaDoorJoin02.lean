/-
  Texts joined: Types, Ord.
-/
import Derived.Test.YtpmmfabendnhiaaDoorJoin01
import Derived.Test.YtpmmfabendnhiaaDoorProg
namespace Go.Proofs.YtpmmfabendnhiaaDoor
@[go_sem] theorem shape1 : shapeOf Tryd.prog 1 = some none := by kernel_rfl
@[go_sem] theorem shape2 : shapeOf Tryd.prog 2 = some none := by kernel_rfl
@[go_sem] theorem shape3 : shapeOf Tryd.prog 3 = some none := by kernel_rfl
@[go_sem] theorem shape4 : shapeOf Tryd.prog 4 = some none := by kernel_rfl
@[go_sem] theorem shape5 : shapeOf Tryd.prog 5 = some none := by kernel_rfl
@[go_sem] theorem shape6 : shapeOf Tryd.prog 6 = some none := by kernel_rfl
@[go_sem] theorem shape7 : shapeOf Tryd.prog 7 = some (some 4) := by kernel_rfl
@[go_sem] theorem shape8 : shapeOf Tryd.prog 8 = some (some 4) := by kernel_rfl
@[go_sem] theorem shape9 : shapeOf Tryd.prog 9 = some none := by kernel_rfl
@[go_sem] theorem shape10 : shapeOf Tryd.prog 10 = some none := by kernel_rfl
@[go_sem] theorem shape11 : shapeOf Tryd.prog 11 = some none := by kernel_rfl
@[go_sem] theorem shape12 : shapeOf Tryd.prog 12 = some none := by kernel_rfl
@[go_sem] theorem shape13 : shapeOf Tryd.prog 13 = some (some 2) := by kernel_rfl
@[go_sem] theorem shape14 : shapeOf Tryd.prog 14 = some (some 2) := by kernel_rfl
@[go_sem] theorem shape15 : shapeOf Tryd.prog 15 = some none := by kernel_rfl
@[go_sem] theorem shape16 : shapeOf Tryd.prog 16 = some none := by kernel_rfl
@[go_sem] theorem shape17 : shapeOf Tryd.prog 17 = some none := by kernel_rfl
@[go_sem] theorem shape18 : shapeOf Tryd.prog 18 = some (some 1) := by kernel_rfl
@[go_sem] theorem shape19 : shapeOf Tryd.prog 19 = some (some 1) := by kernel_rfl
@[go_sem] theorem shape20 : shapeOf Tryd.prog 20 = some none := by kernel_rfl
@[go_sem] theorem shape21 : shapeOf Tryd.prog 21 = some none := by kernel_rfl
@[go_sem] theorem shape22 : shapeOf Tryd.prog 22 = some none := by kernel_rfl
@[go_sem] theorem shape23 : shapeOf Tryd.prog 23 = some (some 4) := by kernel_rfl
@[go_sem] theorem shape24 : shapeOf Tryd.prog 24 = some (some 4) := by kernel_rfl
@[go_sem] theorem shape25 : shapeOf Tryd.prog 25 = some (some 5) := by kernel_rfl
@[go_sem] theorem shape26 : shapeOf Tryd.prog 26 = some (some 5) := by kernel_rfl
@[go_sem] theorem shape27 : shapeOf Tryd.prog 27 = some (some 5) := by kernel_rfl
@[go_sem] theorem shape28 : shapeOf Tryd.prog 28 = some (some 5) := by kernel_rfl
@[go_sem] theorem shape29 : shapeOf Tryd.prog 29 = some (some 5) := by kernel_rfl
@[go_sem] theorem shape30 : shapeOf Tryd.prog 30 = some (some 5) := by kernel_rfl
@[go_sem] theorem shape31 : shapeOf Tryd.prog 31 = some (some 11) := by kernel_rfl
@[go_sem] theorem shape32 : shapeOf Tryd.prog 32 = some (some 11) := by kernel_rfl
@[go_sem] theorem shape33 : shapeOf Tryd.prog 33 = some (some 28) := by kernel_rfl
@[go_sem] theorem shape34 : shapeOf Tryd.prog 34 = some (some 28) := by kernel_rfl
@[go_sem] theorem shape35 : shapeOf Tryd.prog 35 = some none := by kernel_rfl
@[go_sem] theorem shape36 : shapeOf Tryd.prog 36 = some none := by kernel_rfl
@[go_sem] theorem shape37 : shapeOf Tryd.prog 37 = some none := by kernel_rfl
@[go_sem] theorem shape38 : shapeOf Tryd.prog 38 = some (some 32) := by kernel_rfl
@[go_sem] theorem shape39 : shapeOf Tryd.prog 39 = some (some 32) := by kernel_rfl
@[go_sem] theorem shape40 : shapeOf Tryd.prog 40 = some none := by kernel_rfl
@[go_sem] theorem shape41 : shapeOf Tryd.prog 41 = some none := by kernel_rfl
@[go_sem] theorem shape43 : shapeOf Tryd.prog 43 = some none := by kernel_rfl
@[go_sem] theorem shape44 : shapeOf Tryd.prog 44 = some none := by kernel_rfl
@[go_sem] theorem shape45 : shapeOf Tryd.prog 45 = some none := by kernel_rfl
@[go_sem] theorem shape46 : shapeOf Tryd.prog 46 = some none := by kernel_rfl
@[go_sem] theorem shape47 : shapeOf Tryd.prog 47 = some (some 6) := by kernel_rfl
@[go_sem] theorem shape48 : shapeOf Tryd.prog 48 = some (some 6) := by kernel_rfl
@[go_sem] theorem shape49 : shapeOf Tryd.prog 49 = some none := by kernel_rfl
@[go_sem] theorem shape50 : shapeOf Tryd.prog 50 = some none := by kernel_rfl
@[go_sem] theorem shape52 : shapeOf Tryd.prog 52 = some none := by kernel_rfl
@[go_sem] theorem shape53 : shapeOf Tryd.prog 53 = some none := by kernel_rfl
@[go_sem] theorem shape55 : shapeOf Tryd.prog 55 = some none := by kernel_rfl
@[go_sem] theorem shape56 : shapeOf Tryd.prog 56 = some none := by kernel_rfl
@[go_sem] theorem shape57 : shapeOf Tryd.prog 57 = some none := by kernel_rfl
@[go_sem] theorem shape58 : shapeOf Tryd.prog 58 = some none := by kernel_rfl
@[go_sem] theorem shape59 : shapeOf Tryd.prog 59 = some (some 34) := by kernel_rfl
@[go_sem] theorem shape60 : shapeOf Tryd.prog 60 = some (some 34) := by kernel_rfl
@[go_sem] theorem shape62 : shapeOf Tryd.prog 62 = some none := by kernel_rfl
@[go_sem] theorem shape64 : shapeOf Tryd.prog 64 = some none := by kernel_rfl
@[go_sem] theorem shape65 : shapeOf Tryd.prog 65 = some none := by kernel_rfl
@[go_sem] theorem shape66 : shapeOf Tryd.prog 66 = some (some 2) := by kernel_rfl
@[go_sem] theorem shape67 : shapeOf Tryd.prog 67 = some (some 2) := by kernel_rfl
@[go_sem] theorem shape68 : shapeOf Tryd.prog 68 = some none := by kernel_rfl
@[go_sem] theorem shape70 : shapeOf Tryd.prog 70 = some none := by kernel_rfl
@[go_sem] theorem shape71 : shapeOf Tryd.prog 71 = some none := by kernel_rfl
@[go_sem] theorem shape72 : shapeOf Tryd.prog 72 = some none := by kernel_rfl
@[go_sem] theorem shape73 : shapeOf Tryd.prog 73 = some none := by kernel_rfl
@[go_sem] theorem shape74 : shapeOf Tryd.prog 74 = some none := by kernel_rfl
@[go_sem] theorem shape75 : shapeOf Tryd.prog 75 = some none := by kernel_rfl
@[go_sem] theorem shape76 : shapeOf Tryd.prog 76 = some (some 2) := by kernel_rfl
@[go_sem] theorem shape77 : shapeOf Tryd.prog 77 = some (some 2) := by kernel_rfl
@[go_sem] theorem shape78 : shapeOf Tryd.prog 78 = some none := by kernel_rfl
@[go_sem] theorem shape79 : shapeOf Tryd.prog 79 = some none := by kernel_rfl
@[go_sem] theorem shape80 : shapeOf Tryd.prog 80 = some none := by kernel_rfl
@[go_sem] theorem shape81 : shapeOf Tryd.prog 81 = some none := by kernel_rfl
@[go_sem] theorem shape83 : shapeOf Tryd.prog 83 = some none := by kernel_rfl
@[go_sem] theorem shape85 : shapeOf Tryd.prog 85 = some none := by kernel_rfl
@[go_sem] theorem shape86 : shapeOf Tryd.prog 86 = some none := by kernel_rfl
@[go_sem] theorem shape87 : shapeOf Tryd.prog 87 = some none := by kernel_rfl
@[go_sem] theorem shape88 : shapeOf Tryd.prog 88 = some none := by kernel_rfl
@[go_sem] theorem shape89 : shapeOf Tryd.prog 89 = some none := by kernel_rfl
@[go_sem] theorem shape90 : shapeOf Tryd.prog 90 = some none := by kernel_rfl
@[go_sem] theorem shape91 : shapeOf Tryd.prog 91 = some none := by kernel_rfl
@[go_sem] theorem shape92 : shapeOf Tryd.prog 92 = some none := by kernel_rfl
@[go_sem] theorem shape94 : shapeOf Tryd.prog 94 = some none := by kernel_rfl
@[go_sem] theorem shape95 : shapeOf Tryd.prog 95 = some none := by kernel_rfl
@[go_sem] theorem shape96 : shapeOf Tryd.prog 96 = some none := by kernel_rfl
@[go_sem] theorem shape97 : shapeOf Tryd.prog 97 = some none := by kernel_rfl
@[go_sem] theorem shape98 : shapeOf Tryd.prog 98 = some none := by kernel_rfl
@[go_sem] theorem shape99 : shapeOf Tryd.prog 99 = some none := by kernel_rfl
@[go_sem] theorem shape100 : shapeOf Tryd.prog 100 = some none := by kernel_rfl
@[go_sem] theorem shape101 : shapeOf Tryd.prog 101 = some (some 2) := by kernel_rfl
@[go_sem] theorem shape102 : shapeOf Tryd.prog 102 = some (some 2) := by kernel_rfl
@[go_sem] theorem shape103 : shapeOf Tryd.prog 103 = some none := by kernel_rfl
@[go_sem] theorem shape104 : shapeOf Tryd.prog 104 = some none := by kernel_rfl
@[go_sem] theorem shape105 : shapeOf Tryd.prog 105 = some none := by kernel_rfl
@[go_sem] theorem shape107 : shapeOf Tryd.prog 107 = some none := by kernel_rfl
@[go_sem] theorem shape108 : shapeOf Tryd.prog 108 = some none := by kernel_rfl
@[go_sem] theorem shape109 : shapeOf Tryd.prog 109 = some none := by kernel_rfl
@[go_sem] theorem shape110 : shapeOf Tryd.prog 110 = some none := by kernel_rfl
@[go_sem] theorem shape111 : shapeOf Tryd.prog 111 = some none := by kernel_rfl
@[go_sem] theorem shape112 : shapeOf Tryd.prog 112 = some none := by kernel_rfl
@[go_sem] theorem shape113 : shapeOf Tryd.prog 113 = some none := by kernel_rfl
@[go_sem] theorem shape114 : shapeOf Tryd.prog 114 = some none := by kernel_rfl
@[go_sem] theorem shape115 : shapeOf Tryd.prog 115 = some none := by kernel_rfl
@[go_sem] theorem shape116 : shapeOf Tryd.prog 116 = some none := by kernel_rfl
@[go_sem] theorem shape117 : shapeOf Tryd.prog 117 = some none := by kernel_rfl
@[go_sem] theorem shape118 : shapeOf Tryd.prog 118 = some none := by kernel_rfl
@[go_sem] theorem shape119 : shapeOf Tryd.prog 119 = some (some 24) := by kernel_rfl
@[go_sem] theorem shape120 : shapeOf Tryd.prog 120 = some none := by kernel_rfl
@[go_sem] theorem shape121 : shapeOf Tryd.prog 121 = some none := by kernel_rfl
@[go_sem] theorem shape123 : shapeOf Tryd.prog 123 = some none := by kernel_rfl
@[go_sem] theorem shape124 : shapeOf Tryd.prog 124 = some none := by kernel_rfl
@[go_sem] theorem shape125 : shapeOf Tryd.prog 125 = some none := by kernel_rfl
@[go_sem] theorem shape126 : shapeOf Tryd.prog 126 = some none := by kernel_rfl
@[go_sem] theorem shape127 : shapeOf Tryd.prog 127 = some none := by kernel_rfl
@[go_sem] theorem shape128 : shapeOf Tryd.prog 128 = some none := by kernel_rfl
@[go_sem] theorem shape129 : shapeOf Tryd.prog 129 = some none := by kernel_rfl
@[go_sem] theorem shape130 : shapeOf Tryd.prog 130 = some (some 20) := by kernel_rfl
@[go_sem] theorem shape131 : shapeOf Tryd.prog 131 = some none := by kernel_rfl
@[go_sem] theorem shape132 : shapeOf Tryd.prog 132 = some (some 65) := by kernel_rfl
@[go_sem] theorem shape133 : shapeOf Tryd.prog 133 = some none := by kernel_rfl
@[go_sem] theorem shape134 : shapeOf Tryd.prog 134 = some none := by kernel_rfl
@[go_sem] theorem shape135 : shapeOf Tryd.prog 135 = some none := by kernel_rfl
@[go_sem] theorem shape136 : shapeOf Tryd.prog 136 = some none := by kernel_rfl
@[go_sem] theorem shape138 : shapeOf Tryd.prog 138 = some none := by kernel_rfl
@[go_sem] theorem shape139 : shapeOf Tryd.prog 139 = some none := by kernel_rfl
@[go_sem] theorem shape140 : shapeOf Tryd.prog 140 = some (some 32) := by kernel_rfl
@[go_sem] theorem shape141 : shapeOf Tryd.prog 141 = some (some 64) := by kernel_rfl
@[go_sem] theorem shape142 : shapeOf Tryd.prog 142 = some (some 4) := by kernel_rfl
@[go_sem] theorem shape143 : shapeOf Tryd.prog 143 = some (some 4) := by kernel_rfl
@[go_sem] theorem shape144 : shapeOf Tryd.prog 144 = some (some 0) := by kernel_rfl
@[go_sem] theorem shape145 : shapeOf Tryd.prog 145 = some (some 0) := by kernel_rfl
@[go_sem] theorem shape146 : shapeOf Tryd.prog 146 = some (some 0) := by kernel_rfl
@[go_sem] theorem shape147 : shapeOf Tryd.prog 147 = some none := by kernel_rfl
@[go_sem] theorem shape148 : shapeOf Tryd.prog 148 = some none := by kernel_rfl
@[go_sem] theorem shape149 : shapeOf Tryd.prog 149 = some none := by kernel_rfl
@[go_sem] theorem shape150 : shapeOf Tryd.prog 150 = some none := by kernel_rfl
@[go_sem] theorem shape151 : shapeOf Tryd.prog 151 = some none := by kernel_rfl
@[go_sem] theorem shape152 : shapeOf Tryd.prog 152 = some none := by kernel_rfl
@[go_sem] theorem shape153 : shapeOf Tryd.prog 153 = some (some 11) := by kernel_rfl
@[go_sem] theorem shape154 : shapeOf Tryd.prog 154 = some (some 11) := by kernel_rfl
theorem el2 : El Tryd.prog 2 1 8 := el_of (z := (.int .i64 0)) (by kernel_rfl) (by simp [Value.cells]) (by decide)
theorem el3 : El Tryd.prog 3 1 8 := el_of (z := (.int .i64 0)) (by kernel_rfl) (by simp [Value.cells]) (by decide)
theorem el5 : El Tryd.prog 5 1 1 := el_of (z := (.int .u8 0)) (by kernel_rfl) (by simp [Value.cells]) (by decide)
theorem el9 : El Tryd.prog 9 1 16 := el_of (z := (.string ByteArray.empty)) (by kernel_rfl) (by simp [Value.cells]) (by decide)
theorem el48 : El Tryd.prog 48 6 80 := el_of (z := (.agg #[(.int .i64 0), (.int .i64 0), (.int .i64 0), (.int .i64 0), (.slice none 0 0), (.slice none 0 0)])) (by kernel_rfl) (by simp [Value.cells]) (by decide)
theorem el53 : El Tryd.prog 53 1 8 := el_of (z := (.int .u64 0)) (by kernel_rfl) (by simp [Value.cells]) (by decide)
theorem el67 : El Tryd.prog 67 2 24 := el_of (z := (.agg #[(.string ByteArray.empty), (.int .i64 0)])) (by kernel_rfl) (by simp [Value.cells]) (by decide)
theorem el88 : El Tryd.prog 88 1 24 := el_of (z := (.slice none 0 0)) (by kernel_rfl) (by simp [Value.cells]) (by decide)
theorem el110 : El Tryd.prog 110 1 8 := el_of (z := (.pointer none)) (by kernel_rfl) (by simp [Value.cells]) (by decide)
theorem follows : Tryd.prog.follows .mixedOrders = true := by kernel_rfl
end Go.Proofs.YtpmmfabendnhiaaDoor
namespace Go.Proofs.YtpmmfabendnhiaaDoor
open Go.RowKit
set_option linter.unusedVariables false
variable {ro : Option Nat} {ds : List Deferred}
def bindsTo (o : Oper) (j : Nat) : Bool := o.after.any fun e => Region.binds .any e && e.on == j
def isSelect : Op → Bool
  | .select _ _ => true
  | _ => false
def ordB (ops : Array Oper) : Bool :=
  (List.range ops.size).all fun i => match ops[i]? with
    | none => true
    | some o => !isSelect o.op && (o.after.all fun e => !Region.binds .any e || decide (e.on < i)) &&
      (List.range ops.size).all fun j => match ops[j]? with
        | none => true
        | some p => match p.dst with
          | none => true
          | some d => (!(o.looksAt ops).contains d || bindsTo o j) && (j == i || o.dst != some d)
def putAll (n : Nat) : List Oper → List Value → Slots → Slots
  | o :: l, v :: vs, s => putAll n l vs (put n s o.dst v)
  | _, _, s => s
def oneE (P : Program) (ops : Array Oper) (R : World → Prop) (s : Slots) (o : Oper) (v : Value) : Prop :=
  match o.guard with
  | none => ∀ w, R w → resE P (opR P o s w) fun u w' => u = v ∧ R w'
  | some (j, want) =>
    match guardS ops s j with
    | .bool b => if b == want then ∀ w, R w → resE P (opR P { o with guard := none } s w) fun u w' => u = v ∧ R w' else v = undef
    | _ => v = undef
def eachE (P : Program) (ops : Array Oper) (R : World → Prop) (s : Slots) : List Oper → List Value → Prop
  | o :: l, v :: vs => oneE P ops R s o v ∧ eachE P ops R s l vs
  | [], [] => True
  | _, _ => False
theorem ordB_at {ops : Array Oper} (h : ordB ops = true) {i : Nat} {o : Oper} (hi : ops[i]? = some o) :
    (∀ cs b, o.op ≠ .select cs b) ∧ (∀ e ∈ o.after, Region.binds .any e = true → e.on < i) ∧
    ∀ (j : Nat) (p : Oper) (d : Tmp), ops[j]? = some p → p.dst = some d → (d ∈ o.looksAt ops → ∃ e ∈ o.after, Region.binds .any e = true ∧ e.on = j) ∧ (j ≠ i → o.dst ≠ some d) := by
  have hlt : i < ops.size := (Array.getElem?_eq_some_iff.1 hi).1
  unfold ordB at h
  rw [List.all_eq_true] at h
  have h1 := h i (List.mem_range.2 hlt)
  simp only [hi, Bool.and_eq_true] at h1
  obtain ⟨⟨h1, h2⟩, h3⟩ := h1
  refine ⟨(fun cs b e => by rw [e] at h1; cases h1), fun e he hb => ?_, fun j p d hj hd => ?_⟩
  · have := Array.all_eq_true_iff_forall_mem.1 h2 e he
    simp [hb] at this; exact this
  · rw [List.all_eq_true] at h3
    have h4 := h3 j (List.mem_range.2 (Array.getElem?_eq_some_iff.1 hj).1)
    simp only [hj, hd, Bool.and_eq_true, Bool.or_eq_true] at h4
    obtain ⟨h4, h5⟩ := h4
    refine ⟨fun hm => ?_, fun hne => ?_⟩
    · rcases h4 with h4 | h4
      · simp [hm] at h4
      · unfold bindsTo at h4
        obtain ⟨e, he, hb⟩ := Array.any_eq_true'.1 h4
        simp only [Bool.and_eq_true, beq_iff_eq] at hb
        exact ⟨e, he, hb.1, hb.2⟩
    · rcases h5 with h5 | h5
      · exact absurd (by simpa using h5) hne
      · simpa using h5
theorem put_far (n : Nat) (s : Slots) (d : Option Tmp) (v : Value) (k : Nat) (h : d ≠ some k) : put n s d v k = s k := by
  cases d with
  | none => rfl
  | some d => exact put_other n s d k v (fun e => h (by rw [e]))
theorem putAll_far (n : Nat) : ∀ (l : List Oper) (vs : List Value) (s : Slots) (k : Nat), (∀ o ∈ l, o.dst ≠ some k) → putAll n l vs s k = s k
  | [], vs, s, k, _ => rfl
  | o :: l, [], s, k, _ => rfl
  | o :: l, v :: vs, s, k, h => by
    rw [putAll, putAll_far n l vs _ k (fun p hp => h p (List.mem_cons_of_mem _ hp)), put_far _ _ _ _ _ (h o List.mem_cons_self)]
theorem putAll_at (n : Nat) : ∀ (l : List Oper) (vs : List Value) (s : Slots) (i : Nat) (o : Oper) (v : Value) (d : Tmp), l[i]? = some o → vs[i]? = some v → o.dst = some d →
    (∀ (j : Nat) (p : Oper), l[j]? = some p → p.dst = some d → j = i) → putAll n l vs s d = put n s (some d) v d
  | [], vs, s, i, o, v, d, h, _, _, _ => by simp at h
  | p :: l, [], s, i, o, v, d, _, h, _, _ => by simp at h
  | p :: l, u :: vs, s, 0, o, v, d, h1, h2, h3, h4 => by
    simp only [List.getElem?_cons_zero, Option.some.injEq] at h1 h2
    subst h1 h2
    rw [putAll, h3, putAll_far]
    intro q hq hd
    obtain ⟨j, hj⟩ := List.mem_iff_getElem?.1 hq
    exact absurd (h4 (j + 1) q (by simpa using hj) hd) (by omega)
  | p :: l, u :: vs, s, i + 1, o, v, d, h1, h2, h3, h4 => by
    rw [putAll, putAll_at n l vs _ i o v d (by simpa using h1) (by simpa using h2) h3 (fun j q hj hd => by have := h4 (j + 1) q (by simpa using hj) hd; omega)]
    have hp : p.dst ≠ some d := fun hd => absurd (h4 0 p rfl hd) (by omega)
    have := put_far n s p.dst u d hp
    show (if d = d ∧ d < n then v else put n s p.dst u d) = if d = d ∧ d < n then v else s d
    rw [this]
theorem eachE_at {P : Program} {ops : Array Oper} {R : World → Prop} {s : Slots} : ∀ {l : List Oper} {vs : List Value}, eachE P ops R s l vs → ∀ (i : Nat) (o : Oper), l[i]? = some o → ∃ v, vs[i]? = some v ∧ oneE P ops R s o v
  | [], _, _, i, o, h => by simp at h
  | p :: l, [], h, _, _, _ => h.elim
  | p :: l, u :: vs, h, 0, o, hi => by simp at hi; subst hi; exact ⟨u, rfl, h.1⟩
  | p :: l, u :: vs, h, i + 1, o, hi => by simpa using eachE_at h.2 i o (by simpa using hi)
theorem getD_far (xs : Array Bool) {i j : Nat} (h : j ≠ i) {v d : Bool} : (xs.setIfInBounds i v).getD j d = xs.getD j d := by
  simp [Array.getD_eq_getD_getElem?, Array.getElem?_setIfInBounds, Ne.symm h]
/-- What holds when some operations have run. -/
def Part (P : Program) (n : Nat) (ds : List Deferred) (ops : Array Oper) (R : World → Prop) (s S : Slots) (listed : Array Bool) (a : Act) (w : World) : Prop :=
  R w ∧ listed.size = ops.size ∧ ∃ s', Fits n ds s' a ∧ (∀ (i : Nat) (o : Oper) (d : Tmp), ops[i]? = some o → o.dst = some d → listed.getD i true = true → s' d = S d) ∧
    ∀ k : Nat, (∀ (i : Nat) (o : Oper), ops[i]? = some o → listed.getD i true = true → o.dst ≠ some k) → s' k = s k
theorem Part.step {P : Program} {n : Nat} {l : List Oper} {vs : List Value} {R : World → Prop} {s : Slots} {Q : Exit → Act → World → Prop} (hB : ordB l.toArray = true) (h : eachE P l.toArray R (putAll n l vs s) l vs)
    {listed : Array Bool} {a : Act} {w : World} (hp : Part P n ds l.toArray R s (putAll n l vs s) listed a w) {i : Nat} (hi : i ∈ Region.ready .any l.toArray listed) :
    wpOpIn (fR ro) 0 P l.toArray Q i (Part P n ds l.toArray R s (putAll n l vs s) (listed.setIfInBounds i true)) a w := by
  obtain ⟨hR, hsz, s', hf, h1, h2⟩ := hp
  obtain ⟨hun, o, ho, hall⟩ := mem_ready.1 hi
  obtain ⟨hsel, hback, hdst⟩ := ordB_at hB ho
  have hlt : i < l.toArray.size := (Array.getElem?_eq_some_iff.1 ho).1
  have hol : l[i]? = some o := by simpa using ho
  obtain ⟨v, hv, hone⟩ := eachE_at h i o hol
  have hagree : ∀ t, t ∈ o.looksAt l.toArray → s' t = putAll n l vs s t := by
    intro t ht
    by_cases hex : ∃ (j : Nat) (p : Oper), l.toArray[j]? = some p ∧ p.dst = some t
    · obtain ⟨j, p, hj, hd⟩ := hex
      obtain ⟨e, he, hb, rfl⟩ := (hdst j p t hj hd).1 ht
      have hlj := hall e he hb
      refine h1 e.on p t hj hd ?_
      rcases Nat.lt_or_ge e.on listed.size with hl | hl
      · simpa [Array.getD, hl] using hlj
      · simp [Array.getD, Nat.not_lt.2 hl]
    · rw [h2 t (fun j p hj _ hd => hex ⟨j, p, hj, hd⟩), putAll_far]
      intro p hp hd
      obtain ⟨j, hj⟩ := List.mem_iff_getElem?.1 hp
      exact hex ⟨j, p, by simpa using hj, hd⟩
  have hexec : execOp a.eval o = execOp (ev (putAll n l vs s)) o := by
    rw [hf.eval]
    refine execOp_congr o hsel fun x hx => ?_
    cases x with
    | tmp t => exact hagree t (List.mem_append_left _ (List.mem_filterMap.2 ⟨.tmp t, by simpa using hx, rfl⟩))
    | _ => rfl
  have hnext : ∀ w', R w' → Part P n ds l.toArray R s (putAll n l vs s) (listed.setIfInBounds i true) (a.put o.dst v) w' := by
    intro w' hR'
    have hset : ∀ j, (listed.setIfInBounds i true).getD j true = true → j = i ∨ listed.getD j true = true := by
      intro j hj
      by_cases hji : j = i
      · exact .inl hji
      · right
        rw [getD_far _ hji] at hj; exact hj
    have hset2 : ∀ j, listed.getD j true = true → (listed.setIfInBounds i true).getD j true = true := by
      intro j hj
      by_cases hji : j = i
      · subst hji; simp [Array.getD, hsz]
      · rw [getD_far _ hji]; exact hj
    have hset3 : (listed.setIfInBounds i true).getD i true = true := by simp [Array.getD]
    have huniq : ∀ (d : Tmp), o.dst = some d → ∀ (j : Nat) (p : Oper), l[j]? = some p → p.dst = some d → j = i := fun d hd j p hj hpd => by
      by_cases hji : j = i
      · exact hji
      · exact absurd hd ((hdst j p d (by simpa using hj) hpd).2 hji)
    refine ⟨hR', by simp [hsz], put n s' o.dst v, hf.put _ _, fun j p d hj hd hlj => ?_, fun k hk => ?_⟩
    · by_cases hji : j = i
      · subst hji
        obtain rfl : p = o := Option.some.inj (hj.symm.trans ho)
        rw [putAll_at n l vs s j p v d hol hv hd (huniq d hd), hd]
        show (if d = d ∧ d < n then v else s' d) = if d = d ∧ d < n then v else s d
        rw [h2 d (fun j2 p2 hj2 hl2 hd2 => by
          have := huniq d hd j2 p2 (by simpa using hj2) hd2
          subst this
          rw [hun] at hl2
          cases hl2)]
      · rw [put_far _ _ _ _ _ ((hdst j p d hj hd).2 hji)]
        exact h1 j p d hj hd ((hset j hlj).resolve_left hji)
    · rw [put_far _ _ _ _ _ (hk i o ho hset3)]
      exact h2 k fun j p hj hlj => hk j p hj (hset2 j hlj)
  unfold wpOpIn
  simp only [ho]
  cases hg : o.guard with
  | none =>
    rw [if_pos (by simp [Region.wanted, hg])]
    unfold oneE at hone
    simp only [hg] at hone
    exact wpIn_of_resE (by rw [hexec]; exact resE_ends (opR_ends P o _ w) (hone w hR)) (fun u w' hu => by obtain ⟨rfl, hR'⟩ := hu; exact hnext w' hR')
  | some jw =>
    obtain ⟨j, want⟩ := jw
    unfold oneE at hone
    simp only [hg] at hone
    have hgs : guardS l.toArray s' j = guardS l.toArray (putAll n l vs s) j := by
      unfold guardS
      cases hd : (l.toArray[j]?).bind (·.dst) with
      | none => rfl
      | some d => exact hagree d (List.mem_append_right _ (by simp only [hg, hd]; simp))
    simp only [Region.wanted, hg, yielded_eq hf, hgs]
    have hrun : (∀ w, R w → resE P (opR P { o with guard := none } (putAll n l vs s) w) fun u w' => u = v ∧ R w') → o.wpIn (fR ro) 0 P a w (Part P n ds l.toArray R s (putAll n l vs s) (listed.setIfInBounds i true)) Q := by
      intro hone
      exact wpIn_of_resE (by rw [hexec, show execOp (ev (putAll n l vs s)) o = execOp (ev (putAll n l vs s)) { o with guard := none } from rfl]; exact resE_ends (opR_ends P _ _ w) (hone w hR)) (fun u w' hu => by obtain ⟨rfl, hR'⟩ := hu; exact hnext w' hR')
    generalize guardS l.toArray (putAll n l vs s) j = g at hone
    cases g with
    | bool b =>
      simp only at hone ⊢
      by_cases hb : b = want
      · subst hb
        simp only [BEq.rfl, if_true] at hone ⊢
        exact hrun hone
      · have e1 : (b == want) = false := by simpa using hb
        simp only [e1, Bool.false_eq_true, if_false] at hone
        rw [if_neg (by simpa using hb)]
        exact ⟨fun f _ => trivial, hone ▸ hnext w hR⟩
    | _ => simp only at hone ⊢; rw [if_neg (by simp)]; exact ⟨fun f _ => trivial, hone ▸ hnext w hR⟩
theorem getD_true {xs : Array Bool} {i : Nat} (h : xs.getD i true = false) : ∃ hl : i < xs.toList.length, xs.toList[i] = false := by
  rcases Nat.lt_or_ge i xs.size with hl | hl
  · exact ⟨by simpa using hl, by simpa [Array.getD, hl] using h⟩
  · simp [Array.getD, Nat.not_lt.2 hl] at h
theorem Part.all {P : Program} {n : Nat} {l : List Oper} {vs : List Value} {R : World → Prop} {s : Slots} {Q : Exit → Act → World → Prop} (hB : ordB l.toArray = true) (h : eachE P l.toArray R (putAll n l vs s) l vs)
    (hend : ∀ listed a w, Part P n ds l.toArray R s (putAll n l vs s) listed a w → Region.ready .any l.toArray listed = [] → Q .normal a w) :
    ∀ (fuel : Nat) (listed : Array Bool) (a : Act) (w : World), Part P n ds l.toArray R s (putAll n l vs s) listed a w → listed.toList.countP (fun b => !b) ≤ fuel → wpAnyIn (fR ro) 0 P .any l.toArray Q fuel listed a w := by
  intro fuel
  induction fuel with
  | zero =>
    intro listed a w hp hc
    have hr : Region.ready .any l.toArray listed = [] := by
      rw [List.eq_nil_iff_forall_not_mem]
      intro i hi
      obtain ⟨hl, hv⟩ := getD_true (mem_ready.1 hi).1
      have := List.countP_eq_zero.1 (Nat.le_zero.1 hc) _ (List.getElem_mem hl)
      simp [hv] at this
    exact ⟨hr, hend listed a w hp hr⟩
  | succ fuel ih =>
    intro listed a w hp hc
    refine ⟨fun hr => hend listed a w hp hr, fun i hi => ?_⟩
    obtain ⟨hl, hv⟩ := getD_true (mem_ready.1 hi).1
    refine wpOpIn_mono (fun a' w' hp' => ih _ _ _ hp' ?_) (hp.step (Q := Q) hB h hi)
    rw [Array.toList_setIfInBounds, List.countP_set hl]
    generalize List.countP (fun b => !b) listed.toList = c at hc ⊢
    simp [hv]
    omega
theorem Part.done {P : Program} {n : Nat} {l : List Oper} {vs : List Value} {R : World → Prop} {s : Slots} (hB : ordB l.toArray = true) {listed : Array Bool} {a : Act} {w : World}
    (hp : Part P n ds l.toArray R s (putAll n l vs s) listed a w) (hr : Region.ready .any l.toArray listed = []) : Fits n ds (putAll n l vs s) a := by
  obtain ⟨hR, hsz, s', hf, h1, h2⟩ := hp
  have hall : ∀ i, i < l.toArray.size → listed.getD i true = true := by
    intro i
    induction i using Nat.strongRecOn with
    | _ i ih =>
      intro hi
      cases hun : listed.getD i true with
      | true => rfl
      | false =>
        have ho : l.toArray[i]? = some l.toArray[i] := Array.getElem?_eq_getElem hi
        have hm : i ∈ Region.ready .any l.toArray listed := mem_ready.2 ⟨hun, _, ho, fun e he hb => by
          have hlt := (ordB_at hB ho).2.1 e he hb
          have h3 := ih e.on hlt (by omega)
          have hl : e.on < listed.size := by omega
          simpa [Array.getD, hl] using h3⟩
        rw [hr] at hm
        cases hm
  have he : s' = putAll n l vs s := by
    funext k
    by_cases hex : ∃ (j : Nat) (p : Oper), l.toArray[j]? = some p ∧ p.dst = some k
    · obtain ⟨j, p, hj, hd⟩ := hex
      exact h1 j p k hj hd (hall j (Array.getElem?_eq_some_iff.1 hj).1)
    · rw [h2 k (fun j p hj _ hd => hex ⟨j, p, hj, hd⟩), putAll_far]
      intro p hp hd
      obtain ⟨j, hj⟩ := List.mem_iff_getElem?.1 hp
      exact hex ⟨j, p, by simpa using hj, hd⟩
  exact he ▸ hf
/-- A drawn region whose operations' values are known beforehand. -/
theorem W_any {P : Program} {n id : Nat} {l : List Oper} {s : Slots} {w : World} {Q : Exit → Slots → World → Prop} (vs : List Value) (R : World → Prop) (hm : P.follows .mixedOrders = true) (hB : ordB l.toArray = true) (hR : R w.drew)
    (h : eachE P l.toArray R (putAll n l vs s) l vs) (hk : ∀ w', R w' → Q .normal (putAll n l vs s) w') : W P n (.region id l.toArray true) s w Q := by
  intro ro ds a hf
  have h1 : (Code.region id l.toArray true).wpIn (fR ro) 0 P (fun e a' w' => e = .normal ∧ ∃ s', Fits n ds s' a' ∧ Q .normal s' w') a w := by
    refine wpIn_region_any hm ?_
    refine Part.all hB h (fun listed a' w' hp hr => ⟨rfl, _, hp.done hB hr, hk w' hp.1⟩) _ _ _ _ ⟨hR, by simp, s, hf, fun i o d hi hd hl => ?_, fun k _ => rfl⟩ (by simp [List.countP_replicate])
    have hlt : i < l.length := by have := (Array.getElem?_eq_some_iff.1 hi).1; simpa using this
    simp [Array.getD, hlt] at hl
  exact wpIn_mono h1 fun e a' w' ⟨he, s', hf', hq⟩ => by subst he; exact ⟨s', hf', hq⟩
end Go.Proofs.YtpmmfabendnhiaaDoor
