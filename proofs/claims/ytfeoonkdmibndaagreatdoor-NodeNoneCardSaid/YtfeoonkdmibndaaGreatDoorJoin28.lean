/-
  Texts joined: Stru, NMove.
-/
import Derived.Test.YtfeoonkdmibndaaGreatDoorJoin27
import Derived.ChangeArms
import Derived.Test.YtfeoonkdmibndaaGreatDoorProg
import Derived.KernelRfl
namespace Go.Proofs.YtfeoonkdmibndaaGreatDoor
open Go.RowKit Go.ChangeShapes Go.WideShapes
set_option linter.unusedVariables false
section
variable {H : Type} {enc : TypeId × Value → H} {P : Program} {t : TypeId} {fs : Array Field}
def intField (P : Program) (f : Field) : Bool := P.cellsOf f.type == 1 && (match P.underlying f.type with | some (.int _) => true | _ => false)
theorem intField_of {f : Field} (h : intField P f = true) : P.cellsOf f.type = 1 ∧ ∃ k, P.underlying f.type = some (.int k) := by
  unfold intField at h
  simp only [Bool.and_eq_true, beq_iff_eq] at h
  refine ⟨h.1, ?_⟩
  have h2 := h.2
  split at h2
  · rename_i k e; exact ⟨k, e⟩
  · cases h2
theorem mapM_fields {W : World} {base : Nat} {sp : Nat → Bool} {held : Bool} {m : Nat} {cs : List Value} : ∀ (L : List Field) (ys : List (DataW H × List MemPlace)), (∀ f ∈ L, intField P f = true) →
    L.mapM (fun f => DataW.trod enc P W base sp held m f.type ((cs.drop f.offset).take (P.cellsOf f.type))) = some ys →
    ∀ f ∈ L, ∃ k a, P.underlying f.type = some (.int k) ∧ cs[f.offset]? = some (.int k a) ∧ (Lit.int k a).wf = true
  | [], ys, _, h => fun f hf => by cases hf
  | f :: L, ys, hall, h => by
    rw [List.mapM_cons] at h
    simp only [bind, Option.bind_eq_some_iff, pure, Option.some.injEq] at h
    obtain ⟨y, hy, ys', hys, rfl⟩ := h
    have ih := mapM_fields L ys' (fun g hg => hall g (List.mem_cons_of_mem _ hg)) hys
    obtain ⟨h1, k, hk⟩ := intField_of (hall f (List.mem_cons_self ..))
    rw [h1] at hy
    obtain ⟨a, ea, rfl, wa⟩ := DataW.trod_int hk hy
    intro g hg
    rcases List.mem_cons.1 hg with rfl | hg
    · refine ⟨k, a, hk, ?_, wa⟩
      have := congrArg (·[0]?) ea
      simpa [List.getElem?_take, List.getElem?_drop] using this
    · exact ih g hg
theorem open_struct (ht : P.underlying t = some (.struct fs)) (hall : fs.toList.all (intField P) = true) {W : World} {base b0 : Nat} {r : Reach} {sp : Nat → Bool} {held : Bool} {v : Value} {d : DataW H} {ps : List MemPlace}
    (hval : Value.okWide P W r b0 t v) (hd : DataW.Trod enc P W base sp held t v d ps) :
    ∃ cs : Array Value, v = .agg cs ∧ cs.size = P.cellsOf t ∧ ∀ f ∈ fs.toList, ∃ k a, P.underlying f.type = some (.int k) ∧ cs[f.offset]? = some (.int k a) ∧ (Lit.int k a).wf = true := by
  obtain ⟨cs, rfl, hcs⟩ := okWide_struct ht hval
  refine ⟨cs, rfl, hcs, ?_⟩
  obtain ⟨fuel, hf⟩ := hd
  cases fuel with
  | zero => simp [DataW.trod] at hf
  | succ m =>
    unfold DataW.trod at hf
    simp only [ht, Value.cells] at hf
    split at hf
    · simp only [Option.map_eq_some_iff] at hf
      obtain ⟨ys, hy, e1⟩ := hf
      intro f hfm
      obtain ⟨k, a, h1, h2, h3⟩ := mapM_fields _ _ (fun f hf => List.all_eq_true.1 hall f hf) hy f hfm
      exact ⟨k, a, h1, by simpa using h2, h3⟩
    · cases hf
def structOf (P : Program) (t : TypeId) : Option (List (Nat × Option TypeDesc × Nat)) :=
  match P.underlying t with
  | some (.struct fs) => some (fs.toList.map fun f => (f.offset, P.underlying f.type, P.cellsOf f.type))
  | _ => none
def intAt (x : Nat × Option TypeDesc × Nat) : Bool := x.2.2 == 1 && (match x.2.1 with | some (.int _) => true | _ => false)
theorem open_structL {L : List (Nat × Option TypeDesc × Nat)} (hL : structOf P t = some L) (hall : L.all intAt = true) {W : World} {base b0 : Nat} {r : Reach} {sp : Nat → Bool} {held : Bool} {v : Value} {d : DataW H} {ps : List MemPlace}
    (hval : Value.okWide P W r b0 t v) (hd : DataW.Trod enc P W base sp held t v d ps) :
    ∃ cs : Array Value, v = .agg cs ∧ cs.size = P.cellsOf t ∧ ∀ (o : Nat) (k : IntKind), (o, some (TypeDesc.int k), 1) ∈ L → ∃ a, cs[o]? = some (.int k a) ∧ (Lit.int k a).wf = true := by
  unfold structOf at hL
  split at hL
  · rename_i fs ht
    injection hL with hL
    subst hL
    have hall' : fs.toList.all (intField P) = true := by
      rw [List.all_eq_true] at hall ⊢
      intro f hf
      exact hall _ (List.mem_map.2 ⟨f, hf, rfl⟩)
    obtain ⟨cs, hv, hc, hcs⟩ := open_struct ht hall' hval hd
    refine ⟨cs, hv, hc, fun o k hm => ?_⟩
    obtain ⟨f, hf, e⟩ := List.mem_map.1 hm
    simp only [Prod.mk.injEq] at e
    obtain ⟨e1, e2, _⟩ := e
    obtain ⟨k', a, h1, h2, h3⟩ := hcs f hf
    rw [h1] at e2
    injection e2 with e2
    injection e2 with e2
    subst e1; subst e2
    exact ⟨a, h2, h3⟩
  · cases hL
/-- The same, of cells that read as such a struct. -/
theorem trod_structL {L : List (Nat × Option TypeDesc × Nat)} (hL : structOf P t = some L) (hall : L.all intAt = true) {W : World} {base fuel : Nat} {sp : Nat → Bool} {held : Bool} {cs : List Value} {y : DataW H × List MemPlace}
    (hf : DataW.trod enc P W base sp held fuel t cs = some y) : cs.length = P.cellsOf t ∧ ∀ (o : Nat) (k : IntKind), (o, some (TypeDesc.int k), 1) ∈ L → ∃ a, cs[o]? = some (.int k a) ∧ (Lit.int k a).wf = true := by
  unfold structOf at hL
  split at hL
  · rename_i fs ht
    injection hL with hL
    subst hL
    have hall' : fs.toList.all (intField P) = true := by
      rw [List.all_eq_true] at hall ⊢
      intro f hf
      exact hall _ (List.mem_map.2 ⟨f, hf, rfl⟩)
    cases fuel with
    | zero => simp [DataW.trod] at hf
    | succ m =>
      unfold DataW.trod at hf
      simp only [ht] at hf
      split at hf
      · rename_i hlen
        simp only [Option.map_eq_some_iff] at hf
        obtain ⟨ys, hy, e1⟩ := hf
        refine ⟨hlen, fun o k hm => ?_⟩
        obtain ⟨f, hfm, e⟩ := List.mem_map.1 hm
        simp only [Prod.mk.injEq] at e
        obtain ⟨e1, e2, _⟩ := e
        obtain ⟨k', a, h1, h2, h3⟩ := mapM_fields _ _ (fun f hf => List.all_eq_true.1 hall' f hf) hy f hfm
        rw [h1] at e2
        injection e2 with e2
        injection e2 with e2
        subst e1; subst e2
        exact ⟨a, h2, h3⟩
      · cases hf
  · cases hL
/-! Structs of ints, strings and bools. -/
def leafOf (d : TypeDesc) (v : Value) : Prop := match d with
  | .int k => ∃ a, v = .int k a ∧ (Lit.int k a).wf = true
  | .string => ∃ s : ByteArray, v = .string s ∧ s.size ≤ maxLen
  | .bool => ∃ b, v = .bool b
  | _ => True
def isLeaf (x : Nat × Option TypeDesc × Nat) : Bool := x.2.2 == 1 && (match x.2.1 with | some (.int _) | some .string | some .bool => true | _ => false)
theorem trod_leaf {t : TypeId} {d : TypeDesc} {W : World} {base fuel : Nat} {sp : Nat → Bool} {held : Bool} {cs : List Value} {y : DataW H × List MemPlace} (ht : P.underlying t = some d) (hl : isLeaf (0, some d, 1) = true)
    (hf : DataW.trod enc P W base sp held fuel t cs = some y) : ∃ v, cs = [v] ∧ leafOf d v := by
  cases d <;> simp [isLeaf] at hl
  case int k => obtain ⟨a, e, _, wa⟩ := DataW.trod_int ht hf; exact ⟨_, e, a, rfl, wa⟩
  case string => obtain ⟨s, e, _, ws⟩ := DataW.trod_string ht hf; exact ⟨_, e, s, rfl, ws⟩
  case bool => obtain ⟨b, e, _⟩ := DataW.trod_bool ht hf; exact ⟨_, e, b, rfl⟩
theorem mapM_leafs {W : World} {base : Nat} {sp : Nat → Bool} {held : Bool} {m : Nat} {cs : List Value} : ∀ (L : List Field) (ys : List (DataW H × List MemPlace)), (∀ f ∈ L, isLeaf (f.offset, P.underlying f.type, P.cellsOf f.type) = true) →
    L.mapM (fun f => DataW.trod enc P W base sp held m f.type ((cs.drop f.offset).take (P.cellsOf f.type))) = some ys →
    ∀ f ∈ L, ∃ d v, P.underlying f.type = some d ∧ cs[f.offset]? = some v ∧ leafOf d v
  | [], ys, _, h => fun f hf => by cases hf
  | f :: L, ys, hall, h => by
    rw [List.mapM_cons] at h
    simp only [bind, Option.bind_eq_some_iff, pure, Option.some.injEq] at h
    obtain ⟨y, hy, ys', hys, rfl⟩ := h
    have ih := mapM_leafs L ys' (fun g hg => hall g (List.mem_cons_of_mem _ hg)) hys
    have h0 := hall f (List.mem_cons_self ..)
    have h1 : P.cellsOf f.type = 1 := by simp only [isLeaf, Bool.and_eq_true, beq_iff_eq] at h0; exact h0.1
    obtain ⟨d, hd⟩ : ∃ d, P.underlying f.type = some d := by
      cases hu : P.underlying f.type with
      | none => rw [hu] at h0; simp [isLeaf] at h0
      | some d => exact ⟨d, rfl⟩
    rw [h1] at hy
    have h0' : isLeaf (0, some d, 1) = true := by rw [hd, h1] at h0; simpa [isLeaf] using h0
    obtain ⟨v, ev, hv⟩ := trod_leaf hd h0' hy
    intro g hg
    rcases List.mem_cons.1 hg with rfl | hg
    · refine ⟨d, v, hd, ?_, hv⟩
      have := congrArg (·[0]?) ev
      simpa [List.getElem?_take, List.getElem?_drop] using this
    · exact ih g hg
/-- Cells that read as such a struct. -/
theorem trod_leafs {t : TypeId} {L : List (Nat × Option TypeDesc × Nat)} (hL : structOf P t = some L) (hall : L.all isLeaf = true) {W : World} {base fuel : Nat} {sp : Nat → Bool} {held : Bool} {cs : List Value} {y : DataW H × List MemPlace}
    (hf : DataW.trod enc P W base sp held fuel t cs = some y) : cs.length = P.cellsOf t ∧ ∀ (o : Nat) (d : TypeDesc), (o, some d, 1) ∈ L → ∃ v, cs[o]? = some v ∧ leafOf d v := by
  unfold structOf at hL
  split at hL
  · rename_i fs ht
    injection hL with hL
    subst hL
    have hall' : ∀ f ∈ fs.toList, isLeaf (f.offset, P.underlying f.type, P.cellsOf f.type) = true := by
      rw [List.all_eq_true] at hall
      intro f hf
      exact hall _ (List.mem_map.2 ⟨f, hf, rfl⟩)
    cases fuel with
    | zero => simp [DataW.trod] at hf
    | succ m =>
      unfold DataW.trod at hf
      simp only [ht] at hf
      split at hf
      · rename_i hlen
        simp only [Option.map_eq_some_iff] at hf
        obtain ⟨ys, hy, e1⟩ := hf
        refine ⟨hlen, fun o d hm => ?_⟩
        obtain ⟨f, hfm, e⟩ := List.mem_map.1 hm
        simp only [Prod.mk.injEq] at e
        obtain ⟨e1, e2, _⟩ := e
        obtain ⟨d', v, h1, h2, h3⟩ := mapM_leafs _ _ hall' hy f hfm
        rw [h1] at e2
        injection e2 with e2
        subst e1; subst e2
        exact ⟨v, h2, h3⟩
      · cases hf
  · cases hL
/-- Such a struct by value. -/
theorem open_leafs {t : TypeId} {L : List (Nat × Option TypeDesc × Nat)} (hL : structOf P t = some L) (hall : L.all isLeaf = true) {W : World} {base b0 : Nat} {r : Reach} {sp : Nat → Bool} {held : Bool} {v : Value} {d : DataW H} {ps : List MemPlace}
    (hval : Value.okWide P W r b0 t v) (hd : DataW.Trod enc P W base sp held t v d ps) :
    ∃ cs : Array Value, v = .agg cs ∧ cs.size = P.cellsOf t ∧ ∀ (o : Nat) (d : TypeDesc), (o, some d, 1) ∈ L → ∃ v, cs[o]? = some v ∧ leafOf d v := by
  have hs : ∃ fs, P.underlying t = some (.struct fs) := by
    unfold structOf at hL
    split at hL
    · rename_i fs ht; exact ⟨fs, ht⟩
    · cases hL
  obtain ⟨fs, ht⟩ := hs
  obtain ⟨cs, rfl, hcs⟩ := okWide_struct ht hval
  obtain ⟨fuel, hf⟩ := hd
  obtain ⟨h1, h2⟩ := trod_leafs hL hall hf
  refine ⟨cs, rfl, hcs, fun o d hm => ?_⟩
  obtain ⟨v, hv, hl⟩ := h2 o d hm
  exact ⟨v, by simpa [Value.cells] using hv, hl⟩
/-- Cells in elements of so many, each of a plain thing. -/
theorem list_of_elems {α : Type} {m : Nat} (enc' : α → List Value) (Q : α → Prop) : ∀ (n : Nat) (xs : List Value), xs.length = n * m → (∀ i, i < n → ∃ x, (xs.drop (i * m)).take m = enc' x ∧ Q x) →
    ∃ l : List α, l.length = n ∧ xs = l.flatMap enc' ∧ ∀ x ∈ l, Q x
  | 0, xs, hlen, _ => ⟨[], rfl, by simpa using hlen, fun x hx => by cases hx⟩
  | n + 1, xs, hlen, h => by
    obtain ⟨x, hx, hq⟩ := h 0 (by omega)
    obtain ⟨l, h1, h2, h3⟩ := list_of_elems (m := m) enc' Q n (xs.drop m) (by rw [List.length_drop, hlen, Nat.succ_mul]; omega) (fun i hi => by
      obtain ⟨y, hy, hqy⟩ := h (i + 1) (by omega)
      refine ⟨y, ?_, hqy⟩
      rw [List.drop_drop, ← hy]
      congr 2
      rw [Nat.succ_mul]; omega)
    refine ⟨x :: l, by simp [h1], ?_, fun y hy => ?_⟩
    · rw [List.flatMap_cons, ← h2, ← hx]
      simp
    · rcases List.mem_cons.1 hy with rfl | hy
      · exact hq
      · exact h3 y hy
end
end Go.Proofs.YtfeoonkdmibndaaGreatDoor
namespace Go.Proofs.YtfeoonkdmibndaaGreatDoor
open Go.RowKit Go.ChangeShapes Go.WideShapes
set_option linter.unusedVariables false
set_option linter.unusedSimpArgs false
set_option maxRecDepth 10000
section
variable {H : Type} {enc : TypeId × Value → H} {P : Program}
theorem mapM_each {α β : Type} {f : α → Option β} : ∀ (L : List α) (ys : List β), L.mapM f = some ys → ∀ x ∈ L, ∃ y, f x = some y
  | [], ys, _, x, hx => by cases hx
  | z :: L, ys, h, x, hx => by
    rw [List.mapM_cons] at h
    simp only [bind, Option.bind_eq_some_iff, pure, Option.some.injEq] at h
    obtain ⟨y, hy, ys', hys, rfl⟩ := h
    rcases List.mem_cons.1 hx with rfl | hx
    · exact ⟨y, hy⟩
    · exact mapM_each L ys' hys x hx
/-- the parts of cells that read as a struct -/
theorem trod_part {t : TypeId} {L : List (Nat × Option TypeDesc × Nat)} (hL : structOf P t = some L) {W : World} {base fuel : Nat} {sp : Nat → Bool} {held : Bool} {cs : List Value} {y : DataW H × List MemPlace}
    (hf : DataW.trod enc P W base sp held fuel t cs = some y) : cs.length = P.cellsOf t ∧ ∀ (o : Nat) (d : TypeDesc) (m : Nat), (o, some d, m) ∈ L → ∃ ft fuel y, P.underlying ft = some d ∧ P.cellsOf ft = m ∧ DataW.trod enc P W base sp held fuel ft ((cs.drop o).take m) = some y := by
  unfold structOf at hL
  split at hL
  · rename_i fs ht
    injection hL with hL
    subst hL
    cases fuel with
    | zero => simp [DataW.trod] at hf
    | succ k =>
      unfold DataW.trod at hf
      simp only [ht] at hf
      split at hf
      · rename_i hlen
        simp only [Option.map_eq_some_iff] at hf
        obtain ⟨ys, hy, e1⟩ := hf
        refine ⟨hlen, fun o d m hm => ?_⟩
        obtain ⟨f, hfm, e⟩ := List.mem_map.1 hm
        simp only [Prod.mk.injEq] at e
        obtain ⟨e1, e2, e3⟩ := e
        obtain ⟨z, hz⟩ := mapM_each _ _ hy f hfm
        subst e1; subst e3
        exact ⟨f.type, k, z, e2, rfl, hz⟩
      · cases hf
  · cases hL
theorem one_at {cs : List Value} {o : Nat} {v : Value} (h : (cs.drop o).take 1 = [v]) : cs[o]? = some v := by
  have := congrArg (·[0]?) h
  simpa [List.getElem?_take, List.getElem?_drop] using this
theorem trod_sl1 {e t : TypeId} {W : World} {base fuel : Nat} {sp : Nat → Bool} {held : Bool} {cs : List Value} {y : DataW H × List MemPlace} (ht : P.underlying t = some (.slice e)) (h : DataW.trod enc P W base sp held fuel t cs = some y) : ∃ A n c, cs = [.slice A n c] := by
  rcases DataW.trod_slice ht h with ⟨rfl, _⟩ | ⟨a, len, cap, elems, rest, n, _, rfl, rfl, _⟩
  · exact ⟨_, _, _, rfl⟩
  · exact ⟨_, _, _, rfl⟩
end
theorem open_event {H : Type} {enc : TypeId × Value → H} {W : World} {base b0 : Nat} {sp : Nat → Bool} {held : Bool} {v : Value} {d : DataW H} {ps : List MemPlace} (hval : Value.okWide Tryz.prog W .any base 25 v)
    (hd : DataW.Trod enc Tryz.prog W b0 sp held 25 v d ps) : ∃ (c0 c1 c2 : Int) (A1 : Option Addr) (n1 k1 : Nat) (A2 : Option Addr) (n2 k2 : Nat), v = .agg #[.int .i64 c0, .int .i64 c1, .int .i64 c2, .slice A1 n1 k1, .slice A2 n2 k2] := by
  obtain ⟨cs, rfl, hcs⟩ := okWide_struct Tryz.underlying25 hval
  obtain ⟨fuel, hf⟩ := hd
  obtain ⟨hlen, hp⟩ := trod_part (L := [(0, some (.int .i64), 1), (1, some (.int .i64), 1), (2, some (.int .i64), 1), (3, some (.slice 5), 1), (4, some (.slice 101), 1)]) (by kernel_rfl) hf
  have int_ : ∀ o, (o, some (TypeDesc.int .i64), 1) ∈ [(0, some (TypeDesc.int .i64), 1), (1, some (.int .i64), 1), (2, some (.int .i64), 1), (3, some (.slice 5), 1), (4, some (.slice 101), 1)] → ∃ c, cs[o]? = some (.int .i64 c) := by
    intro o ho
    obtain ⟨ft, f2, y, h1, h2, h3⟩ := hp o _ 1 ho
    obtain ⟨c, e, _, _⟩ := DataW.trod_int h1 h3
    have := one_at e
    exact ⟨c, by simpa [Value.cells] using this⟩
  have sl_ : ∀ o e, (o, some (TypeDesc.slice e), 1) ∈ [(0, some (TypeDesc.int .i64), 1), (1, some (.int .i64), 1), (2, some (.int .i64), 1), (3, some (.slice 5), 1), (4, some (.slice 101), 1)] → ∃ A n c, cs[o]? = some (.slice A n c) := by
    intro o e ho
    obtain ⟨ft, f2, y, h1, h2, h3⟩ := hp o _ 1 ho
    obtain ⟨A, n, c, e⟩ := trod_sl1 h1 h3
    have := one_at e
    exact ⟨A, n, c, by simpa [Value.cells] using this⟩
  obtain ⟨c0, g0⟩ := int_ 0 (by simp)
  obtain ⟨c1, g1⟩ := int_ 1 (by simp)
  obtain ⟨c2, g2⟩ := int_ 2 (by simp)
  obtain ⟨A1, n1, k1, g3⟩ := sl_ 3 5 (by simp)
  obtain ⟨A2, n2, k2, g4⟩ := sl_ 4 101 (by simp)
  refine ⟨c0, c1, c2, A1, n1, k1, A2, n2, k2, ?_⟩
  have hsz : cs.size = 5 := hcs.trans (by kernel_rfl)
  congr 1
  apply Array.ext_getElem?
  intro i
  by_cases hi : i < 5
  · rcases (by omega : i = 0 ∨ i = 1 ∨ i = 2 ∨ i = 3 ∨ i = 4) with rfl | rfl | rfl | rfl | rfl <;> simp [*]
  · rw [Array.getElem?_eq_none (by omega), Array.getElem?_eq_none (by simp; omega)]
end Go.Proofs.YtfeoonkdmibndaaGreatDoor
