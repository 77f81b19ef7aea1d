/-
  Texts joined: Own, Runes.
-/
import Derived.Test.YtjjopoigbonjbaaGreatDoorJoin27
import GoSem.Core.Utf8
namespace Go.Proofs.YtjjopoigbonjbaaGreatDoor
open Go.RowKit
set_option linter.unusedVariables false
theorem row_keeps {O : Nat → Prop} {a b : World} {base e size n : Nat} {v : Value} {xs : List Value} (h : a.ownsRow base e size v n xs) (hk : Keeps O a b) (hv : ∀ j, v.ownBlock = some j → O j) : b.ownsRow base e size v n xs := by
  refine ⟨h.1, ?_⟩
  rcases h.2 with hn | ⟨g, cap, cur, rfl, hb, hg, rest⟩
  · exact .inl hn
  · exact .inr ⟨g, cap, cur, rfl, hb, (hk.block g (Array.getElem?_eq_some_iff.1 hg).1 (hv g rfl)).trans hg, rest⟩
theorem row_below {a b : World} {base e size n : Nat} {v : Value} {xs : List Value} (h : a.ownsRow base e size v n xs) (hk : Below a.heap.size a b) : b.ownsRow base e size v n xs := row_keeps h (Keeps.of_ext (O := fun _ => True) hk) fun _ _ => trivial
/-- a row, and a block of another element type -/
theorem row_ne {w : World} {B e size n g : Nat} {v : Value} {xs : List Value} {t : TypeId} {cs : Array Value} (h : w.ownsRow B e size v n xs) (hg : Blk w g t cs) (hne : e ≠ t) : v.ownBlock ≠ some g := by
  rcases h.2 with ⟨rfl, _⟩ | ⟨k, cap, cur, rfl, _, hk, _⟩
  · simp [Value.ownBlock]
  · intro h2
    simp only [Value.ownBlock, Option.some.injEq] at h2
    subst h2
    unfold Blk at hg
    rw [hg] at hk
    injection hk with hk
    injection hk with _ h3 _
    exact hne h3.symm
/-- two rows of unlike element types -/
theorem rows_ne {w : World} {B B' e e' size size' n n' : Nat} {v v' : Value} {xs xs' : List Value} (h : w.ownsRow B e size v n xs) (h' : w.ownsRow B' e' size' v' n' xs') (hne : e ≠ e') : ∀ j, v.ownBlock = some j → v'.ownBlock ≠ some j := by
  intro j hj
  rcases h.2 with ⟨rfl, _⟩ | ⟨k, cap, cur, rfl, _, hk, _⟩
  · simp [Value.ownBlock] at hj
  · simp only [Value.ownBlock, Option.some.injEq] at hj
    subst hj
    exact row_ne (t := e) (cs := cur) h' hk (fun e => hne e.symm)
/-- a field of one cell, of a struct by value -/
theorem run_field1 {P : Program} {w : World} {t i : Nat} {fs : Array Field} {f : Field} {cs : Array Value} {v : Value} (hu : P.underlying t = some (.struct fs)) (hf : fs[i]? = some f) (hs : shapeOf P f.type = some none) (hc : cs[f.offset]? = some v) : (Instr.field t (.agg cs) i).run P w = .ok v w := by
  simp [Instr.field, run_underlying hu, hf, part, asAgg, run_isAgg hs, hc]
theorem Sl_on {w w' : World} {size n : Nat} {v : Value} {xs : List Value} (h : Sl w size v n xs) (hb : Below w.heap.size w w') : Sl w' size v n xs := by
  obtain ⟨A, c, h1, h2, h3⟩ := h
  exact ⟨A, c, h1, h2.keep hb, h3⟩
/-- the block of a slice -/
def atB (n : Nat) (A : Option Addr) (j : Nat) : Prop := 0 < n ∧ ∃ b o, A = some ⟨b, o, none⟩ ∧ j = b
theorem Rd_on {N : Nat → Prop} {w w' : World} {size n : Nat} {A : Option Addr} {xs : List Value} (h : Rd w size A n xs) (hk : Keeps N w w') (hN : ∀ j, atB n A j → N j) : Rd w' size A n xs := by
  by_cases h0 : 0 < n
  · exact hk.rd h fun g o e => hN g ⟨h0, g, o, e, rfl⟩
  · obtain rfl : n = 0 := by omega
    have hl := h.len
    obtain rfl : xs = [] := List.length_eq_zero_iff.1 (by omega)
    exact Rd.nil_ _ _ _
theorem atB_row {w : World} {base e size n c : Nat} {A : Option Addr} {xs : List Value} (h : w.ownsRow base e size (.slice A n c) n xs) {j : Nat} (hj : atB n A j) : (Value.slice A n c).ownBlock = some j := by
  obtain ⟨h0, b, o, rfl, rfl⟩ := hj
  rcases h.2 with ⟨e1, _⟩ | ⟨g, cap, cur, e1, _⟩
  · cases e1
  · injection e1 with e1
    injection e1 with e1
    injection e1 with e1
    subst e1
    rfl
theorem atB_lt {w : World} {size n : Nat} {A : Option Addr} {xs : List Value} (h : Rd w size A n xs) {j : Nat} (hj : atB n A j) : j < w.heap.size := by
  obtain ⟨h0, b, o, rfl, rfl⟩ := hj
  obtain ⟨b', o', e, hlt, _⟩ := h.cells h0
  injection e with e
  injection e with e
  omega
end Go.Proofs.YtjjopoigbonjbaaGreatDoor
namespace Go.Proofs.YtjjopoigbonjbaaGreatDoor
open Go.RowKit
set_option linter.unusedVariables false
set_option linter.unusedSimpArgs false
theorem width_pos (s : ByteArray) (i : Nat) : 1 ≤ (Utf8.decode s i).2 := by
  unfold Utf8.decode
  simp only
  repeat' split
  all_goals simp
/-- the runes of s from the byte i on -/
def runesF (s : ByteArray) : Nat → Nat → List Int
  | 0, _ => []
  | f + 1, i => if i < s.size then ((Utf8.decode s i).1 : Int) :: runesF s f (i + (Utf8.decode s i).2) else []
def runesAt (s : ByteArray) (i : Nat) : List Int := runesF s s.size i
def runes (s : ByteArray) : List Int := runesAt s 0
theorem runesF_more (s : ByteArray) : ∀ (f g i : Nat), s.size ≤ f + i → s.size ≤ g + i → runesF s f i = runesF s g i
  | 0, 0, _, _, _ => rfl
  | 0, g + 1, i, h, _ => by simp [runesF]; omega
  | f + 1, 0, i, _, h => by simp [runesF]; omega
  | f + 1, g + 1, i, h1, h2 => by
    have := width_pos s i
    simp only [runesF]
    split
    · rw [runesF_more s f g _ (by omega) (by omega)]
    · rfl
theorem runesAt_next {s : ByteArray} {i : Nat} (h : i < s.size) : runesAt s i = ((Utf8.decode s i).1 : Int) :: runesAt s (i + (Utf8.decode s i).2) := by
  have hw := width_pos s i
  unfold runesAt
  obtain ⟨n, hn⟩ : ∃ n, s.size = n + 1 := ⟨s.size - 1, by omega⟩
  have : runesF s s.size i = runesF s (n + 1) i := by rw [hn]
  rw [this]
  simp only [runesF, h, if_true]
  rw [runesF_more s n s.size _ (by omega) (by omega)]
theorem runesAt_end {s : ByteArray} {i : Nat} (h : ¬ i < s.size) : runesAt s i = [] := by
  unfold runesAt
  cases s.size with
  | zero => rfl
  | succ n => simp [runesF, h]
/-- an iterator over a string, at the byte i -/
def It (w : World) (r : Nat) (s : ByteArray) (i : Nat) : Prop := w.heap[r]? = some (.stringIter s i)
def itPut (w : World) (r : Nat) (o : Obj) : World := { w with heap := w.heap.setIfInBounds r o }
section
variable {P : Program} {w : World} {r : Nat} {s : ByteArray} {i : Nat}
theorem It.lt (h : It w r s i) : r < w.heap.size := (Array.getElem?_eq_some_iff.1 h).1
theorem It.keep {w' : World} (h : It w r s i) (hb : Below w.heap.size w w') : It w' r s i := (hb.block r h.lt).trans h
theorem It_made (w : World) (s : ByteArray) : It (w.alloc (.stringIter s 0)) w.heap.size s 0 := heap_alloc_new w _
theorem It.put (h : It w r s i) (j : Nat) : It (itPut w r (.stringIter s j)) r s j := by
  have := h.lt
  unfold It itPut
  simp [this]
theorem itPut_far (w : World) (r : Nat) (o : Obj) {k : Nat} (h : k ≠ r) : (itPut w r o).heap[k]? = w.heap[k]? := by
  simp [itPut, Array.getElem?_setIfInBounds_ne (Ne.symm h)]
@[go_sem] theorem itPut_size (w : World) (r : Nat) (o : Obj) : (itPut w r o).heap.size = w.heap.size := by simp [itPut]
theorem Below.itPut {B : Nat} {a w : World} (h : Below B a w) {r : Nat} (hr : B ≤ r) (o : Obj) : Below B a (itPut w r o) :=
  ⟨h.os, h.tape, h.output, by rw [itPut_size]; exact h.size, fun k hk => by rw [itPut_far _ _ _ (by omega)]; exact h.block k hk⟩
theorem run_range_str {t : TypeId} (ht : P.underlying t = some .string) (s : ByteArray) : (Instr.range t (.string s)).run P w = .ok (.pointer (some ⟨w.heap.size, 0, none⟩)) (w.alloc (.stringIter s 0)) := by
  simp [Instr.range, run_underlying ht, Result.andThen]
theorem run_next_str (h : It w r s i) (ty : TypeId) (hlt : i < s.size) :
    (Instr.next (.pointer (some ⟨r, 0, none⟩)) true ty).run P w = .ok (.tuple #[.bool true, goInt i, .int .i32 ((Utf8.decode s i).1 : Int)]) (itPut w r (.stringIter s (i + (Utf8.decode s i).2))) := by
  unfold It at h
  simp [Instr.next, getObj, setObj, Sem.run, h, hlt, Result.andThen, itPut]
theorem run_next_end (h : It w r s i) (ty : TypeId) (hlt : ¬ i < s.size) :
    (Instr.next (.pointer (some ⟨r, 0, none⟩)) true ty).run P w = .ok (.tuple #[.bool false]) w := by
  unfold It at h
  simp [Instr.next, getObj, Sem.run, h, hlt, Result.andThen]
end
end Go.Proofs.YtjjopoigbonjbaaGreatDoor
