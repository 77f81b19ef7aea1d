/-
  A loop over a string's runes. Over any program.
-/
import Derived.Test.YtmdkkhogldklnaaDoorRRRRAny
import GoSem.Core.Utf8
namespace Go.Proofs.YtmdkkhogldklnaaDoorRRRR
open Go.RowKit
set_option linter.unusedVariables false
set_option linter.unusedSimpArgs false
theorem width_pos (s : ByteArray) (i : Nat) : 1 ≤ (Utf8.decode s i).2 := by
  unfold Utf8.decode
  simp only
  repeat' split
  all_goals simp
/-- the runes of s from the byte i on -/
def runesF (s : ByteArray) : Nat → Nat → List Int
  | 0, _ => []
  | f + 1, i => if i < s.size then ((Utf8.decode s i).1 : Int) :: runesF s f (i + (Utf8.decode s i).2) else []
def runesAt (s : ByteArray) (i : Nat) : List Int := runesF s s.size i
def runes (s : ByteArray) : List Int := runesAt s 0
theorem runesF_more (s : ByteArray) : ∀ (f g i : Nat), s.size ≤ f + i → s.size ≤ g + i → runesF s f i = runesF s g i
  | 0, 0, _, _, _ => rfl
  | 0, g + 1, i, h, _ => by simp [runesF]; omega
  | f + 1, 0, i, _, h => by simp [runesF]; omega
  | f + 1, g + 1, i, h1, h2 => by
    have := width_pos s i
    simp only [runesF]
    split
    · rw [runesF_more s f g _ (by omega) (by omega)]
    · rfl
theorem runesAt_next {s : ByteArray} {i : Nat} (h : i < s.size) : runesAt s i = ((Utf8.decode s i).1 : Int) :: runesAt s (i + (Utf8.decode s i).2) := by
  have hw := width_pos s i
  unfold runesAt
  obtain ⟨n, hn⟩ : ∃ n, s.size = n + 1 := ⟨s.size - 1, by omega⟩
  have : runesF s s.size i = runesF s (n + 1) i := by rw [hn]
  rw [this]
  simp only [runesF, h, if_true]
  rw [runesF_more s n s.size _ (by omega) (by omega)]
theorem runesAt_end {s : ByteArray} {i : Nat} (h : ¬ i < s.size) : runesAt s i = [] := by
  unfold runesAt
  cases s.size with
  | zero => rfl
  | succ n => simp [runesF, h]
/-- an iterator over a string, at the byte i -/
def It (w : World) (r : Nat) (s : ByteArray) (i : Nat) : Prop := w.heap[r]? = some (.stringIter s i)
def itPut (w : World) (r : Nat) (o : Obj) : World := { w with heap := w.heap.setIfInBounds r o }
section
variable {P : Program} {w : World} {r : Nat} {s : ByteArray} {i : Nat}
theorem It.lt (h : It w r s i) : r < w.heap.size := (Array.getElem?_eq_some_iff.1 h).1
theorem It.keep {w' : World} (h : It w r s i) (hb : Below w.heap.size w w') : It w' r s i := (hb.block r h.lt).trans h
theorem It_made (w : World) (s : ByteArray) : It (w.alloc (.stringIter s 0)) w.heap.size s 0 := heap_alloc_new w _
theorem It.put (h : It w r s i) (j : Nat) : It (itPut w r (.stringIter s j)) r s j := by
  have := h.lt
  unfold It itPut
  simp [this]
theorem itPut_far (w : World) (r : Nat) (o : Obj) {k : Nat} (h : k ≠ r) : (itPut w r o).heap[k]? = w.heap[k]? := by
  simp [itPut, Array.getElem?_setIfInBounds_ne (Ne.symm h)]
@[go_sem] theorem itPut_size (w : World) (r : Nat) (o : Obj) : (itPut w r o).heap.size = w.heap.size := by simp [itPut]
theorem Below.itPut {B : Nat} {a w : World} (h : Below B a w) {r : Nat} (hr : B ≤ r) (o : Obj) : Below B a (itPut w r o) :=
  ⟨h.os, h.tape, h.output, by rw [itPut_size]; exact h.size, fun k hk => by rw [itPut_far _ _ _ (by omega)]; exact h.block k hk⟩
theorem run_range_str {t : TypeId} (ht : P.underlying t = some .string) (s : ByteArray) : (Instr.range t (.string s)).run P w = .ok (.pointer (some ⟨w.heap.size, 0, none⟩)) (w.alloc (.stringIter s 0)) := by
  simp [Instr.range, run_underlying ht, Result.andThen]
theorem run_next_str (h : It w r s i) (ty : TypeId) (hlt : i < s.size) :
    (Instr.next (.pointer (some ⟨r, 0, none⟩)) true ty).run P w = .ok (.tuple #[.bool true, goInt i, .int .i32 ((Utf8.decode s i).1 : Int)]) (itPut w r (.stringIter s (i + (Utf8.decode s i).2))) := by
  unfold It at h
  simp [Instr.next, getObj, setObj, Sem.run, h, hlt, Result.andThen, itPut]
theorem run_next_end (h : It w r s i) (ty : TypeId) (hlt : ¬ i < s.size) :
    (Instr.next (.pointer (some ⟨r, 0, none⟩)) true ty).run P w = .ok (.tuple #[.bool false]) w := by
  unfold It at h
  simp [Instr.next, getObj, Sem.run, h, hlt, Result.andThen]
end
end Go.Proofs.YtmdkkhogldklnaaDoorRRRR
