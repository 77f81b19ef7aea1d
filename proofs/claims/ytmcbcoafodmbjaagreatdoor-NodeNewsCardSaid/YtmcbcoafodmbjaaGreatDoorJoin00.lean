/-
  Texts joined: Base.
-/
import Derived.WalkKit
import Derived.WalkLawsBesides
import Derived.Lib.Hide
import Derived.Deep.Draws
import Derived.Deep.QuietTactic
import Derived.BigQuiet
import Derived.Outline
import Derived.Lib.AppendZeros
import Derived.Maps.AppendAt
import Derived.WalkSpells
import Derived.OwnWalk
import Derived.Laws.CopyOwn
import Derived.StillTailTactics
import Derived.Deep.DeepCutAuto
import Derived.Deep.LoopGhost
import Derived.Deep.RegionLaw
namespace Go.Proofs.YtmcbcoafodmbjaaGreatDoor
open Go.RowKit
set_option linter.unusedVariables false

def Blk (w : World) (g : Nat) (t : TypeId) (cs : Array Value) : Prop := w.heap[g]? = some (.cells cs t (0, 0))
section
variable {w w' : World} {g : Nat} {t : TypeId} {cs : Array Value}
theorem Blk.lt (h : Blk w g t cs) : g < w.heap.size := by
  rcases Nat.lt_or_ge g w.heap.size with hlt | hge
  · exact hlt
  · unfold Blk at h; rw [Array.getElem?_eq_none hge] at h; cases h
theorem Blk.cell (h : Blk w g t cs) (i : Nat) : w.cell? ⟨g, i, none⟩ = cs[i]? := by
  unfold Blk at h; simp [World.cell?, h]
theorem Blk.frozen (h : Blk w g t cs) (i : Nat) : w.frozen? ⟨g, i, none⟩ = false := by
  unfold Blk at h; simp [World.frozen?, h]
theorem Blk.below {B : Nat} (h : Blk w g t cs) (hb : Below B w w') (hg : g < B) : Blk w' g t cs := (hb.block g hg).trans h
theorem Blk.drewN (h : Blk w g t cs) (n : Nat) : Blk (w.drewN n) g t cs := h
theorem Blk.drew (h : Blk w g t cs) : Blk w.drew g t cs := h
end

/-! The heap of a world that is written out: new blocks, stores, draws. -/
theorem hp_alloc (w : World) (o : Obj) (k : Nat) : (w.alloc o).heap[k]? = if k = w.heap.size then some o else w.heap[k]? := by
  split
  · rename_i h; subst h; exact heap_alloc_new w o
  · rename_i h
    show (w.heap.push o)[k]? = _
    rw [Array.getElem?_push, if_neg h]
theorem sz_set (w : World) (p : Addr) (v : Value) : (w.setCell p v).heap.size = w.heap.size := by simp [World.setCell]
def storeObj (off : Nat) (v : Value) : Obj → Obj
  | .cells c e f => .cells (c.setIfInBounds off v) e f
  | o => o
theorem hp_set (w : World) (b o : Nat) (v : Value) (k : Nat) : (w.setCell ⟨b, o, none⟩ v).heap[k]? = if k = b then (w.heap[k]?).map (storeObj o v) else w.heap[k]? := by
  simp only [World.setCell, Array.getElem?_modify]
  by_cases h : b = k
  · subst h
    simp only [↓reduceIte]
    congr 1
  · rw [if_neg h, if_neg (fun e => h e.symm)]

/-! A block in a world that is written out. -/
@[go_sem] theorem Blk_new {w : World} {g : Nat} {t t' : TypeId} {cs cs' : Array Value} (h : g = w.heap.size) : Blk (w.alloc (.cells cs t)) g t' cs' = (cs = cs' ∧ t = t') := by
  subst h; unfold Blk; rw [hp_alloc, if_pos rfl]; simp
@[go_sem] theorem Blk_alloc {w : World} {g : Nat} {t : TypeId} {cs : Array Value} {o : Obj} (h : g ≠ w.heap.size) : Blk (w.alloc o) g t cs = Blk w g t cs := by
  unfold Blk; rw [hp_alloc, if_neg h]
@[go_sem] theorem Blk_drew {w : World} {g : Nat} {t : TypeId} {cs : Array Value} : Blk w.drew g t cs = Blk w g t cs := rfl
@[go_sem] theorem Blk_drewN {w : World} {g n : Nat} {t : TypeId} {cs : Array Value} : Blk (w.drewN n) g t cs = Blk w g t cs := rfl
@[go_sem] theorem Blk_far {w : World} {g b o : Nat} {t : TypeId} {cs : Array Value} {v : Value} (h : g ≠ b) : Blk (w.setCell ⟨b, o, none⟩ v) g t cs = Blk w g t cs := by
  unfold Blk; rw [hp_set, if_neg h]
theorem Blk_set {w : World} {g o : Nat} {t : TypeId} {cs : Array Value} {v : Value} (h : Blk w g t cs) : Blk (w.setCell ⟨g, o, none⟩ v) g t (cs.setIfInBounds o v) := by
  unfold Blk at h ⊢; rw [hp_set, if_pos rfl, h]; rfl
theorem Blk_setRow {w : World} {g : Nat} {t : TypeId} {cs cs' : Array Value} (h : Blk w g t cs) : Blk (w.setRow g cs') g t cs' := setRow_heap w g cs cs' t (0, 0) h
@[go_sem] theorem Blk_setRow_far {w : World} {g b : Nat} {t : TypeId} {cs cs' : Array Value} (h : g ≠ b) : Blk (w.setRow b cs') g t cs = Blk w g t cs := by
  unfold Blk; rw [setRow_other w b g cs' h]
theorem Blk.farRow {w : World} {g b : Nat} {t : TypeId} {cs : Array Value} (h : Blk w g t cs) (hne : g ≠ b) (cs' : Array Value) : Blk (w.setRow b cs') g t cs := by
  rw [Blk_setRow_far hne]; exact h
theorem Blk.farCell {w : World} {g b o : Nat} {t : TypeId} {cs : Array Value} (h : Blk w g t cs) (hne : g ≠ b) (v : Value) : Blk (w.setCell ⟨b, o, none⟩ v) g t cs := by
  rw [Blk_far hne]; exact h

/-! Worlds that only grow. -/
theorem Blk.keep {w w' : World} {g : Nat} {t : TypeId} {cs : Array Value} (h : Blk w g t cs) (hb : Below w.heap.size w w') : Blk w' g t cs := h.below hb h.lt
theorem ext_trans {w w1 w2 : World} (h : Below w.heap.size w w1) (k : Below w1.heap.size w1 w2) : Below w.heap.size w w2 := h.trans (k.mono h.size)
theorem ext_alloc (w : World) (o : Obj) : Below w.heap.size w (w.alloc o) := (Below.refl _ _).alloc (Nat.le_refl _) o
theorem Blk.more {w : World} {g : Nat} {t : TypeId} {cs : Array Value} (h : Blk w g t cs) (o : Obj) : Blk (w.alloc o) g t cs := h.keep (ext_alloc w o)
theorem Blk.self_ {w : World} {g : Nat} {t : TypeId} {cs : Array Value} (h : g = w.heap.size) : Blk (w.alloc (.cells cs t)) g t cs := by subst h; exact heap_alloc_new w _
theorem ext_drew (w : World) : Below w.heap.size w w.drew := (Below.refl _ _).drew
theorem news1 {w W : World} {c0 : Array Value} {t0 : TypeId} (h : W = w.alloc (.cells c0 t0)) : Blk W (w.heap.size) t0 c0 ∧ Below w.heap.size w W ∧ W.heap.size = w.heap.size + 1 := by
  subst h
  exact ⟨(Blk.self_ rfl), ext_alloc _ _, by simp⟩
theorem news2 {w W : World} {c0 c1 : Array Value} {t0 t1 : TypeId} (h : W = (w.alloc (.cells c0 t0)).alloc (.cells c1 t1)) : Blk W (w.heap.size) t0 c0 ∧ Blk W (w.heap.size + 1) t1 c1 ∧ Below w.heap.size w W ∧ W.heap.size = w.heap.size + 1 + 1 := by
  subst h
  exact ⟨((Blk.self_ rfl).more _), (Blk.self_ (by simp)), ext_trans (ext_alloc _ _) (ext_alloc _ _), by simp⟩
theorem news3 {w W : World} {c0 c1 c2 : Array Value} {t0 t1 t2 : TypeId} (h : W = ((w.alloc (.cells c0 t0)).alloc (.cells c1 t1)).alloc (.cells c2 t2)) : Blk W (w.heap.size) t0 c0 ∧ Blk W (w.heap.size + 1) t1 c1 ∧ Blk W (w.heap.size + 1 + 1) t2 c2 ∧ Below w.heap.size w W ∧ W.heap.size = w.heap.size + 1 + 1 + 1 := by
  subst h
  exact ⟨(((Blk.self_ rfl).more _).more _), ((Blk.self_ (by simp)).more _), (Blk.self_ (by simp)), ext_trans (ext_trans (ext_alloc _ _) (ext_alloc _ _)) (ext_alloc _ _), by simp⟩
end Go.Proofs.YtmcbcoafodmbjaaGreatDoor
