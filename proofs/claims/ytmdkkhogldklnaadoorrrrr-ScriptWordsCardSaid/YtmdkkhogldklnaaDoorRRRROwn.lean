/-
  Rows of the call's own, slices that read, blocks: carried along, told apart. Over any program.
-/
import Derived.Test.YtmdkkhogldklnaaDoorRRRRRange
import Derived.Test.YtmdkkhogldklnaaDoorRRRRMake
namespace Go.Proofs.YtmdkkhogldklnaaDoorRRRR
open Go.RowKit
set_option linter.unusedVariables false
theorem row_keeps {O : Nat → Prop} {a b : World} {base e size n : Nat} {v : Value} {xs : List Value} (h : a.ownsRow base e size v n xs) (hk : Keeps O a b) (hv : ∀ j, v.ownBlock = some j → O j) : b.ownsRow base e size v n xs := by
  refine ⟨h.1, ?_⟩
  rcases h.2 with hn | ⟨g, cap, cur, rfl, hb, hg, rest⟩
  · exact .inl hn
  · exact .inr ⟨g, cap, cur, rfl, hb, (hk.block g (Array.getElem?_eq_some_iff.1 hg).1 (hv g rfl)).trans hg, rest⟩
theorem row_below {a b : World} {base e size n : Nat} {v : Value} {xs : List Value} (h : a.ownsRow base e size v n xs) (hk : Below a.heap.size a b) : b.ownsRow base e size v n xs := row_keeps h (Keeps.of_ext (O := fun _ => True) hk) fun _ _ => trivial
/-- a row, and a block of another element type -/
theorem row_ne {w : World} {B e size n g : Nat} {v : Value} {xs : List Value} {t : TypeId} {cs : Array Value} (h : w.ownsRow B e size v n xs) (hg : Blk w g t cs) (hne : e ≠ t) : v.ownBlock ≠ some g := by
  rcases h.2 with ⟨rfl, _⟩ | ⟨k, cap, cur, rfl, _, hk, _⟩
  · simp [Value.ownBlock]
  · intro h2
    simp only [Value.ownBlock, Option.some.injEq] at h2
    subst h2
    unfold Blk at hg
    rw [hg] at hk
    injection hk with hk
    injection hk with _ h3 _
    exact hne h3.symm
/-- two rows of unlike element types -/
theorem rows_ne {w : World} {B B' e e' size size' n n' : Nat} {v v' : Value} {xs xs' : List Value} (h : w.ownsRow B e size v n xs) (h' : w.ownsRow B' e' size' v' n' xs') (hne : e ≠ e') : ∀ j, v.ownBlock = some j → v'.ownBlock ≠ some j := by
  intro j hj
  rcases h.2 with ⟨rfl, _⟩ | ⟨k, cap, cur, rfl, _, hk, _⟩
  · simp [Value.ownBlock] at hj
  · simp only [Value.ownBlock, Option.some.injEq] at hj
    subst hj
    exact row_ne (t := e) (cs := cur) h' hk (fun e => hne e.symm)
/-- a field of one cell, of a struct by value -/
theorem run_field1 {P : Program} {w : World} {t i : Nat} {fs : Array Field} {f : Field} {cs : Array Value} {v : Value} (hu : P.underlying t = some (.struct fs)) (hf : fs[i]? = some f) (hs : shapeOf P f.type = some none) (hc : cs[f.offset]? = some v) : (Instr.field t (.agg cs) i).run P w = .ok v w := by
  simp [Instr.field, run_underlying hu, hf, part, asAgg, run_isAgg hs, hc]
theorem Sl_on {w w' : World} {size n : Nat} {v : Value} {xs : List Value} (h : Sl w size v n xs) (hb : Below w.heap.size w w') : Sl w' size v n xs := by
  obtain ⟨A, c, h1, h2, h3⟩ := h
  exact ⟨A, c, h1, h2.keep hb, h3⟩
/-- the block of a slice -/
def atB (n : Nat) (A : Option Addr) (j : Nat) : Prop := 0 < n ∧ ∃ b o, A = some ⟨b, o, none⟩ ∧ j = b
theorem Rd_on {N : Nat → Prop} {w w' : World} {size n : Nat} {A : Option Addr} {xs : List Value} (h : Rd w size A n xs) (hk : Keeps N w w') (hN : ∀ j, atB n A j → N j) : Rd w' size A n xs := by
  by_cases h0 : 0 < n
  · exact hk.rd h fun g o e => hN g ⟨h0, g, o, e, rfl⟩
  · obtain rfl : n = 0 := by omega
    have hl := h.len
    obtain rfl : xs = [] := List.length_eq_zero_iff.1 (by omega)
    exact Rd.nil_ _ _ _
theorem atB_row {w : World} {base e size n c : Nat} {A : Option Addr} {xs : List Value} (h : w.ownsRow base e size (.slice A n c) n xs) {j : Nat} (hj : atB n A j) : (Value.slice A n c).ownBlock = some j := by
  obtain ⟨h0, b, o, rfl, rfl⟩ := hj
  rcases h.2 with ⟨e1, _⟩ | ⟨g, cap, cur, e1, _⟩
  · cases e1
  · injection e1 with e1
    injection e1 with e1
    injection e1 with e1
    subst e1
    rfl
theorem atB_lt {w : World} {size n : Nat} {A : Option Addr} {xs : List Value} (h : Rd w size A n xs) {j : Nat} (hj : atB n A j) : j < w.heap.size := by
  obtain ⟨h0, b, o, rfl, rfl⟩ := hj
  obtain ⟨b', o', e, hlt, _⟩ := h.cells h0
  injection e with e
  injection e with e
  omega
end Go.Proofs.YtmdkkhogldklnaaDoorRRRR
