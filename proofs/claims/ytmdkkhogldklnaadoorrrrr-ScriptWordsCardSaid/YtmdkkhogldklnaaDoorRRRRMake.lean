/-
  A slice that is made, its elements of one cell each. Over any program.
-/
import Derived.Test.YtmdkkhogldklnaaDoorRRRRAny
import Derived.Test.YtmdkkhogldklnaaDoorRRRROpen
namespace Go.Proofs.YtmdkkhogldklnaaDoorRRRR
open Go.RowKit
set_option linter.unusedVariables false
theorem run_make1 {P : Program} {t e : TypeId} {z : Value} {bytes : Nat} (ht : P.underlying t = some (.slice e)) (hi : (P.info? e).map (fun i => (i.zero, i.size, i.bytes)) = some (some z, 1, bytes)) (hz : z.cells = #[z]) (n : Nat) (hn : n ≤ 9223372036854775807) (hb : n * bytes ≤ 281474976710656) (W : World) :
    (Instr.makeSlice t (.int .i64 n) (.int .i64 n)).run P W = .ok (.slice (some ⟨W.heap.size, 0, none⟩) n n) (W.alloc (.cells (Array.replicate n z) e)) := by
  obtain ⟨i, h1, h2⟩ := Option.map_eq_some_iff.1 hi
  injection h2 with e1 h3
  injection h3 with e2 e3
  have := run_make (P := P) W t e i _ ht h1 e1 .i64 .i64 n n (by omega) (by omega) (by rw [e3, ← Int.natCast_mul, Nat.mul_comm]; omega) (by omega)
  rw [this, e2, Int.toNat_natCast]
  have hm : madeCells z.cells (n * 1) = Array.replicate n z := by
    apply Array.ext_getElem?
    intro j
    rw [hz, Nat.mul_one]
    unfold madeCells
    rw [Array.getElem?_map, Array.getElem?_range, Array.getElem?_replicate]
    by_cases hj : j < n
    · rw [if_pos hj, if_pos hj]
      simp only [Option.map_some]
      congr 1
      have : j % (#[z] : Array Value).size = 0 := Nat.mod_one j
      rw [this]
      rfl
    · rw [if_neg hj, if_neg hj]; rfl
  rw [hm]
/-- a slice of the call's own reads -/
theorem own_sl {w : World} {base : Nat} {e : TypeId} {size n : Nat} {v : Value} {xs : List Value} (h : w.ownsRow base e size v n xs) : Sl w size v n xs ∧ ∃ A c, v = .slice A n c := by
  have h0 := h
  rcases h.2 with ⟨rfl, rfl⟩ | ⟨g, cap, cur, rfl, hb, hg, hnc, hm, _⟩
  · exact ⟨⟨none, 0, rfl, Rd.of_own h0, fun _ => ⟨rfl, rfl⟩, by omega, by omega⟩, _, _, rfl⟩
  · exact ⟨⟨_, cap, rfl, Rd.of_own h0, (fun h => nomatch h), hnc, by unfold maxLen at hm; exact hm⟩, _, _, rfl⟩
end Go.Proofs.YtmdkkhogldklnaaDoorRRRR
