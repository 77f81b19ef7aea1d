/-
  copy; append of a make. Over any program.
-/
import Derived.Test.YtmoafaaeeanofaaMake
import Derived.Lib.AppendZerosOnto
namespace Go.Proofs.Ytmoafaaeeanofaa
open Go.RowKit
set_option linter.unusedVariables false
theorem copyE {P : Program} {w : World} {t u ty e te : TypeId} (ht : P.underlying t = some (.slice e)) (he : (P.info? e).map (·.size) = some 1) {g o dLen dCap m c : Nat} {A : Option Addr} {cur : Array Value} {D : Option Addr} (cs : List Value) (hb : Blk w g te cur)
    (hn : cs.length = Nat.min m dLen) (hD : 0 < cs.length → D = some ⟨g, o, none⟩) (hsrc : 0 < cs.length → ∃ ad, A = some ad ∧ ∀ j v, cs[j]? = some v → w.cell? (ad.add j) = some v) (hfit : 0 < cs.length → o + cs.length ≤ cur.size) (h1 : allOne cs = true) {k : Kont}
    (hk : ∀ w' cur', Blk w' g te cur' → cur'.toList = cur.toList.take o ++ cs ++ cur.toList.drop (o + cs.length) → w.grownBy w' (some g) → w'.heap.size = w.heap.size → k (goInt cs.length) w') : resE P (copyR P t u ty (.slice D dLen dCap) (.slice A m c) w) k := by
  unfold copyR
  by_cases h0 : cs.length = 0
  · rw [run_copy_none (P := P) w t u ty e D A dLen dCap m c ht he (by omega)]
    have hcs : cs = [] := List.eq_nil_of_length_eq_zero h0
    subst hcs
    exact hk w cur hb (by simp) (World.grownBy.refl w _) rfl
  · obtain ⟨ad, rfl, hs⟩ := hsrc (by omega)
    rw [hD (by omega), run_copy_row (P := P) w t u ty e g o dLen dCap ad m c cur te cs ht he hb hn hs (hfit (by omega)) (allOne_mem h1)]
    exact hk _ _ (Blk_setRow hb) (by simp) ⟨rfl, rfl, rfl, by simp [World.setRow], fun j _ hj => setRow_other w g j _ (fun e => hj (by rw [e]))⟩ (by simp [World.setRow])
/-- append of a make onto a slice that has no room for it: a new row: the old cells, then noughts. -/
theorem append_makeE {P : Program} {w : World} {t u ty e : TypeId} {z : Value} {bytes : Nat} (ht : P.underlying t = some (.slice e)) (hu : P.underlying u = some (.int .i64)) (hi : (P.info? e).map (fun i => (i.zero, i.size, i.bytes)) = some (some z, 1, bytes)) (hz : z.cells.size = 1)
    {g n c k : Nat} {cur : Array Value} {te : TypeId} (hb : Blk w g te cur) (hn : n ≤ cur.size) (h0 : 0 < k) (hg : c < n + k) (hfit : (n + k) * 2 * bytes ≤ 281474976710656) (hb0 : 0 < bytes) {K : Kont}
    (hk : ∀ w' g' cur' cap, Blk w' g' e cur' → g' = w.heap.size → n + k ≤ cap → cap ≤ 9223372036854775807 → cur'.size = cap → cur'.toList.take n = cur.toList.take n → Below w.heap.size w w' → K (.slice (some ⟨g', 0, none⟩) (n + k) cap) w') :
    resE P (appendR P t u ty (.slice (some ⟨g, 0, none⟩) n c) (.int .i64 k) w) K := by
  obtain ⟨i, h1, h2⟩ := Option.map_eq_some_iff.1 hi
  injection h2 with e1 h3
  injection h3 with e2 e3
  have hl : (cur.toList.take n).length = n * i.size := by rw [e2, List.length_take, Nat.mul_one]; simp; omega
  have hf := run_firstCells_some (P := P) (w := w.drew) i.size n ⟨g, 0, none⟩ n c (cur.toList.take n) hl (fun j v hv => by
    rw [add_none, Nat.zero_add]
    have hj := (List.getElem?_eq_some_iff.1 hv).1
    rw [List.getElem?_take, if_pos (by simp at hj; omega), Array.getElem?_toList] at hv
    exact ((hb.drew).cell j).trans hv)
  have hnk : (n + k) * bytes ≤ (n + k) * 2 * bytes := by rw [Nat.mul_assoc]; exact Nat.mul_le_mul_left _ (by omega)
  have hkk : k * bytes ≤ (n + k) * bytes := Nat.mul_le_mul_right _ (by omega)
  have hcap := nextslicecap_le (need := n + k) (old := c) hg
  have hmul : Builtin.nextslicecap (n + k) c * bytes ≤ 2 * (n + k) * bytes := Nat.mul_le_mul_right _ hcap
  have hle : n + k ≤ (n + k) * bytes := Nat.le_mul_of_pos_right _ hb0
  have hr := Lib.run_append_grow_zeros (P := P) w t u ty e i z .i64 .i64 ht hu h1 e1 (some ⟨g, 0, none⟩) n c (cur.toList.take n) hf k h0 (by rw [e2]; omega) hg (by omega) (by rw [e3]; omega) (by rw [e3, Nat.mul_comm 2] at *; omega)
  unfold appendR
  rw [hr]
  have hge := grownCap_ge w (n + k) c e
  have hcm := grownCap_le_maxLen w (n + k) c e (by unfold maxLen; omega)
  unfold maxLen at hcm
  refine hk _ _ _ _ (Blk.self_ (by simp)) (by simp) hge hcm ?_ ?_ (ext_trans (ext_drew w) (ext_alloc _ _))
  · simp only [Array.size_append, List.size_toArray, size_zeroCells, hz, List.length_take, Array.length_toList]
    omega
  · simp only [Array.toList_append, List.append_assoc]
    rw [List.take_append_of_le_length (by simp; omega), List.take_take, Nat.min_self]
end Go.Proofs.Ytmoafaaeeanofaa
