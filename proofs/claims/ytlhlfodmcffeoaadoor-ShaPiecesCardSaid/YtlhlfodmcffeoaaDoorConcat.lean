/-
  slices.Concat over byte slices.
-/
import Derived.Test.YtlhlfodmcffeoaaDoorState
namespace Go.Proofs.YtlhlfodmcffeoaaDoor
open Go.RowKit
set_option linter.unusedVariables false
set_option linter.unusedSimpArgs false
set_option maxRecDepth 10000
/-- A slice value that reads as bytes. -/
def RdB (w : World) (v : Value) (l : List UInt8) : Prop := ∃ A c, v = .slice A l.length c ∧ Rd w 1 A l.length (bl l) ∧ (A = none → l.length = 0) ∧ l.length ≤ c ∧ c ≤ 9223372036854775807
theorem RdB.keep {w w' : World} {v : Value} {l : List UInt8} (h : RdB w v l) (hb : Below w.heap.size w w') : RdB w' v l := by
  obtain ⟨A, c, rfl, h1, h2⟩ := h
  exact ⟨A, c, rfl, h1.keep hb, h2⟩
/-- Slice values that read as lists of bytes, one by one. -/
def RdBs (w : World) (vs : List Value) (ls : List (List UInt8)) : Prop := vs.length = ls.length ∧ ∀ (i : Nat) (v : Value) (l : List UInt8), vs[i]? = some v → ls[i]? = some l → RdB w v l
theorem RdBs.keep {w w' : World} {vs : List Value} {ls : List (List UInt8)} (h : RdBs w vs ls) (hb : Below w.heap.size w w') : RdBs w' vs ls := ⟨h.1, fun i v l h1 h2 => (h.2 i v l h1 h2).keep hb⟩
/-- The bytes of the first i lists. -/
def joinTo (ls : List (List UInt8)) (i : Nat) : List UInt8 := (ls.take i).flatten
theorem joinTo_succ (ls : List (List UInt8)) (i : Nat) (l : List UInt8) (h : ls[i]? = some l) : joinTo ls (i + 1) = joinTo ls i ++ l := by
  unfold joinTo
  rw [List.take_add_one, h]
  simp
theorem joinTo_le (ls : List (List UInt8)) (i : Nat) : (joinTo ls i).length ≤ ls.flatten.length := by
  unfold joinTo
  conv => rhs; rw [← List.take_append_drop i ls]
  rw [List.flatten_append, List.length_append]
  omega
theorem joinTo_all (ls : List (List UInt8)) : joinTo ls ls.length = ls.flatten := by simp [joinTo]
set_option maxHeartbeats 800000 in
theorem concat_any (A : Option Addr) (k c : Nat) (vs : List Value) (ls : List (List UInt8)) (w : World) (h : Rd w 1 A k vs) (hk : k ≤ 70368744177664) (hls : RdBs w vs ls) (hm : ls.flatten.length ≤ 70368744177664) :
    callE Tryd.prog 31 #[.slice A k c] w fun v w' => w'.ownsRow w.heap.size 5 1 v ls.flatten.length (bl ls.flatten) ∧ Below w.heap.size w w' := by
  have hkl : k = ls.length := by have := h.len; have := hls.1; omega
  have hle0 := joinTo_le ls
  have hall := joinTo_all ls
  generalize ls.flatten = F at *
  refine calls_E Tryd.func31 rfl rfl rfl (Nat.le_of_ble_eq_true rfl) ?_
  simp [go_sem, IntWalk.iteOmega, IntWalk.toNatUp]
  refine W_loop (fun s wr => ∃ i : Nat, i ≤ k ∧ s 11 = .int .i64 i ∧ s 10 = .int .i64 k ∧ s 9 = .slice A k c ∧ s 0 = .slice A k c ∧ s 3 = .int .i64 (joinTo ls i).length ∧ wr = w) (fun s _ => k - (intOf (s 11)).toNat) ?_ ?_
  · exact ⟨0, by omega, by simp [go_sem], by simp [go_sem], by simp [go_sem], by simp [go_sem], by simp [go_sem, joinTo], rfl⟩
  · rintro s wr ⟨i, hi, e11, e10, e9, e0, e3, rfl⟩
    by_cases hlt : i < k
    · obtain ⟨b, o, rfl, hb, hc⟩ := h.cells (by omega)
      have hv : i < vs.length := by have := h.len; omega
      have hl : i < ls.length := by omega
      have x0 := hc i vs[i] (List.getElem?_eq_getElem hv)
      obtain ⟨A1, c1, hv1, h1, hn1, hc1, hc2⟩ := hls.2 i vs[i] ls[i] (List.getElem?_eq_getElem hv) (List.getElem?_eq_getElem hl)
      rw [hv1] at x0
      have hj := joinTo_succ ls i ls[i] (List.getElem?_eq_getElem hl)
      have hle := hle0 (i + 1)
      have hjl : (joinTo ls (i + 1)).length = (joinTo ls i).length + (ls[i]).length := by rw [hj]; simp
      have hb1 : (joinTo ls i).length + (ls[i]).length ≤ 70368744177664 := by omega
      generalize ls[i] = li at *
      have HJ := Lib.hid hjl
      clear hj hjl hv1 hkl hle
      simp [go_sem, IntWalk.iteOmega, IntWalk.toNatUp, e11, e10, e9, e0, e3, x0]
      refine roundEnd.mk ⟨i + 1, by omega, by simp [go_sem], by simp [go_sem, e10], by simp [go_sem, e9], by simp [go_sem, e0], by simp [go_sem, HJ.out], rfl⟩ ?_
      simp [go_sem, intOf]; omega
    · obtain rfl : i = k := by omega
      have hjk : joinTo ls i = F := by rw [hkl, hall]
      rw [hjk] at e3
      simp [go_sem, IntWalk.iteOmega, IntWalk.toNatUp, e11, e10, e9, e0, e3]
      refine callE_of (grow_nil _ wr hm) ?_
      rintro v w1 ⟨hown, hB⟩
      simp [go_sem, IntWalk.iteOmega, IntWalk.toNatUp, e0]
      clear e11 e10 e9 e3 hlt hi hjk
      refine W_loop (fun s w2 => ∃ (j : Nat) (u : Value), j ≤ i ∧ s 27 = .int .i64 j ∧ s 26 = .int .i64 i ∧ s 25 = .slice A i c ∧ s 6 = u ∧ w2.ownsRow wr.heap.size 5 1 u (joinTo ls j).length (bl (joinTo ls j)) ∧ Below wr.heap.size wr w2) (fun s _ => i - (intOf (s 27)).toNat) ?_ ?_
      · exact ⟨0, v, by omega, by simp [go_sem], by simp [go_sem], by simp [go_sem, e0], by simp [go_sem], by simpa [joinTo, bl] using hown, hB⟩
      · clear hown hB e0
        rintro s w2 ⟨j, u, hj, e27, e26, e25, e6, hown, hB⟩
        by_cases hlt : j < i
        · obtain ⟨b, o, rfl, hb, hc⟩ := (h.keep hB).cells (by omega)
          have hv : j < vs.length := by have := h.len; omega
          have hl : j < ls.length := by omega
          have x0 := hc j vs[j] (List.getElem?_eq_getElem hv)
          obtain ⟨A1, c1, hv1, h1, hn1, hc1, hc2⟩ := (hls.keep hB).2 j vs[j] ls[j] (List.getElem?_eq_getElem hv) (List.getElem?_eq_getElem hl)
          rw [hv1] at x0
          have hjs := joinTo_succ ls j ls[j] (List.getElem?_eq_getElem hl)
          have hle := hle0 (j + 1)
          have hjl : (joinTo ls (j + 1)).length = (joinTo ls j).length + (ls[j]).length := by rw [hjs]; simp
          have hb1 : (joinTo ls j).length + (ls[j]).length ≤ 70368744177664 := by omega
          generalize ls[j] = lj at *
          have HJ := Lib.hid hjl
          have HS := Lib.hid hjs
          clear hjs hjl hv1 hkl hle
          simp [go_sem, IntWalk.iteOmega, IntWalk.toNatUp, e27, e26, e25, e6, x0]
          refine appendE wr.heap.size 5 1 1 Tryd.underlying29 el5 hown h1 (bl_one lj) (by unfold maxLen; omega) (by omega) hB.size ?_
          intro v' w3 hown' hgr _
          simp [go_sem, IntWalk.iteOmega, IntWalk.toNatUp, e27]
          refine roundEnd.mk ⟨j + 1, v', by omega, by simp [go_sem], by simp [go_sem, e26], by simp [go_sem, e25], by simp [go_sem], ?_, ?_⟩ ?_
          · rw [HS.out, bl_append, List.length_append]; exact hown'
          · exact hB.grown hgr hB.size (fun k hk => (hown.lt k hk).1)
          · simp [go_sem, intOf]; omega
        · obtain rfl : j = i := by omega
          have hjk : joinTo ls j = F := by rw [hkl, hall]
          rw [hjk] at hown
          simp [go_sem, IntWalk.iteOmega, IntWalk.toNatUp, e27, e26, e25, e6]
          exact ⟨hown, hB⟩
end Go.Proofs.YtlhlfodmcffeoaaDoor
