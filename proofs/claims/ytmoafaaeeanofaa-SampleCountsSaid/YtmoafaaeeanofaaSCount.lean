/-
  Count: both.
-/
import Derived.Test.YtmoafaaeeanofaaSShareLaw
import Derived.Test.YtmoafaaeeanofaaMake
namespace Go.Proofs.Ytmoafaaeeanofaa
open Go.RowKit
set_option linter.unusedVariables false
set_option linter.unusedSimpArgs false
set_option maxRecDepth 10000
def cnts (m : Nat) (s : List Int) : List Int := (List.range m).map fun v => cntOf v s
theorem cnts_length (m : Nat) (s : List Int) : (cnts m s).length = m := by simp [cnts]
theorem cnts_at {m v : Nat} (s : List Int) (h : v < m) : (intsK .i64 (cnts m s))[v]? = some (.int .i64 (cntOf v s)) := by
  unfold intsK cnts; rw [List.map_map, List.getElem?_map, List.getElem?_range h]; rfl
theorem cntOf_add (v x : Nat) (s : List Int) : cntOf v (s ++ [(x : Int)]) = cntOf v s + if x = v then 1 else 0 := by
  unfold cntOf
  rw [List.countP_append, List.countP_singleton]
  by_cases h : x = v
  · subst h; simp
  · have : ¬ (x : Int) = v := by omega
    simp [h, this]
theorem cntOf_le (v : Nat) (s : List Int) : 0 ≤ cntOf v s ∧ cntOf v s ≤ s.length := by
  unfold cntOf
  have := List.countP_le_length (p := fun x => decide (x = (v : Int))) (l := s)
  omega
theorem cnts_zero (m : Nat) : Array.replicate m (.int .i64 0) = (intsK .i64 (cnts m [])).toArray := by
  apply Array.ext_getElem?
  intro j
  rw [Array.getElem?_replicate, List.getElem?_toArray]
  by_cases hj : j < m
  · rw [if_pos hj, cnts_at [] hj]; rfl
  · rw [if_neg hj, List.getElem?_eq_none (by rw [intsK_length, cnts_length]; omega)]
theorem cnts_set {m x : Nat} (s : List Int) (hx : x < m) : (intsK .i64 (cnts m s)).toArray.setIfInBounds x (.int .i64 (cntOf x s + 1)) = (intsK .i64 (cnts m (s ++ [(x : Int)]))).toArray := by
  apply Array.ext_getElem?
  intro j
  rw [Array.getElem?_setIfInBounds]
  by_cases hj : j < m
  · rw [List.getElem?_toArray, List.getElem?_toArray, cnts_at s hj, cnts_at _ hj, cntOf_add]
    by_cases hxj : x = j
    · subst hxj
      rw [if_pos rfl, if_pos rfl, if_pos (by simp [intsK_length, cnts_length, hx])]
    · rw [if_neg hxj, if_neg hxj, Int.add_zero]
  · have hxj : ¬ x = j := by omega
    rw [if_neg hxj, List.getElem?_toArray, List.getElem?_toArray, List.getElem?_eq_none (by rw [intsK_length, cnts_length]; omega), List.getElem?_eq_none (by rw [intsK_length, cnts_length]; omega)]
open Classical in
noncomputable def countV (m : Int) (s : List Int) : Int × List Int := if m < 0 ∨ 32 < m ∨ ¬ (∀ x ∈ s, 0 ≤ x ∧ x < m) then (1, []) else (0, cnts m.toNat s)
theorem countV_bad {m : Int} {s : List Int} (h : m < 0 ∨ 32 < m ∨ ¬ (∀ x ∈ s, 0 ≤ x ∧ x < m)) : countV m s = (1, []) := if_pos h
theorem countV_ok {m : Nat} {s : List Int} (h : m ≤ 32) (h2 : ∀ x ∈ s, 0 ≤ x ∧ x < m) : countV m s = (0, cnts m s) := by
  unfold countV
  rw [if_neg (fun h' => by rcases h' with h' | h' | h'; omega; omega; exact h' h2), Int.toNat_natCast]
def CountRes (m : Int) (s : List Int) (v : Value) (w' : World) : Prop := ∃ u, v = .tuple #[u, .int .i64 (countV m s).1] ∧ Sl w' 1 u (countV m s).2.length (intsK .i64 (countV m s).2)
theorem infoint : (Try.prog.info? 3).map (fun i => (i.zero, i.size, i.bytes)) = some (some (.int .i64 0), 1, 8) := by kernel_rfl
theorem Sl_whole {w : World} {g : Nat} {t : TypeId} {l : List Int} {n : Nat} (hb : Blk w g t (intsK .i64 l).toArray) (hn : l.length = n) (h : n ≤ 1000) : Sl w 1 (.slice (some ⟨g, 0, none⟩) n n) n (intsK .i64 l) := by
  refine ⟨_, n, rfl, ⟨by rw [intsK_length, hn]; omega, fun _ => ⟨_, 0, rfl, hb.lt, fun j u hu => ?_⟩⟩, (fun h => nomatch h), by omega, by omega⟩
  rw [hb.cell, Nat.zero_add, List.getElem?_toArray]; exact hu
set_option maxHeartbeats 6400000 in
theorem vCount_any (m : Int) (hm : InI m) (s : List Int) (hI : AllI s) (hlen : s.length ≤ 1000) (vs : Value) (w : World) (hs : Sl w 1 vs s.length (intsK .i64 s)) :
    callE Try.prog 22 #[.int .i64 m, vs] w fun v w' => CountRes m s v w' ∧ Below w.heap.size w w' := by
  obtain ⟨A, cap, rfl, hrd, hA, hc1, hc2⟩ := id hs
  refine calls_E Try.func22 rfl rfl rfl (Nat.le_of_ble_eq_true rfl) ?_
  by_cases h1 : m < 0
  · simp [go_sem, IntWalk.iteOmega, IntWalk.toNatUp, h1, CountRes, countV_bad (show m < 0 ∨ 32 < m ∨ ¬ (∀ x ∈ s, 0 ≤ x ∧ x < m) from .inl h1)]
    exact ⟨sl_nil _ _, Below.refl _ _⟩
  by_cases h2 : 32 < m
  · simp [go_sem, IntWalk.iteOmega, IntWalk.toNatUp, h1, h2, CountRes, countV_bad (show m < 0 ∨ 32 < m ∨ ¬ (∀ x ∈ s, 0 ≤ x ∧ x < m) from .inr (.inl h2))]
    exact ⟨sl_nil _ _, Below.refl _ _⟩
  obtain ⟨M, rfl⟩ : ∃ M : Nat, m = M := ⟨m.toNat, by omega⟩
  have hM : M ≤ 32 := by omega
  have hmk := run_make1 (P := Try.prog) (t := 28) (e := 3) (by kernel_rfl) infoint rfl M (by omega) (by omega) w
  simp [go_sem, IntWalk.iteOmega, IntWalk.toNatUp, h1, h2, hmk]
  rw [cnts_zero]
  refine W_at fun W0 hW0 => ?_
  obtain ⟨b0, hB0, _⟩ := news1 hW0
  clear hW0
  refine W_loop (fun st wr => ∃ i : Nat, i ≤ s.length ∧ st 0 = .int .i64 M ∧ st 6 = .slice (some ⟨w.heap.size, 0, none⟩) M M ∧ st 17 = .slice A s.length cap ∧ st 18 = .int .i64 s.length ∧ st 19 = .int .i64 i ∧
    (∀ x ∈ s.take i, 0 ≤ x ∧ x < M) ∧ Blk wr w.heap.size 3 (intsK .i64 (cnts M (s.take i))).toArray ∧ Below w.heap.size w wr) (fun st _ => s.length - (intOf (st 19)).toNat) ?_ ?_
  · exact ⟨0, by omega, by simp [go_sem], by simp [go_sem], by simp [go_sem], by simp [go_sem], by simp [go_sem], fun x hx => by simp at hx, b0, hB0⟩
  · clear b0 hB0 hmk
    rintro st wr ⟨i, hi, e0, e6, e17, e18, e19, hall, b0, hbw⟩
    by_cases hlt : i < s.length
    · obtain ⟨b2, o2, rfl, hb2, hcw⟩ := hrd.cells (by omega)
      have y0 := hcw _ _ (intsK_at hlt)
      rw [← hbw.cell hb2] at y0
      have hlt' : (i : Int) < s.length := by omega
      have htk := take_succ_at hlt
      have hmem := getD_mem hlt
      generalize s.getD i 0 = x at *
      by_cases q1 : x < 0
      · simp [go_sem, IntWalk.iteOmega, IntWalk.toNatUp, e0, e6, e17, e18, e19, hlt, hlt', y0, q1, CountRes, countV_bad (show (M : Int) < 0 ∨ 32 < (M : Int) ∨ ¬ (∀ x ∈ s, 0 ≤ x ∧ x < (M : Int)) from .inr (.inr fun h => by have := h x hmem; omega))]
        exact ⟨sl_nil _ _, hbw⟩
      · by_cases q2 : (M : Int) ≤ x
        · simp [go_sem, IntWalk.iteOmega, IntWalk.toNatUp, e0, e6, e17, e18, e19, hlt, hlt', y0, q1, q2, CountRes, countV_bad (show (M : Int) < 0 ∨ 32 < (M : Int) ∨ ¬ (∀ x ∈ s, 0 ≤ x ∧ x < (M : Int)) from .inr (.inr fun h => by have := h x hmem; omega))]
          exact ⟨sl_nil _ _, hbw⟩
        · obtain ⟨v, hxv⟩ : ∃ v : Nat, x = v := ⟨x.toNat, by omega⟩
          subst hxv
          have hvl : v < M := by omega
          have hvl' : (v : Int) < M := by omega
          have hall' : ∀ x ∈ s.take (i + 1), 0 ≤ x ∧ x < (M : Int) := by
            rw [htk]; intro y hy
            rcases List.mem_append.1 hy with hy | hy
            · exact hall y hy
            · rw [List.mem_singleton.1 hy]; omega
          have d0 := (b0.cell v).trans ((List.getElem?_toArray ..).trans (cnts_at (s.take i) hvl))
          have f0 := b0.frozen v
          have bst := Blk_set (o := v) (v := .int .i64 (cntOf v (s.take i) + 1)) b0
          rw [cnts_set _ hvl, ← htk] at bst
          have hle := cntOf_le v (s.take i)
          have hle2 : (s.take i).length ≤ s.length := by rw [List.length_take]; omega
          have fw : IntKind.i64.wrap (cntOf v (s.take i) + 1) = cntOf v (s.take i) + 1 := by rw [IntKind.wrap_i64]; omega
          simp [go_sem, IntWalk.iteOmega, IntWalk.toNatUp, e0, e6, e17, e18, e19, hlt, hlt', y0, q1, q2, hvl', hvl, d0, f0, fw]
          first
          | (refine roundEnd.mk ⟨i + 1, by omega, by simp [go_sem, e0], by simp [go_sem, e6], by simp [go_sem, e17], by simp [go_sem, e18], by simp [go_sem], hall', bst, hbw.setCell (by simp) _⟩ ?_
             simp [go_sem, intOf, e19]; omega)
          | (trace_state; sorry)
    · obtain rfl : i = s.length := by omega
      rw [List.take_length] at b0 hall
      have hV := countV_ok hM hall
      have hsl := Sl_whole b0 (cnts_length M s) (by omega)
      simp [go_sem, IntWalk.iteOmega, IntWalk.toNatUp, e0, e6, e17, e18, e19, CountRes, hV]
      rw [cnts_length]
      exact ⟨hsl, hbw⟩
set_option maxHeartbeats 6400000 in
theorem rCount_any (m : Int) (hm : InI m) (s : List Int) (hI : AllI s) (hlen : s.length ≤ 1000) (vs : Value) (w : World) (hs : Sl w 1 vs s.length (intsK .i64 s)) :
    callE Try.prog 23 #[.int .i64 m, vs] w fun v w' => CountRes m s v w' ∧ Below w.heap.size w w' := by
  obtain ⟨A, cap, rfl, hrd, hA, hc1, hc2⟩ := id hs
  refine calls_E Try.func23 rfl rfl rfl (Nat.le_of_ble_eq_true rfl) ?_
  by_cases h1 : m < 0
  · simp [go_sem, IntWalk.iteOmega, IntWalk.toNatUp, h1, CountRes, countV_bad (show m < 0 ∨ 32 < m ∨ ¬ (∀ x ∈ s, 0 ≤ x ∧ x < m) from .inl h1)]
    exact ⟨sl_nil _ _, Below.refl _ _⟩
  by_cases h2 : 32 < m
  · simp [go_sem, IntWalk.iteOmega, IntWalk.toNatUp, h1, h2, CountRes, countV_bad (show m < 0 ∨ 32 < m ∨ ¬ (∀ x ∈ s, 0 ≤ x ∧ x < m) from .inr (.inl h2))]
    exact ⟨sl_nil _ _, Below.refl _ _⟩
  obtain ⟨M, rfl⟩ : ∃ M : Nat, m = M := ⟨m.toNat, by omega⟩
  have hM : M ≤ 32 := by omega
  have hmk := run_make1 (P := Try.prog) (t := 28) (e := 3) (by kernel_rfl) infoint rfl M (by omega) (by omega) w
  simp [go_sem, IntWalk.iteOmega, IntWalk.toNatUp, h1, h2, hmk]
  rw [cnts_zero]
  refine W_at fun W0 hW0 => ?_
  obtain ⟨b0, hB0, _⟩ := news1 hW0
  clear hW0
  refine W_loop (fun st wr => ∃ i : Nat, i ≤ s.length ∧ st 0 = .int .i64 M ∧ st 6 = .slice (some ⟨w.heap.size, 0, none⟩) M M ∧ st 1 = .slice A s.length cap ∧ st 7 = .int .i64 i ∧
    (∀ x ∈ s.take i, 0 ≤ x ∧ x < M) ∧ Blk wr w.heap.size 3 (intsK .i64 (cnts M (s.take i))).toArray ∧ Below w.heap.size w wr) (fun st _ => s.length - (intOf (st 7)).toNat) ?_ ?_
  · exact ⟨0, by omega, by simp [go_sem], by simp [go_sem], by simp [go_sem], by simp [go_sem], fun x hx => by simp at hx, b0, hB0⟩
  · clear b0 hB0 hmk
    rintro st wr ⟨i, hi, e0, e6, e1, e7, hall, b0, hbw⟩
    by_cases hlt : i < s.length
    · obtain ⟨b2, o2, rfl, hb2, hcw⟩ := hrd.cells (by omega)
      have y0 := hcw _ _ (intsK_at hlt)
      rw [← hbw.cell hb2] at y0
      have hlt' : (i : Int) < s.length := by omega
      have htk := take_succ_at hlt
      have hmem := getD_mem hlt
      generalize s.getD i 0 = x at *
      by_cases q1 : x < 0
      · simp [go_sem, IntWalk.iteOmega, IntWalk.toNatUp, e0, e6, e1, e7, hlt, hlt', y0, q1, CountRes, countV_bad (show (M : Int) < 0 ∨ 32 < (M : Int) ∨ ¬ (∀ x ∈ s, 0 ≤ x ∧ x < (M : Int)) from .inr (.inr fun h => by have := h x hmem; omega))]
        exact ⟨sl_nil _ _, hbw⟩
      · by_cases q2 : (M : Int) ≤ x
        · simp [go_sem, IntWalk.iteOmega, IntWalk.toNatUp, e0, e6, e1, e7, hlt, hlt', y0, q1, q2, CountRes, countV_bad (show (M : Int) < 0 ∨ 32 < (M : Int) ∨ ¬ (∀ x ∈ s, 0 ≤ x ∧ x < (M : Int)) from .inr (.inr fun h => by have := h x hmem; omega))]
          exact ⟨sl_nil _ _, hbw⟩
        · obtain ⟨v, hxv⟩ : ∃ v : Nat, x = v := ⟨x.toNat, by omega⟩
          subst hxv
          have hvl : v < M := by omega
          have hvl' : (v : Int) < M := by omega
          have hall' : ∀ x ∈ s.take (i + 1), 0 ≤ x ∧ x < (M : Int) := by
            rw [htk]; intro y hy
            rcases List.mem_append.1 hy with hy | hy
            · exact hall y hy
            · rw [List.mem_singleton.1 hy]; omega
          have d0 := (b0.cell v).trans ((List.getElem?_toArray ..).trans (cnts_at (s.take i) hvl))
          have f0 := b0.frozen v
          have bst := Blk_set (o := v) (v := .int .i64 (cntOf v (s.take i) + 1)) b0
          rw [cnts_set _ hvl, ← htk] at bst
          have hle := cntOf_le v (s.take i)
          have hle2 : (s.take i).length ≤ s.length := by rw [List.length_take]; omega
          have fw : IntKind.i64.wrap (cntOf v (s.take i) + 1) = cntOf v (s.take i) + 1 := by rw [IntKind.wrap_i64]; omega
          simp [go_sem, IntWalk.iteOmega, IntWalk.toNatUp, e0, e6, e1, e7, hlt, hlt', y0, q1, q2, hvl', hvl, d0, f0, fw]
          first
          | (refine roundEnd.mk ⟨i + 1, by omega, by simp [go_sem, e0], by simp [go_sem, e6], by simp [go_sem, e1], by simp [go_sem], hall', bst, hbw.setCell (by simp) _⟩ ?_
             simp [go_sem, intOf, e7]; omega)
          | (trace_state; sorry)
    · obtain rfl : i = s.length := by omega
      rw [List.take_length] at b0 hall
      have hV := countV_ok hM hall
      have hsl := Sl_whole b0 (cnts_length M s) (by omega)
      simp [go_sem, IntWalk.iteOmega, IntWalk.toNatUp, e0, e6, e1, e7, CountRes, hV]
      rw [cnts_length]
      exact ⟨hsl, hbw⟩
end Go.Proofs.Ytmoafaaeeanofaa
