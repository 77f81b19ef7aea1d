/-
  slices.Clone and slices.Sort of int64; the law SampleOnce: its walk.
-/
import Derived.Test.YtmoafaaeeanofaaSBegun
import Derived.Test.YtmoafaaeeanofaaSRest
import Derived.Test.YtmoafaaeeanofaaSAnyLaw
import Derived.Test.YtmoafaaeeanofaaSlay
import Derived.Test.YtmoafaaeeanofaaOwn
namespace Go.Proofs.Ytmoafaaeeanofaa
open Go.RowKit
set_option linter.unusedVariables false
set_option linter.unusedSimpArgs false
set_option maxRecDepth 10000
theorem sort_any (l : List Int) (hl : l.length ≤ 1000) (B : Nat) (v : Value) (w : World) (h : w.ownsRow B 2 1 v l.length (intsK .i64 l)) :
    callE Try.prog 27 #[v] w fun u w' => w'.ownsRow B 2 1 v l.length (intsK .i64 (l.mergeSort fun x y => decide (x ≤ y))) ∧ w.grownBy w' v.ownBlock := by
  rcases h.2 with ⟨rfl, hz⟩ | ⟨gb, cap, cur, rfl, hbase, hgb, r1, r2, r3, r4⟩
  · obtain rfl : l = [] := List.eq_nil_of_length_eq_zero hz
    refine Calls.mono (AnyM.slices_Sort_int_none Try.sortA none 0 w) ?_
    rintro e w' ⟨rfl, rfl⟩
    exact ⟨_, rfl, by simpa [intsK] using h, World.grownBy.refl _ _⟩
  · have hH : Go.Sort.Holds encZ w gb 0 l.toArray := holds_of_block_i hgb (by simpa [intsK] using r4)
    have hgl : gb < w.heap.size := (Array.getElem?_eq_some_iff.1 hgb).1
    refine Calls.mono (AnyM.slices_Sort_int Try.sortA gb 0 cap l w hH hgl (by omega)) ?_
    rintro e w' ⟨rfl, nn, os, rfl⟩
    exact ⟨_, rfl, ownsRow_sorted_i (by simp) hbase hgb r1 r2 r3, grownBy_sorted_i _⟩
set_option maxHeartbeats 3200000 in
theorem cloneI_any (ds : List Int) (hlen : ds.length ≤ 1000) (vd : Value) (w : World) (hs : Sl w 1 vd ds.length (intsK .i64 ds)) :
    callE Try.prog 26 #[vd] w fun v w' => w'.ownsRow w.heap.size 2 1 v ds.length (intsK .i64 ds) ∧ Below w.heap.size w w' := by
  obtain ⟨A, cap, rfl, hrd, hA, hc1, hc2⟩ := id hs
  refine calls_E Try.func26 rfl rfl rfl (Nat.le_of_ble_eq_true rfl) ?_
  rcases A with _ | a
  · obtain ⟨hn, hcap⟩ := hA rfl
    obtain rfl : ds = [] := List.length_eq_zero_iff.1 hn
    subst hcap
    have hE := run_eql_nil (P := Try.prog) Try.underlying22 none 0 0 w
    simp [go_sem, IntWalk.iteOmega, IntWalk.toNatUp, hE]
    exact ⟨World.ownsRow_nil _ _ _ _, Below.refl _ _⟩
  · have hE := run_eql_nil (P := Try.prog) Try.underlying22 (some a) ds.length cap w
    simp [go_sem, IntWalk.iteOmega, IntWalk.toNatUp, hE]
    have kB := ext_alloc w (.cells #[] 2)
    have hxb3 : Blk (w.alloc (.cells #[] 2)) w.heap.size 2 #[] := Blk.self_ rfl
    have hrd2 := hrd.keep kB
    refine appendE w.heap.size 2 1 8 Try.underlying22 el2 (ownsEmpty hxb3 (Nat.le_refl _)) hrd2 (oneU _ _) (by unfold maxLen; omega) (by omega) kB.size ?_
    intro out' w6 hout6 hgr6 hblk6
    have hb6 := kB.grown hgr6 kB.size (fun k hk => by
      have : w.heap.size = k := Option.some.inj hk
      omega)
    rw [Nat.zero_add, List.nil_append] at hout6
    simp [go_sem, IntWalk.iteOmega, IntWalk.toNatUp]
    exact ⟨hout6, hb6⟩
/-- a rising list of unlike ones within bounds -/
theorem sorted_props {l : List Int} (hnd : l.Nodup) : (l.mergeSort fun x y => decide (x ≤ y)).Pairwise (· < ·) := by
  have tr : ∀ a b c : Int, decide (a ≤ b) = true → decide (b ≤ c) = true → decide (a ≤ c) = true := fun a b c h1 h2 => by simp only [decide_eq_true_eq] at *; omega
  have tot : ∀ a b : Int, (decide (a ≤ b) || decide (b ≤ a)) = true := fun a b => by simp only [Bool.or_eq_true, decide_eq_true_eq]; omega
  have h1 := List.pairwise_mergeSort tr tot l
  have h2 : (l.mergeSort fun x y => decide (x ≤ y)).Nodup := (List.mergeSort_perm l _).nodup_iff.2 hnd
  have h3 := List.Pairwise.and h1 (List.nodup_iff_pairwise_ne.1 h2)
  exact h3.imp fun ⟨h, hne⟩ => by simp only [decide_eq_true_eq] at h; omega
theorem rise_at : ∀ {l : List Int}, l.Pairwise (· < ·) → ∀ {i : Nat}, i + 1 < l.length → l.getD i 0 < l.getD (i + 1) 0 := by
  intro l h i hi
  have := List.pairwise_iff_getElem.1 h i (i + 1) (by omega) hi (by omega)
  simpa [List.getD, hi, show i < l.length by omega] using this
/-- as many as there are: each at its place -/
theorem rise_full {l : List Int} {t : Int} (h : l.Pairwise (· < ·)) (hb : ∀ x ∈ l, 0 ≤ x ∧ x < t) (hl : (l.length : Int) = t) : ∀ i, i < l.length → l.getD i 0 = i := by
  have up : ∀ i, i < l.length → (i : Int) ≤ l.getD i 0 := by
    intro i
    induction i with
    | zero => intro hi; have := (hb _ (getD_mem hi)).1; simpa using this
    | succ i ih =>
      intro hi
      have := ih (by omega)
      have := rise_at h hi
      omega
  have dn : ∀ k i, i + k + 1 = l.length → l.getD i 0 + k < t := by
    intro k
    induction k with
    | zero => intro i hi; have := (hb _ (getD_mem (show i < l.length by omega))).2; simpa using this
    | succ k ih =>
      intro i hi
      have := ih (i + 1) (by omega)
      have := rise_at h (show i + 1 < l.length by omega)
      omega
  intro i hi
  have h1 := up i hi
  have h2 := dn (l.length - 1 - i) i (by omega)
  omega
set_option maxHeartbeats 6400000 in
theorem once_any (total : Int) (ht : InI total) (k : Int) (hk : InI k) (ds : List Int) (hds : U64 ds) (vd : Value) (w : World) (hs : Sl w 1 vd ds.length (intsK .u64 ds)) :
    callE Try.prog 8 #[.int .i64 total, .int .i64 k, vd] w fun v w' => v = .bool true ∧ Below w.heap.size w w' := by
  obtain ⟨A, cap, rfl, hrd, hA, hc1, hc2⟩ := id hs
  refine calls_E Try.func8 rfl rfl rfl (Nat.le_of_ble_eq_true rfl) ?_
  simp [go_sem, IntWalk.iteOmega, IntWalk.toNatUp]
  refine callE_of (begun_any w) ?_
  rintro _ w1 ⟨rfl, k1⟩
  by_cases h1 : 300 < ds.length
  · have h1' : (300 : Int) < ds.length := by omega
    simp [go_sem, IntWalk.iteOmega, IntWalk.toNatUp, h1']
    refine callE_of (begun_any w1) ?_
    rintro _ w2 ⟨rfl, k2⟩
    simp [go_sem, IntWalk.iteOmega, IntWalk.toNatUp]
    exact ext_trans k1 k2
  have h1' : ¬ (300 : Int) < ds.length := by omega
  simp [go_sem, IntWalk.iteOmega, IntWalk.toNatUp, h1']
  refine callE_of (vUnits_any total k ht hk ds hds _ w1 (Sl_kept hs k1)) ?_
  rintro _ w2 ⟨⟨u, rfl, hu⟩, k2⟩
  have k12 := ext_trans k1 k2
  by_cases hbad : total < 0 ∨ 4611686018427387903 < total ∨ k < 0 ∨ 64 < k
  · rw [unitsV_bad ds hbad] at hu ⊢
    obtain ⟨A2, c2, rfl, _⟩ := id hu
    simp [go_sem, IntWalk.iteOmega, IntWalk.toNatUp]
    exact k12
  by_cases hfew : total < k
  · rw [unitsV_few ds hbad hfew] at hu ⊢
    obtain ⟨A2, c2, rfl, _⟩ := id hu
    simp [go_sem, IntWalk.iteOmega, IntWalk.toNatUp, hfew]
    exact k12
  rw [unitsV_ok ds hbad hfew] at hu ⊢
  obtain ⟨n, rfl⟩ : ∃ n : Nat, k = n := ⟨k.toNat, by omega⟩
  simp only [Int.toNat_natCast] at hu ⊢
  obtain ⟨hnd, hin⟩ := unitsL_ok (total := total) (draws := ds) (j := n) (by omega)
  have hlen := unitsL_length total ds n
  generalize unitsL total ds n = L at *
  subst hlen
  have hlen : L.length = L.length := rfl
  obtain ⟨n, hnL⟩ : ∃ n, n = L.length := ⟨_, rfl⟩
  obtain ⟨A2, c2, rfl, _⟩ := id hu
  have hn64 : n ≤ 64 := by omega
  simp [go_sem, IntWalk.iteOmega, IntWalk.toNatUp]
  refine callE_of (cloneI_any L (by omega) _ w2 hu) ?_
  rintro v3 w3 ⟨hr3, k3⟩
  have k13 := ext_trans k12 k3
  simp [go_sem, IntWalk.iteOmega, IntWalk.toNatUp]
  refine callE_of (sort_any L (by omega) _ v3 w3 hr3) ?_
  rintro u4 w4 ⟨hr4, hgr4⟩
  have hsz : w.heap.size ≤ w2.heap.size := k12.size
  have k14 : Below w.heap.size w w4 := k13.grown hgr4 k13.size (fun j hj => by have := (hr3.lt j hj).1; omega)
  have hrise := sorted_props hnd
  have hperm := List.mergeSort_perm L fun x y => decide (x ≤ y)
  have hin' : ∀ x ∈ L.mergeSort (fun x y => decide (x ≤ y)), 0 ≤ x ∧ x < total := fun x hx => hin x (hperm.mem_iff.1 hx)
  have hlS : (L.mergeSort fun x y => decide (x ≤ y)).length = n := by rw [hperm.length_eq, hnL]
  generalize (L.mergeSort fun x y => decide (x ≤ y)) = T at *
  obtain ⟨hs4, A4, c4, rfl⟩ := own_sl hr4
  obtain ⟨A5, c5, e5, hrd4, _, _, _⟩ := id hs4
  obtain ⟨rfl, rfl⟩ : A4 = A5 ∧ c4 = c5 := by simpa using e5
  clear hr3 hr4 hs4 hgr4 k13 hu
  simp [go_sem, IntWalk.iteOmega, IntWalk.toNatUp]
  refine W_loop (fun st wr => ∃ i : Nat, i ≤ n ∧ st 0 = .int .i64 total ∧ st 1 = .int .i64 L.length ∧ st 9 = .slice A4 L.length c4 ∧ st 49 = .slice A4 L.length c4 ∧ st 50 = .int .i64 L.length ∧ st 51 = .int .i64 i ∧ wr = w4) (fun st _ => n - (intOf (st 51)).toNat) ?_ ?_
  · exact ⟨0, by omega, by simp [go_sem], by simp [go_sem], by simp [go_sem], by simp [go_sem], by simp [go_sem, hnL], by simp [go_sem], rfl⟩
  · rintro st _ ⟨i, hi, e0, e1, e9, e49, e50, e51, rfl⟩
    by_cases hlt : i < n
    · obtain ⟨b, o, rfl, hb, hc⟩ := hrd4.cells (by omega)
      have y0 := hc _ _ (intsK_at (l := T) (i := i) (by omega))
      have hlt' : (i : Int) < n := by omega
      have hiL : i < L.length := by omega
      have hx := hin' _ (getD_mem (l := T) (i := i) (by omega))
      have hfull := fun h => rise_full hrise hin' (h : (T.length : Int) = total) i (by omega)
      rw [hlS] at hfull
      have q1 : ¬ T.getD i 0 < 0 := by omega
      have q2 : ¬ total ≤ T.getD i 0 := by omega
      by_cases hi0 : i = 0
      · have hj0 : ¬ (0 : Int) < (i : Int) := by omega
        have hj1 : ¬ 0 < i := by omega
        generalize T.getD i 0 = x at *
        by_cases hq : total = L.length
        · have hx0 := hfull (by omega)
          have q3 : (total == (L.length : Int)) = true := by simp [hq]
          have q4 : (x != (i : Int)) = false := by simp [hx0]
          simp [go_sem, IntWalk.iteOmega, IntWalk.toNatUp, e0, e1, e9, e49, e50, e51, hlt, hlt', hiL, y0, q1, q2, q3, q4, hj0, hj1]
          refine roundEnd.mk ⟨i + 1, by omega, by simp [go_sem, e0], by simp [go_sem, e1], by simp [go_sem, e9], by simp [go_sem, e49], by simp [go_sem, e50], by simp [go_sem], rfl⟩ ?_
          simp [go_sem, intOf, e51]; omega
        · have q3 : (total == (L.length : Int)) = false := by simpa using hq
          simp [go_sem, IntWalk.iteOmega, IntWalk.toNatUp, e0, e1, e9, e49, e50, e51, hlt, hlt', hiL, y0, q1, q2, q3, hj0, hj1]
          refine roundEnd.mk ⟨i + 1, by omega, by simp [go_sem, e0], by simp [go_sem, e1], by simp [go_sem, e9], by simp [go_sem, e49], by simp [go_sem, e50], by simp [go_sem], rfl⟩ ?_
          simp [go_sem, intOf, e51]; omega
      · obtain ⟨j, hj⟩ : ∃ j, i = j + 1 := ⟨i - 1, by omega⟩
        have y1 := hc _ _ (intsK_at (l := T) (i := j) (by omega))
        have hr := rise_at hrise (i := j) (by omega)
        rw [← hj] at hr
        have hjL : j < L.length := by omega
        have hj0 : (0 : Int) < (i : Int) := by omega
        have q5 : (T.getD j 0 == T.getD i 0) = false := beq_eq_false_iff_ne.2 (by omega)
        have hsub : (i : Int) - 1 = j := by omega
        generalize T.getD i 0 = x at *
        generalize T.getD j 0 = y at *
        by_cases hq : total = L.length
        · have hx0 := hfull (by omega)
          have q3 : (total == (L.length : Int)) = true := by simp [hq]
          have q4 : (x != (i : Int)) = false := by simp [hx0]
          simp [go_sem, IntWalk.iteOmega, IntWalk.toNatUp, e0, e1, e9, e49, e50, e51, hlt, hlt', hiL, hjL, y0, y1, q1, q2, q3, q4, q5, hj0, hsub]
          refine roundEnd.mk ⟨i + 1, by omega, by simp [go_sem, e0], by simp [go_sem, e1], by simp [go_sem, e9], by simp [go_sem, e49], by simp [go_sem, e50], by simp [go_sem], rfl⟩ ?_
          simp [go_sem, intOf, e51]; omega
        · have q3 : (total == (L.length : Int)) = false := by simpa using hq
          simp [go_sem, IntWalk.iteOmega, IntWalk.toNatUp, e0, e1, e9, e49, e50, e51, hlt, hlt', hiL, hjL, y0, y1, q1, q2, q3, q5, hj0, hsub]
          refine roundEnd.mk ⟨i + 1, by omega, by simp [go_sem, e0], by simp [go_sem, e1], by simp [go_sem, e9], by simp [go_sem, e49], by simp [go_sem, e50], by simp [go_sem], rfl⟩ ?_
          simp [go_sem, intOf, e51]; omega
    · obtain rfl : i = n := by omega
      simp [go_sem, IntWalk.iteOmega, IntWalk.toNatUp, e0, e1, e9, e49, e50, e51]
      exact k14
end Go.Proofs.Ytmoafaaeeanofaa
