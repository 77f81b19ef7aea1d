/-
  Sum, the program's and the document's; the law VdrSums.
-/
import Derived.Test.YtoabdejoabfbeaaVUnitsLaw
import Derived.Test.YtoabdejoabfbeaaMake
namespace Go.Proofs.Ytoabdejoabfbeaa
open Go.RowKit
set_option linter.unusedVariables false
set_option linter.unusedSimpArgs false
set_option maxRecDepth 10000
def ints (l : List Int) : List Value := l.map (Value.int .i64)
def sumIn (l : List Vd) (S : Nat → Bool) : Nat → Int
  | 0 => 0
  | k + 1 => sumIn l S k + if S k then (vAt l k).weight else 0
theorem sumIn_le {l : List Vd} {S : Nat → Bool} : ∀ {k : Nat}, wOk l k → 0 ≤ sumIn l S k ∧ sumIn l S k ≤ wSum l k
  | 0, _ => by simp [sumIn, wSum]
  | k + 1, h => by
    have h1 := sumIn_le (S := S) (k := k) fun i hi => h i (by omega)
    have h2 := h k (by omega)
    simp only [sumIn, wSum]
    split <;> omega
theorem sumIn_congr {l : List Vd} {S S' : Nat → Bool} : ∀ {k : Nat}, (∀ i, i < k → S i = S' i) → sumIn l S k = sumIn l S' k
  | 0, _ => rfl
  | k + 1, h => by simp only [sumIn]; rw [sumIn_congr (fun i hi => h i (by omega)), h k (by omega)]
theorem sumIn_add {l : List Vd} {S S' : Nat → Bool} {v : Nat} (hv : S v = false) (hv' : S' v = true) (hS : ∀ i, i ≠ v → S' i = S i) : ∀ {k : Nat}, v < k → sumIn l S' k = sumIn l S k + (vAt l v).weight
  | 0, h => by omega
  | k + 1, h => by
    simp only [sumIn]
    by_cases hk : v = k
    · subst hk
      rw [hv, hv', sumIn_congr (fun i hi => hS i (by omega))]
      simp
    · rw [sumIn_add hv hv' hS (by omega), hS k (by omega)]
      omega
def inSet (who : List Int) (k : Nat) : Bool := decide ((k : Int) ∈ who)
open Classical in
noncomputable def sumV (l : List Vd) (who : List Int) : Int × Int := if checkV l ≠ 0 then (0, checkV l) else if ∀ x ∈ who, 0 ≤ x ∧ x < l.length then (sumIn l (inSet who) l.length, 0) else (0, 4)
noncomputable def sumR (l : List Vd) (who : List Int) : Value := .tuple #[.int .i64 (sumV l who).1, .int .i64 (sumV l who).2]
def hads (n : Nat) (S : Nat → Bool) : List Value := (List.range n).map fun i => .bool (S i)
theorem hads_at {n : Nat} {S : Nat → Bool} {k : Nat} (h : k < n) : (hads n S).toArray[k]? = some (.bool (S k)) := by simp [hads, h]
theorem hads_set {n : Nat} {S S' : Nat → Bool} {v : Nat} (hv' : S' v = true) (hS : ∀ i, i ≠ v → S' i = S i) : (hads n S).toArray.setIfInBounds v (.bool true) = (hads n S').toArray := by
  apply Array.ext_getElem?
  intro j
  rw [Array.getElem?_setIfInBounds]
  by_cases hj : j < n
  · rw [hads_at hj]
    by_cases hjv : v = j
    · subst hjv; simp [hads, hj, hv']
    · rw [if_neg hjv, hads_at hj, hS j (fun e => hjv e.symm)]
  · have e : ∀ S : Nat → Bool, (hads n S).toArray[j]? = none := fun S => Array.getElem?_eq_none (by simp [hads]; omega)
    by_cases hjv : v = j
    · subst hjv; rw [if_pos rfl, if_neg (by simp [hads]; omega), e]
    · rw [if_neg hjv, e, e]
theorem inSet_add {who : List Int} {k v : Nat} {x : Int} (hx : x = v) : inSet (who ++ [x]) k = (decide (k = v) || inSet who k) := by
  subst hx
  unfold inSet
  rw [Bool.eq_iff_iff]
  simp only [List.mem_append, List.mem_singleton, decide_eq_true_eq, Bool.or_eq_true]
  constructor
  · rintro (h | h)
    · exact .inr h
    · exact .inl (by omega)
  · rintro (h | h)
    · exact .inr (by omega)
    · exact .inl h
theorem take_succ_at {l : List Int} {i : Nat} (h : i < l.length) : l.take (i + 1) = l.take i ++ [l.getD i 0] := by
  rw [List.take_add_one, List.getElem?_eq_getElem h]
  simp [List.getD, h]
theorem ints_at {l : List Int} {i : Nat} (h : i < l.length) : (ints l)[i]? = some (.int .i64 (l.getD i 0)) := by
  simp [ints, List.getD, h]
theorem getD_mem {l : List Int} {i : Nat} (h : i < l.length) : l.getD i 0 ∈ l := by
  simp [List.getD, h]
set_option maxHeartbeats 3200000 in
theorem vsum_any (l : List Vd) (who : List Int) (vl vw : Value) (w : World) (hs : Sl w 2 vl l.length (vdrs l)) (hN : NamesIn l) (hW : WeightsIn l) (ht : Sl w 1 vw who.length (ints who)) :
    callE Try.prog 23 #[vl, vw] w fun v w' => v = sumR l who ∧ Below w.heap.size w w' := by
  have hchk := vcheck_any l vl w hs hN hW
  obtain ⟨A, cap, rfl, hrd, hA, hc1, hc2⟩ := id hs
  obtain ⟨B, cap2, rfl, hrw, hB, hd1, hd2⟩ := id ht
  refine calls_E Try.func23 rfl rfl rfl (Nat.le_of_ble_eq_true rfl) ?_
  simp [go_sem, IntWalk.iteOmega, IntWalk.toNatUp]
  refine callE_of hchk ?_
  rintro _ w1 ⟨rfl, k1⟩
  by_cases hck : checkV l = 0
  · obtain ⟨q1, q2, q3, q4⟩ := check0 hck
    rw [hck]
    simp [go_sem, IntWalk.iteOmega, IntWalk.toNatUp]
    refine W_at fun W0 hW0 => ?_
    obtain ⟨b0, hB0, _⟩ := news1 hW0
    clear hW0
    have hB0 := ext_trans k1 hB0
    refine W_loop (fun st wr => ∃ i : Nat, i ≤ who.length ∧ st 0 = .slice A l.length cap ∧ st 7 = .int .i64 (sumIn l (inSet (who.take i)) l.length) ∧ st 8 = .pointer (some ⟨w1.heap.size, 0, none⟩) ∧ st 16 = .slice B who.length cap2 ∧ st 17 = .int .i64 who.length ∧ st 18 = .int .i64 i ∧
      (∀ x ∈ who.take i, 0 ≤ x ∧ x < l.length) ∧ Blk wr w1.heap.size 63 (hads 32 (inSet (who.take i))).toArray ∧ Below w.heap.size w wr) (fun st _ => who.length - (intOf (st 18)).toNat) ?_ ?_
    · have z : ∀ k, sumIn l (inSet []) k = 0 := by
        intro k; induction k with
        | zero => rfl
        | succ k ih => simp [sumIn, ih, inSet]
      refine ⟨0, by omega, by simp [go_sem], ?_, by simp [go_sem], by simp [go_sem], by simp [go_sem], by simp [go_sem], fun x hx => by simp at hx, ?_, hB0⟩
      · rw [List.take_zero, z]; simp [go_sem]
      · have : (hads 32 (inSet (who.take 0))).toArray = #[.bool false, .bool false, .bool false, .bool false, .bool false, .bool false, .bool false, .bool false, .bool false, .bool false, .bool false, .bool false, .bool false, .bool false, .bool false, .bool false, .bool false, .bool false, .bool false, .bool false, .bool false, .bool false, .bool false, .bool false, .bool false, .bool false, .bool false, .bool false, .bool false, .bool false, .bool false, .bool false] := by
          rw [List.take_zero]; rfl
        rw [this]; exact b0
    · clear b0 hB0 hchk
      rintro st wr ⟨i, hi, e0, e7, e8, e16, e17, e18, hall, b0, hbw⟩
      have k1s := k1.size
      by_cases hlt : i < who.length
      · obtain ⟨b2, o2, rfl, hb2, hcw⟩ := hrw.cells (by omega)
        have y0 := hcw _ _ (ints_at hlt)
        rw [← hbw.cell hb2] at y0
        have hlt' : (i : Int) < who.length := by omega
        have htk := take_succ_at hlt
        have hmem := getD_mem hlt
        generalize who.getD i 0 = x at *
        by_cases h1 : x < 0
        · have he : sumV l who = (0, 4) := by unfold sumV; rw [if_neg (fun h => h hck), if_neg (fun h => by have := h x hmem; omega)]
          simp [go_sem, IntWalk.iteOmega, IntWalk.toNatUp, e0, e7, e8, e16, e17, e18, hlt, hlt', y0, h1, sumR, he]
          exact hbw
        · by_cases h2 : (l.length : Int) ≤ x
          · have he : sumV l who = (0, 4) := by unfold sumV; rw [if_neg (fun h => h hck), if_neg (fun h => by have := h x hmem; omega)]
            simp [go_sem, IntWalk.iteOmega, IntWalk.toNatUp, e0, e7, e8, e16, e17, e18, hlt, hlt', y0, h1, h2, sumR, he]
            exact hbw
          · obtain ⟨v, hxv⟩ : ∃ v : Nat, x = v := ⟨x.toNat, by omega⟩
            have hins := fun k => inSet_add (who := who.take i) (k := k) hxv
            rw [← htk] at hins
            have hall' : ∀ x ∈ who.take (i + 1), 0 ≤ x ∧ x < l.length := by
              rw [htk]; intro y hy
              rcases List.mem_append.1 hy with hy | hy
              · exact hall y hy
              · rw [List.mem_singleton.1 hy]; omega
            subst hxv
            have hvl : v < l.length := by omega
            have hv32 : (v : Int) < 32 := by omega
            obtain ⟨b, o, rfl, hb, hc⟩ := hrd.cells (by omega)
            obtain ⟨a0, a1⟩ := vdrs_at l v hvl
            have x1 := hc _ _ a1
            rw [← hbw.cell hb] at x1
            rw [← Nat.add_assoc, vAt_eq hvl] at x1
            have hvl' : (v : Int) < l.length := by omega
            have d0 := (b0.cell v).trans (hads_at (by omega))
            have f0 := b0.frozen v
            have bst := Blk_set (o := v) (v := .bool true) b0
            have hne : b ≠ w1.heap.size := by omega
            by_cases hS : inSet (who.take i) v = true
            · have hsame : ∀ k, inSet (who.take (i + 1)) k = inSet (who.take i) k := fun k => by
                rw [hins k]
                by_cases hk : k = v
                · subst hk; rw [hS]; simp
                · simp [hk]
              have hfun : inSet (who.take (i + 1)) = inSet (who.take i) := funext hsame
              rw [hS] at d0
              simp [go_sem, IntWalk.iteOmega, IntWalk.toNatUp, e0, e7, e8, e16, e17, e18, hlt, hlt', y0, h2, hv32, d0]
              refine roundEnd.mk ⟨i + 1, by omega, by simp [go_sem, e0], ?_, by simp [go_sem, e8], by simp [go_sem, e16], by simp [go_sem, e17], by simp [go_sem], hall', ?_, hbw⟩ ?_
              · rw [hfun]; simp [go_sem, e7]
              · rw [hfun]; exact b0
              · simp [go_sem, intOf]; omega
            · have hS' : inSet (who.take i) v = false := by simpa using hS
              have hv' : inSet (who.take (i + 1)) v = true := by rw [hins v]; simp
              have hoth : ∀ k, k ≠ v → inSet (who.take (i + 1)) k = inSet (who.take i) k := fun k hk => by rw [hins k]; simp [hk]
              have hsum := sumIn_add (l := l) hS' hv' hoth hvl
              have n1 := sumIn_le (S := inSet (who.take i)) q4
              have n2 := sumIn_le (S := inSet (who.take (i + 1))) q4
              have n3 := wSum_nn q4
              rw [hsum] at n2
              rw [hS'] at d0
              rw [hads_set hv' hoth] at bst
              simp [go_sem, IntWalk.iteOmega, IntWalk.toNatUp, e0, e7, e8, e16, e17, e18, hlt, hlt', y0, h2, hv32, d0, f0, hvl', hvl, x1, hne]
              refine roundEnd.mk ⟨i + 1, by omega, by simp [go_sem, e0], ?_, by simp [go_sem, e8], by simp [go_sem, e16], by simp [go_sem, e17], by simp [go_sem], hall', bst, hbw.setCell (by simp; omega) _⟩ ?_
              · rw [hsum]; simp [go_sem]
              · simp [go_sem, intOf]; omega
      · obtain rfl : i = who.length := by omega
        rw [List.take_length] at e7 hall
        have he : sumV l who = (sumIn l (inSet who) l.length, 0) := by unfold sumV; rw [if_neg (fun h => h hck), if_pos hall]
        simp [go_sem, IntWalk.iteOmega, IntWalk.toNatUp, e0, e7, e8, e16, e17, e18, sumR, he]
        exact hbw
  · have hb0 : (checkV l != 0) = true := by simpa using hck
    have he : sumV l who = (0, checkV l) := if_pos hck
    simp [go_sem, IntWalk.iteOmega, IntWalk.toNatUp, hb0, sumR, he]
    exact k1
theorem noinit_vsum : Try.prog.inits.idxOf? 23 = none := by kernel_rfl
theorem infobool : (Try.prog.info? 4).map (fun i => (i.zero, i.size, i.bytes)) = some (some (.bool false), 1, 1) := by kernel_rfl
theorem rep_hads (n : Nat) : Array.replicate n (Value.bool false) = (hads n (inSet [])).toArray := by
  apply Array.ext_getElem?
  intro j
  by_cases hj : j < n
  · rw [hads_at hj]; simp [hj, inSet]
  · rw [Array.getElem?_eq_none (by simp; omega), Array.getElem?_eq_none (by simp [hads]; omega)]
set_option maxHeartbeats 3200000 in
theorem rsum_any (l : List Vd) (who : List Int) (vl vw : Value) (w : World) (hs : Sl w 2 vl l.length (vdrs l)) (hN : NamesIn l) (hW : WeightsIn l) (ht : Sl w 1 vw who.length (ints who)) :
    callE Try.prog 24 #[vl, vw] w fun v w' => v = sumR l who ∧ Below w.heap.size w w' := by
  have hchk := rcheck_any l vl w hs hN hW
  obtain ⟨A, cap, rfl, hrd, hA, hc1, hc2⟩ := id hs
  obtain ⟨B, cap2, rfl, hrw, hB, hd1, hd2⟩ := id ht
  refine calls_E Try.func24 rfl rfl rfl (Nat.le_of_ble_eq_true rfl) ?_
  simp [go_sem, IntWalk.iteOmega, IntWalk.toNatUp]
  refine callE_of hchk ?_
  rintro _ w1 ⟨rfl, k1⟩
  by_cases hck : checkV l = 0
  · obtain ⟨q1, q2, q3, q4⟩ := check0 hck
    rw [hck]
    have hmk := run_make1 (P := Try.prog) (t := 64) (e := 4) (by kernel_rfl) infobool rfl l.length (by omega) (by omega) w1
    simp [go_sem, IntWalk.iteOmega, IntWalk.toNatUp, hmk]
    rw [rep_hads]
    refine W_at fun W0 hW0 => ?_
    obtain ⟨b0, hB0, _⟩ := news1 hW0
    clear hW0
    have hB0 := ext_trans k1 hB0
    refine W_loop (fun st wr => ∃ i : Nat, i ≤ who.length ∧ st 0 = .slice A l.length cap ∧ st 1 = .slice B who.length cap2 ∧ st 7 = .slice (some ⟨w1.heap.size, 0, none⟩) l.length l.length ∧ st 8 = .int .i64 i ∧
      (∀ x ∈ who.take i, 0 ≤ x ∧ x < l.length) ∧ Blk wr w1.heap.size 4 (hads l.length (inSet (who.take i))).toArray ∧ Below w.heap.size w wr) (fun st _ => who.length - (intOf (st 8)).toNat) ?_ ?_
    · exact ⟨0, by omega, by simp [go_sem], by simp [go_sem], by simp [go_sem], by simp [go_sem], fun x hx => by simp at hx, b0, hB0⟩
    · clear b0 hB0 hchk hmk
      rintro st wr ⟨i, hi, e0, e1, e7, e8, hall, b0, hbw⟩
      have k1s := k1.size
      by_cases hlt : i < who.length
      · obtain ⟨b2, o2, rfl, hb2, hcw⟩ := hrw.cells (by omega)
        have y0 := hcw _ _ (ints_at hlt)
        rw [← hbw.cell hb2] at y0
        have hlt' : (i : Int) < who.length := by omega
        have htk := take_succ_at hlt
        have hmem := getD_mem hlt
        generalize who.getD i 0 = x at *
        by_cases h1 : x < 0
        · have he : sumV l who = (0, 4) := by unfold sumV; rw [if_neg (fun h => h hck), if_neg (fun h => by have := h x hmem; omega)]
          simp [go_sem, IntWalk.iteOmega, IntWalk.toNatUp, e0, e1, e7, e8, hlt, hlt', y0, h1, sumR, he]
          exact hbw
        · by_cases h2 : (l.length : Int) ≤ x
          · have he : sumV l who = (0, 4) := by unfold sumV; rw [if_neg (fun h => h hck), if_neg (fun h => by have := h x hmem; omega)]
            simp [go_sem, IntWalk.iteOmega, IntWalk.toNatUp, e0, e1, e7, e8, hlt, hlt', y0, h1, h2, sumR, he]
            exact hbw
          · obtain ⟨v, hxv⟩ : ∃ v : Nat, x = v := ⟨x.toNat, by omega⟩
            have hins := fun k => inSet_add (who := who.take i) (k := k) hxv
            rw [← htk] at hins
            have hall' : ∀ x ∈ who.take (i + 1), 0 ≤ x ∧ x < l.length := by
              rw [htk]; intro y hy
              rcases List.mem_append.1 hy with hy | hy
              · exact hall y hy
              · rw [List.mem_singleton.1 hy]; omega
            subst hxv
            have hvl : v < l.length := by omega
            have hvl' : (v : Int) < l.length := by omega
            have d0 := (b0.cell v).trans (hads_at hvl)
            have f0 := b0.frozen v
            have bst := Blk_set (o := v) (v := .bool true) b0
            have hv' : inSet (who.take (i + 1)) v = true := by rw [hins v]; simp
            have hoth : ∀ k, k ≠ v → inSet (who.take (i + 1)) k = inSet (who.take i) k := fun k hk => by rw [hins k]; simp [hk]
            rw [hads_set hv' hoth] at bst
            simp [go_sem, IntWalk.iteOmega, IntWalk.toNatUp, e0, e1, e7, e8, hlt, hlt', y0, h2, hvl', hvl, d0, f0]
            refine roundEnd.mk ⟨i + 1, by omega, by simp [go_sem, e0], by simp [go_sem, e1], by simp [go_sem, e7], by simp [go_sem], hall', bst, hbw.setCell (by simp; omega) _⟩ ?_
            simp [go_sem, intOf]; omega
      · obtain rfl : i = who.length := by omega
        rw [List.take_length] at b0 hall
        have he : sumV l who = (sumIn l (inSet who) l.length, 0) := by unfold sumV; rw [if_neg (fun h => h hck), if_pos hall]
        simp [go_sem, IntWalk.iteOmega, IntWalk.toNatUp, e0, e1, e7, e8]
        refine W_loop (fun st w2 => ∃ i : Nat, i ≤ l.length ∧ st 0 = .slice A l.length cap ∧ st 7 = .slice (some ⟨w1.heap.size, 0, none⟩) l.length l.length ∧ st 9 = .int .i64 (sumIn l (inSet who) i) ∧ st 10 = .int .i64 i ∧ Below wr.heap.size wr w2) (fun st _ => l.length - (intOf (st 10)).toNat) ?_ ?_
        · exact ⟨0, by omega, by simp [go_sem, e0], by simp [go_sem, e7], by simp [go_sem, sumIn], by simp [go_sem], Below.refl _ _⟩
        · rintro st w2 ⟨i, hi, e0, e7, e9, e10, hb2w⟩
          have hbw2 := hbw.trans (hb2w.mono hbw.size)
          by_cases hlt : i < l.length
          · obtain ⟨b, o, rfl, hb, hc⟩ := hrd.cells (by omega)
            obtain ⟨a0, a1⟩ := vdrs_at l i hlt
            have x1 := hc _ _ a1
            rw [← hbw2.cell hb] at x1
            rw [← Nat.add_assoc, vAt_eq hlt] at x1
            have hlt' : (i : Int) < l.length := by omega
            have d0 := ((b0.keep hb2w).cell i).trans (hads_at hlt)
            have hst : sumIn l (inSet who) (i + 1) = sumIn l (inSet who) i + if inSet who i then (vAt l i).weight else 0 := rfl
            have n1 := sumIn_le (l := l) (S := inSet who) (k := i) fun m hm => q4 m (by omega)
            have n2 := sumIn_le (l := l) (S := inSet who) (k := i + 1) fun m hm => q4 m (by omega)
            have n3 := wSum_nn (l := l) (k := i + 1) fun m hm => q4 m (by omega)
            rw [hst] at n2
            cases hS : inSet who i with
            | true =>
              rw [hS] at d0 n2 hst
              simp only [if_true] at n2 hst
              simp [go_sem, IntWalk.iteOmega, IntWalk.toNatUp, e0, e7, e9, e10, hlt, hlt', d0, x1]
              refine roundEnd.mk ⟨i + 1, by omega, by simp [go_sem, e0], by simp [go_sem, e7], ?_, by simp [go_sem], hb2w⟩ ?_
              · rw [hst]; simp [go_sem]
              · simp [go_sem, intOf]; omega
            | false =>
              rw [hS] at d0 hst
              simp only [Bool.false_eq_true, if_false, Int.add_zero] at hst
              simp [go_sem, IntWalk.iteOmega, IntWalk.toNatUp, e0, e7, e9, e10, hlt, hlt', d0]
              refine roundEnd.mk ⟨i + 1, by omega, by simp [go_sem, e0], by simp [go_sem, e7], ?_, by simp [go_sem], hb2w⟩ ?_
              · rw [hst]; simp [go_sem, e9]
              · simp [go_sem, intOf]; omega
          · obtain rfl : i = l.length := by omega
            simp [go_sem, IntWalk.iteOmega, IntWalk.toNatUp, e0, e7, e9, e10, sumR, he]
            exact hbw2
  · have hb0 : (checkV l != 0) = true := by simpa using hck
    have he : sumV l who = (0, checkV l) := if_pos hck
    simp [go_sem, IntWalk.iteOmega, IntWalk.toNatUp, hb0, sumR, he]
    exact k1
theorem noinit_rsum : Try.prog.inits.idxOf? 24 = none := by kernel_rfl
theorem sl_of_own {w : World} {base : Nat} {e : TypeId} {n c : Nat} {A : Option Addr} {xs : List Value} (h : w.ownsRow base e 1 (.slice A n c) n xs) (hc : c ≤ 9223372036854775807) : Sl w 1 (.slice A n c) n xs := by
  refine ⟨A, c, rfl, Rd.of_own h, fun hA => ?_, ?_, hc⟩
  · rcases h.2 with ⟨he, h0⟩ | ⟨g, cap, cur, hv, _⟩
    · injection he with _ _ h3; exact ⟨h0, h3⟩
    · subst hA; cases hv
  · rcases h.2 with ⟨he, h0⟩ | ⟨g, cap, cur, hv, _, _, hnc, _⟩
    · omega
    · injection hv with _ _ h3; subst h3; exact hnc
set_option maxHeartbeats 6400000 in
theorem sums_any (l : List Vd) (who : List Int) (unit : Int) (hu : -9223372036854775808 ≤ unit ∧ unit ≤ 9223372036854775807) (vl vw : Value) (w : World) (hs : Sl w 2 vl l.length (vdrs l)) (hN : NamesIn l) (hW : WeightsIn l) (ht : Sl w 1 vw who.length (ints who)) :
    callE Try.prog 7 #[vl, vw, .int .i64 unit] w fun v w' => v = .bool true ∧ Below w.heap.size w w' := by
  obtain ⟨A, cap, rfl, hrd, hA, hc1, hc2⟩ := id hs
  obtain ⟨B, cap2, rfl, hrw, hB, hd1, hd2⟩ := id ht
  refine calls_E Try.func7 rfl rfl rfl (Nat.le_of_ble_eq_true rfl) ?_
  simp [go_sem, IntWalk.iteOmega, IntWalk.toNatUp]
  refine callE_of (live_any w) ?_
  rintro _ w1 ⟨rfl, k1⟩
  simp [go_sem, IntWalk.iteOmega, IntWalk.toNatUp]
  refine callE_of (few_any l _ w1 (Sl_kept hs k1) hN) ?_
  rintro _ w2 ⟨rfl, k2⟩
  have kk := ext_trans k1 k2
  by_cases hf : fewV l = true
  · have hlen := few_50 hf
    rw [hf]
    by_cases hw2 : 200 < who.length
    · have hw2' : (200 : Int) < who.length := by omega
      simp [go_sem, IntWalk.iteOmega, IntWalk.toNatUp, hw2']
      refine callE_of (live_any w2) ?_
      rintro _ w4 ⟨rfl, k4⟩
      simp [go_sem, IntWalk.iteOmega, IntWalk.toNatUp]
      exact ext_trans kk k4
    · have hw2' : ¬ (200 : Int) < who.length := by omega
      simp [go_sem, IntWalk.iteOmega, IntWalk.toNatUp, hw2']
      refine callE_of (vsum_any l who _ _ w2 (Sl_kept hs kk) hN hW (Sl_kept ht kk)) ?_
      rintro _ w3 ⟨rfl, k3⟩
      have kk := ext_trans kk k3
      have hsr : ∃ p q, sumR l who = .tuple #[.int .i64 p, .int .i64 q] := ⟨_, _, rfl⟩
      obtain ⟨p, q, hsr⟩ := hsr
      rw [hsr]
      simp [go_sem, IntWalk.iteOmega, IntWalk.toNatUp]
      refine callE_of (rsum_any l who _ _ w3 (Sl_kept hs kk) hN hW (Sl_kept ht kk)) ?_
      rintro _ w4 ⟨rfl, k4⟩
      have kk := ext_trans kk k4
      rw [hsr]
      simp [go_sem, IntWalk.iteOmega, IntWalk.toNatUp]
      refine callE_of (vat_any l unit hu _ w4 (Sl_kept hs kk) hN hW) ?_
      rintro _ w5 ⟨rfl, k5⟩
      have kk := ext_trans kk k5
      simp [go_sem, IntWalk.iteOmega, IntWalk.toNatUp]
      refine callE_of (rat_any l unit hu _ w5 (Sl_kept hs kk) hN hW) ?_
      rintro _ w6 ⟨rfl, k6⟩
      have kk := ext_trans kk k6
      simp [go_sem, IntWalk.iteOmega, IntWalk.toNatUp]
      have hown : (w6.alloc (.cells #[.int .i64 (-1), .int .i64 0, .int .i64 ((l.length : Int) - 1), .int .i64 l.length] 3)).ownsRow w.heap.size 3 1 (.slice (some ⟨w6.heap.size, 0, none⟩) 4 4) 4 (ints [-1, 0, (l.length : Int) - 1, l.length]) :=
        ⟨rfl, .inr ⟨w6.heap.size, 4, _, rfl, kk.size, heap_alloc_new _ _, by omega, by unfold maxLen; omega, rfl, rfl⟩⟩
      have hrwA : Rd (w6.alloc (.cells #[.int .i64 (-1), .int .i64 0, .int .i64 ((l.length : Int) - 1), .int .i64 l.length] 3)) 1 B who.length (ints who) := hrw.keep (ext_trans kk (ext_alloc _ _))
      have kA := ext_trans kk (ext_alloc w6 (.cells #[.int .i64 (-1), .int .i64 0, .int .i64 ((l.length : Int) - 1), .int .i64 l.length] 3))
      generalize w6.alloc (.cells #[.int .i64 (-1), .int .i64 0, .int .i64 ((l.length : Int) - 1), .int .i64 l.length] 3) = W7 at *
      refine appendE w.heap.size 3 1 8 Try.underlying43 el3 hown hrwA (allOne_of fun v hv => by simp only [ints, List.mem_map] at hv; obtain ⟨a, _, rfl⟩ := hv; rfl) (by unfold maxLen; omega) (by omega) kA.size ?_
      intro v' W8 hown8 hg8 hb8
      have kB : Below w.heap.size w W8 := kA.grown hg8 kA.size (fun k hk => by simp only [Value.ownBlock, Option.some.injEq] at hk; subst hk; exact kk.size)
      have hcat : ints [-1, 0, (l.length : Int) - 1, l.length] ++ ints who = ints ([-1, 0, (l.length : Int) - 1, l.length] ++ who) := by simp [ints]
      rw [hcat] at hown8
      have hin : ∀ x ∈ ([-1, 0, (l.length : Int) - 1, l.length] ++ who), True := fun _ _ => trivial
      have hln : ([-1, 0, (l.length : Int) - 1, l.length] ++ who).length = 4 + who.length := by simp; omega
      generalize [-1, 0, (l.length : Int) - 1, l.length] ++ who = xs at *
      rw [← hln] at hown8
      obtain ⟨g, cap', hv'⟩ : ∃ g c, v' = .slice (some ⟨g, 0, none⟩) xs.length c ∧ c ≤ 9223372036854775807 := by
        rcases hown8.2 with ⟨_, h0⟩ | ⟨g, c, cur, rfl, _, _, _, hm, _⟩
        · omega
        · exact ⟨g, c, rfl, by unfold maxLen at hm; exact hm⟩
      obtain ⟨rfl, hcap'⟩ := hv'
      have hsl := sl_of_own hown8 hcap'
      clear hown hown8 hg8 hb8 hrwA kA hcat
      simp [go_sem, IntWalk.iteOmega, IntWalk.toNatUp]
      obtain ⟨A3, c3, e3, hrx, _, _, _⟩ := hsl
      injection e3 with e31 e32 e33
      subst e31; subst e33
      refine W_loop (fun st wr => ∃ i : Nat, i ≤ xs.length ∧ st 0 = .slice A l.length cap ∧ st 66 = .slice (some ⟨g, 0, none⟩) xs.length cap' ∧ st 67 = .int .i64 xs.length ∧ st 68 = .int .i64 i ∧ Below W8.heap.size W8 wr) (fun st _ => xs.length - (intOf (st 68)).toNat) ?_ ?_
      · exact ⟨0, by omega, by simp [go_sem], by simp [go_sem], by simp [go_sem], by simp [go_sem], Below.refl _ _⟩
      · rintro st wr ⟨i, hi, e0, e66, e67, e68, hb8⟩
        have hbw := kB.trans (hb8.mono kB.size)
        by_cases hlt : i < xs.length
        · obtain ⟨b, o, ebo, hb, hc⟩ := hrx.cells (by omega)
          simp only [Option.some.injEq, Addr.mk.injEq] at ebo
          obtain ⟨rfl, rfl, _⟩ := ebo
          have y0 := hc _ _ (ints_at hlt)
          rw [← hb8.cell hb, Nat.zero_add] at y0
          have hlt' : (i : Int) < xs.length := by omega
          generalize xs.getD i 0 = x at *
          simp [go_sem, IntWalk.iteOmega, IntWalk.toNatUp, e0, e66, e67, e68, hlt, hlt', y0]
          refine callE_of (vunits_any l x _ wr (Sl_kept hs hbw) hN hW) ?_
          rintro _ w9 ⟨rfl, k9⟩
          have hbw := hbw.trans (k9.mono hbw.size)
          obtain ⟨p', q', hur⟩ : ∃ p q, unitsR l x = .tuple #[.int .i64 p, .int .i64 q] := ⟨_, _, rfl⟩
          rw [hur]
          simp [go_sem, IntWalk.iteOmega, IntWalk.toNatUp, e0, e66, e67, e68]
          refine callE_of (runits_any l x _ w9 (Sl_kept hs hbw) hN hW) ?_
          rintro _ w10 ⟨rfl, k10⟩
          have hbw := hbw.trans (k10.mono hbw.size)
          rw [hur]
          simp [go_sem, IntWalk.iteOmega, IntWalk.toNatUp, e0, e66, e67, e68]
          refine roundEnd.mk ⟨i + 1, by omega, by simp [go_sem, e0], by simp [go_sem, e66], by simp [go_sem, e67], by simp [go_sem], ext_trans (ext_trans hb8 k9) k10⟩ ?_
          simp [go_sem, intOf]; omega
        · obtain rfl : i = xs.length := by omega
          simp [go_sem, IntWalk.iteOmega, IntWalk.toNatUp, e0, e66, e67, e68]
          exact hbw
  · have hf' : fewV l = false := by simpa using hf
    rw [hf']
    simp [go_sem, IntWalk.iteOmega, IntWalk.toNatUp]
    refine callE_of (live_any w2) ?_
    rintro _ w4 ⟨rfl, k4⟩
    simp [go_sem, IntWalk.iteOmega, IntWalk.toNatUp]
    exact ext_trans kk k4
end Go.Proofs.Ytoabdejoabfbeaa
