/-
  Texts joined: VRefs, Rely.
-/
import Derived.Test.YtmcbcoafodmbjaaGreatDoorJoin28

/-
  The document's Find, Check, Total, At.
-/
namespace Go.Proofs.YtmcbcoafodmbjaaGreatDoor
open Go.RowKit
set_option linter.unusedVariables false
set_option linter.unusedSimpArgs false
set_option maxRecDepth 10000
set_option maxHeartbeats 1600000 in
theorem rfind_any (l : List Vd) (name : ByteArray) (vl : Value) (w : World) (hs : Sl w 2 vl l.length (vdrs l)) : callE Tryz.prog 82 #[vl, .string name] w fun v w' => v = .int .i64 (findV name l 0) ∧ Below w.heap.size w w' := by
  obtain ⟨A, cap, rfl, hrd, hA, hc1, hc2⟩ := id hs
  refine calls_E Tryz.func82 rfl rfl rfl (Nat.le_of_ble_eq_true rfl) ?_
  simp [go_sem, IntWalk.iteOmega, IntWalk.toNatUp]
  refine W_loop (fun st wr => ∃ i : Nat, i ≤ l.length ∧ st 0 = .slice A l.length cap ∧ st 1 = .string name ∧ st 5 = .int .i64 i ∧ findV name l 0 = findV name (l.drop i) i ∧ Below w.heap.size w wr) (fun st _ => l.length - (intOf (st 5)).toNat) ?_ ?_
  · exact ⟨0, by omega, by simp [go_sem], by simp [go_sem], by simp [go_sem], by simp, Below.refl _ _⟩
  · rintro st wr ⟨i, hi, e0, e1, e5, hf, hbw⟩
    by_cases hlt : i < l.length
    · obtain ⟨b, o, rfl, hb, hc⟩ := hrd.cells (by omega)
      obtain ⟨a0, a1⟩ := vdrs_at l i hlt
      have x0 := hc _ _ a0
      rw [← hbw.cell hb] at x0
      have hfa := findV_at (name := name) hlt
      rw [← hf] at hfa
      have hlt' : (i : Int) < l.length := by omega
      generalize l[i] = x at *
      by_cases hq : x.name.toList = name.toList
      · have hq' : (x.name.toList == name.toList) = true := by simp [hq]
        rw [if_pos hq] at hfa
        simp [go_sem, IntWalk.iteOmega, IntWalk.toNatUp, e0, e1, e5, hlt, hlt', x0, hq', hfa]
        exact hbw
      · have hq' : (x.name.toList == name.toList) = false := beq_eq_false_iff_ne.2 hq
        rw [if_neg hq] at hfa
        simp [go_sem, IntWalk.iteOmega, IntWalk.toNatUp, e0, e1, e5, hlt, hlt', x0, hq']
        refine roundEnd.mk ⟨i + 1, by omega, by simp [go_sem, e0], by simp [go_sem, e1], by simp [go_sem], hfa, hbw⟩ ?_
        simp [go_sem, intOf]; omega
    · obtain rfl : i = l.length := by omega
      rw [List.drop_length] at hf
      have hf' : findV name l 0 = -1 := hf
      simp [go_sem, IntWalk.iteOmega, IntWalk.toNatUp, e0, e1, e5, hf']
      exact hbw
set_option maxHeartbeats 6400000 in
theorem rvcheck_any (l : List Vd) (vl : Value) (w : World) (hs : Sl w 2 vl l.length (vdrs l)) (hN : ∀ x ∈ l, x.name.size ≤ 9223372036854775807) (hW : ∀ x ∈ l, -9223372036854775808 ≤ x.weight ∧ x.weight ≤ 9223372036854775807) :
    callE Tryz.prog 29 #[vl] w fun v w' => v = .int .i64 (checkV l) ∧ Below w.heap.size w w' := by
  obtain ⟨A, cap, rfl, hrd, hA, hc1, hc2⟩ := id hs
  refine calls_E Tryz.func29 rfl rfl rfl (Nat.le_of_ble_eq_true rfl) ?_
  by_cases h1 : l.length < 1
  · have h1' : (l.length : Int) < 1 := by omega
    have he : checkV l = 3 := by unfold checkV; rw [if_pos (Or.inl h1)]
    simp [go_sem, IntWalk.iteOmega, IntWalk.toNatUp, h1', he]
    exact Below.refl _ _
  · by_cases h2 : 32 < l.length
    · have h1' : ¬ (l.length : Int) < 1 := by omega
      have h2' : (32 : Int) < l.length := by omega
      have he : checkV l = 3 := by unfold checkV; rw [if_pos (Or.inr h2)]
      simp [go_sem, IntWalk.iteOmega, IntWalk.toNatUp, h1', h2', he]
      exact Below.refl _ _
    · have h1' : ¬ (l.length : Int) < 1 := by omega
      have h2' : ¬ (32 : Int) < l.length := by omega
      have hlen : ¬ (l.length < 1 ∨ 32 < l.length) := by omega
      simp [go_sem, IntWalk.iteOmega, IntWalk.toNatUp, h1', h2']
      refine W_loop (fun st wr => ∃ i : Nat, i ≤ l.length ∧ st 0 = .slice A l.length cap ∧ st 3 = .int .i64 i ∧ namesOk l i ∧ Below w.heap.size w wr) (fun st _ => l.length - (intOf (st 3)).toNat) ?_ ?_
      · exact ⟨0, by omega, by simp [go_sem], by simp [go_sem], fun i hi => by omega, Below.refl _ _⟩
      · rintro st wr ⟨i, hi, e0, e3, hnm, hbw⟩
        by_cases hlt : i < l.length
        · obtain ⟨b, o, rfl, hb, hc⟩ := hrd.cells (by omega)
          obtain ⟨a0, a1⟩ := vdrs_at l i hlt
          have x0' := hc _ _ a0
          have x0 := x0'
          rw [← hbw.cell hb] at x0
          have hNi := hN _ (List.getElem_mem hlt)
          have hbad : ¬ (nameE (vAt l i).name = 0 ∧ findV (vAt l i).name l 0 = i) → checkV l = 50 := fun h => by
            unfold checkV
            rw [if_neg hlen, if_pos fun hh => h (hh i hlt)]
          have hgood : nameE (vAt l i).name = 0 ∧ findV (vAt l i).name l 0 = i → namesOk l (i + 1) := fun h j hj => by
            rcases Nat.lt_or_ge j i with hj' | hj'
            · exact hnm j hj'
            · obtain rfl : j = i := by omega
              exact h
          rw [← vAt_eq hlt] at hbad hgood
          generalize l[i] = x at *
          have hlt' : (i : Int) < l.length := by omega
          simp [go_sem, IntWalk.iteOmega, IntWalk.toNatUp, e0, e3, hlt, hlt', x0]
          refine callE_of (rname_any x.name hNi _) ?_
          rintro _ w3 ⟨rfl, k3⟩
          have kw3 := hbw.trans (k3.mono hbw.size)
          have x3 := x0'
          rw [← kw3.cell hb] at x3
          rcases nameE_01 x.name with hn0 | hn0
          · rw [hn0]
            simp [go_sem, IntWalk.iteOmega, IntWalk.toNatUp, e0, e3, hlt, hlt', x3]
            refine callE_of (rfind_any l x.name _ w3 ?_) ?_
            · obtain ⟨A', c', q1, q2, q3⟩ := hs
              exact ⟨A', c', q1, q2.keep kw3, q3⟩
            rintro _ w4 ⟨rfl, k4⟩
            have kw4 := kw3.trans (k4.mono kw3.size)
            by_cases hq : findV x.name l 0 = i
            · have hq' : (findV x.name l 0 != (i : Int)) = false := by simp [hq]
              simp [go_sem, IntWalk.iteOmega, IntWalk.toNatUp, e0, e3, hq']
              refine roundEnd.mk ⟨i + 1, by omega, by simp [go_sem, e0], by simp [go_sem], hgood ⟨hn0, hq⟩, kw4⟩ ?_
              simp [go_sem, intOf]; omega
            · have hq' : (findV x.name l 0 != (i : Int)) = true := by simpa using hq
              have he := hbad fun h => hq h.2
              simp [go_sem, IntWalk.iteOmega, IntWalk.toNatUp, e0, e3, hq', he]
              exact kw4
          · have he := hbad fun h => by rw [hn0] at h; exact absurd h.1 (by decide)
            rw [hn0]
            simp [go_sem, IntWalk.iteOmega, IntWalk.toNatUp, e0, e3, he]
            exact kw3
        · obtain rfl : i = l.length := by omega
          simp [go_sem, IntWalk.iteOmega, IntWalk.toNatUp, e0, e3]
          refine W_loop (fun st w2 => ∃ i : Nat, i ≤ l.length ∧ st 0 = .slice A l.length cap ∧ st 5 = .int .i64 i ∧ st 4 = .int .i64 (4611686018427387903 - wSum l i) ∧ wOk l i ∧ Below w.heap.size w w2) (fun st _ => l.length - (intOf (st 5)).toNat) ?_ ?_
          · exact ⟨0, by omega, by simp [go_sem, e0], by simp [go_sem], by simp [go_sem, wSum], fun i hi => by omega, hbw⟩
          · rintro st w2 ⟨i, hi, e0, e5, e4, hwk, hbw⟩
            have hnn := wSum_nn hwk
            by_cases hlt : i < l.length
            · obtain ⟨b, o, rfl, hb, hc⟩ := hrd.cells (by omega)
              obtain ⟨a0, a1⟩ := vdrs_at l i hlt
              have x1 := hc _ _ a1
              rw [← hbw.cell hb] at x1
              rw [← Nat.add_assoc] at x1
              have hbad : ¬ (1 ≤ (vAt l i).weight ∧ (vAt l i).weight ≤ 4611686018427387903 - wSum l i) → checkV l = 51 := fun h => by
                unfold checkV
                rw [if_neg hlen, if_neg (fun h => h hnm), if_pos fun hh => h (hh i hlt)]
              have hgood : 1 ≤ (vAt l i).weight ∧ (vAt l i).weight ≤ 4611686018427387903 - wSum l i → wOk l (i + 1) := fun h j hj => by
                rcases Nat.lt_or_ge j i with hj' | hj'
                · exact hwk j hj'
                · obtain rfl : j = i := by omega
                  exact h
              have hst : wSum l (i + 1) = wSum l i + (vAt l i).weight := rfl
              rw [← vAt_eq hlt] at hbad hgood hst
              generalize l[i] = x at *
              generalize wSum l i = T at *
              have hlt' : (i : Int) < l.length := by omega
              by_cases g1 : x.weight < 1
              · have he := hbad (by omega)
                simp [go_sem, IntWalk.iteOmega, IntWalk.toNatUp, e0, e5, e4, hlt, hlt', x1, g1, he]
                exact hbw
              · by_cases g2 : 4611686018427387903 - T < x.weight
                · have he := hbad (by omega)
                  simp [go_sem, IntWalk.iteOmega, IntWalk.toNatUp, e0, e5, e4, hlt, hlt', x1, g1, g2, he]
                  exact hbw
                · have HK := hgood (by omega)
                  simp [go_sem, IntWalk.iteOmega, IntWalk.toNatUp, e0, e5, e4, hlt, hlt', x1, g1, g2]
                  refine roundEnd.mk ⟨i + 1, by omega, by simp [go_sem, e0], by simp [go_sem], ?_, HK, hbw⟩ ?_
                  · rw [hst]; simp [go_sem]; omega
                  · simp [go_sem, intOf]; omega
            · obtain rfl : i = l.length := by omega
              have he : checkV l = 0 := by
                unfold checkV
                rw [if_neg hlen, if_neg (fun h => h hnm), if_neg (fun h => h hwk)]
              simp [go_sem, IntWalk.iteOmega, IntWalk.toNatUp, e0, e5, e4, he]
              exact hbw
set_option maxHeartbeats 3200000 in
theorem rtotal_any (l : List Vd) (vl : Value) (w : World) (hs : Sl w 2 vl l.length (vdrs l)) (hN : ∀ x ∈ l, x.name.size ≤ 9223372036854775807) (hW : ∀ x ∈ l, -9223372036854775808 ≤ x.weight ∧ x.weight ≤ 9223372036854775807) :
    callE Tryz.prog 30 #[vl] w fun v w' => v = .int .i64 (totalV l) ∧ Below w.heap.size w w' := by
  have hchk := fun w' (h : Below w.heap.size w w') => rvcheck_any l vl w' (Sl_kept hs h) hN hW
  obtain ⟨A, cap, rfl, hrd, hA, hc1, hc2⟩ := id hs
  refine calls_E Tryz.func30 rfl rfl rfl (Nat.le_of_ble_eq_true rfl) ?_
  simp [go_sem, IntWalk.iteOmega, IntWalk.toNatUp]
  refine W_loop (fun st wr => ∃ i : Nat, i ≤ l.length ∧ st 0 = .slice A l.length cap ∧ st 3 = .int .i64 (if checkV l = 0 then wSum l i else 0) ∧ st 4 = .int .i64 i ∧ (checkV l ≠ 0 → i = 0) ∧ Below w.heap.size w wr) (fun st _ => l.length - (intOf (st 4)).toNat) ?_ ?_
  · exact ⟨0, by omega, by simp [go_sem], by simp [go_sem, wSum], by simp [go_sem], fun _ => rfl, Below.refl _ _⟩
  · rintro st wr ⟨i, hi, e0, e3, e4, hz, hbw⟩
    by_cases hlt : i < l.length
    · obtain ⟨b, o, rfl, hb, hc⟩ := hrd.cells (by omega)
      obtain ⟨a0, a1⟩ := vdrs_at l i hlt
      have x1' := hc _ _ a1
      rw [← Nat.add_assoc] at x1'
      have hlt' : (i : Int) < l.length := by omega
      simp [go_sem, IntWalk.iteOmega, IntWalk.toNatUp, e0, e3, e4, hlt, hlt']
      refine callE_of (hchk wr hbw) ?_
      rintro _ w1 ⟨rfl, k1⟩
      have hbw := hbw.trans (k1.mono hbw.size)
      have x1 := x1'
      rw [← hbw.cell hb] at x1
      by_cases hck : checkV l = 0
      · obtain ⟨q1, q2, q3, q4⟩ := check0 hck
        have hst : wSum l (i + 1) = wSum l i + (vAt l i).weight := rfl
        have n1 := wSum_nn (l := l) (k := i) fun j hj => q4 j (by omega)
        have n2 := wSum_nn (l := l) (k := i + 1) fun j hj => q4 j (by omega)
        rw [← vAt_eq hlt] at hst
        rw [hst] at n2
        rw [if_pos hck] at e3
        generalize l[i] = x at *
        generalize wSum l i = T at *
        simp [go_sem, IntWalk.iteOmega, IntWalk.toNatUp, e0, e3, e4, hlt, hlt', hck, x1]
        refine roundEnd.mk ⟨i + 1, by omega, by simp [go_sem, e0], ?_, by simp [go_sem], fun h => absurd hck h, hbw⟩ ?_
        · rw [if_pos hck, hst]; simp [go_sem]
        · simp [go_sem, intOf]; omega
      · have hb0 : (checkV l == 0) = false := by simpa using hck
        have he : totalV l = 0 := by unfold totalV; rw [if_neg hck]
        rw [if_neg hck] at e3
        simp [go_sem, IntWalk.iteOmega, IntWalk.toNatUp, e0, e3, e4, hb0, he]
        exact hbw
    · obtain rfl : i = l.length := by omega
      have he : totalV l = if checkV l = 0 then wSum l l.length else 0 := rfl
      simp [go_sem, IntWalk.iteOmega, IntWalk.toNatUp, e0, e3, e4, he]
      exact hbw
end Go.Proofs.YtmcbcoafodmbjaaGreatDoor
namespace Go.Proofs.YtmcbcoafodmbjaaGreatDoor
open Go.RowKit
set_option linter.unusedVariables false
variable {ro : Option Nat} {ds : List Deferred}
abbrev Vow := Value → World → Prop
def isV (v : Value) : Vow := fun u _ => u = v
structure Goes where
  rel : World → World → Prop
  refl : ∀ w, rel w w
  trans : ∀ {a b c}, rel a b → rel b c → rel a c
def adds : Goes := ⟨fun w w' => Below w.heap.size w w', fun w => Below.refl _ w, fun h1 h2 => h1.trans (h2.mono h1.size)⟩
structure Vow.Firm (F : Vow) (R : Goes := adds) : Prop where
  keep : ∀ {v w w'}, F v w → R.rel w w' → F v w'
theorem firm_is (v : Value) {R : Goes} : Vow.Firm (isV v) R := ⟨fun h _ => h⟩
def vowAt (f : Vow) (s : Slots) (w : World) : Option Tmp → Prop
  | some d => f (s d) w
  | none => True
def vowOf (s : Slots) (w : World) : Option Oper → Option Vow → Prop
  | some o, some f => vowAt f s w o.dst
  | _, _ => True
def relyDeps (l : List Oper) (F : List Vow) (s : Slots) (w : World) : List Edge → Prop
  | [] => True
  | e :: r => (Region.binds .any e = true → vowOf s w l[e.on]? F[e.on]?) ∧ relyDeps l F s w r
def isDst (t : Nat) : List Oper → Bool
  | [] => false
  | o :: r => o.dst == some t || isDst t r
def relyB (n : Nat) : Nat → List Oper → Bool
  | _, [] => true
  | i, o :: r => o.guard.isNone && (match o.dst with | some d => decide (d < n) && !isDst d r | none => true) && o.after.toList.all (fun e => !Region.binds .any e || decide (e.on < i)) && relyB n (i + 1) r
def relyE (P : Program) (R : Goes) (T : List Nat) (l : List Oper) (F : List Vow) (s : Slots) (w : World) : Nat → List Oper → List Vow → Prop
  | _, [], [] => True
  | i, o :: r, f :: q => (T.contains i = false → ∀ s' w', R.rel w w' → relyDeps l F s' w' o.after.toList → (∀ t, isDst t l = false → s' t = s t) → resE P (opR P { o with guard := none } s' w') (fun v w'' => R.rel w' w'' ∧ f v w'')) ∧ relyE P R T l F s w (i + 1) r q
  | _, _, _ => False
def relyQ (T : List Nat) (F : List Vow) (s' : Slots) (w' : World) : Nat → List Oper → List Vow → Prop
  | _, [], [] => True
  | i, o :: r, f :: q => (T.contains i = false → vowAt f s' w' o.dst) ∧ relyQ T F s' w' (i + 1) r q
  | _, _, _ => False
theorem relyE_at {P : Program} {R : Goes} {T : List Nat} {l : List Oper} {F : List Vow} {s : Slots} {w : World} : ∀ {m : List Oper} {q : List Vow} {k i : Nat} {o : Oper}, relyE P R T l F s w k m q → m[i]? = some o → ∃ f, q[i]? = some f ∧ (T.contains (k + i) = false → ∀ s' w', R.rel w w' → relyDeps l F s' w' o.after.toList → (∀ t, isDst t l = false → s' t = s t) → resE P (opR P { o with guard := none } s' w') (fun v w'' => R.rel w' w'' ∧ f v w''))
  | [], _, k, i, o, _, h => by simp at h
  | x :: m, [], k, i, o, h, _ => h.elim
  | x :: m, f :: q, k, 0, o, h, hi => by
    simp only [List.getElem?_cons_zero, Option.some.injEq] at hi
    subst hi
    exact ⟨f, rfl, h.1⟩
  | x :: m, f :: q, k, i + 1, o, h, hi => by
    simp only [List.getElem?_cons_succ] at hi
    obtain ⟨g, h1, h2⟩ := relyE_at h.2 hi
    exact ⟨g, h1, by rw [show k + (i + 1) = k + 1 + i by omega]; exact h2⟩
theorem isDst_at {t : Nat} : ∀ {l : List Oper} {i : Nat} {o : Oper}, l[i]? = some o → o.dst = some t → isDst t l = true
  | [], i, o, h, _ => by simp at h
  | x :: l, 0, o, h, hd => by
    simp only [List.getElem?_cons_zero, Option.some.injEq] at h
    subst h
    simp [isDst, hd]
  | x :: l, i + 1, o, h, hd => by
    simp only [List.getElem?_cons_succ] at h
    simp [isDst, isDst_at h hd]
theorem relyB_at {n : Nat} : ∀ {l : List Oper} {k i : Nat} {o : Oper}, relyB n k l = true → l[i]? = some o → o.guard = none ∧ (∀ d, o.dst = some d → d < n) ∧ ∀ e ∈ o.after.toList, Region.binds .any e = true → e.on < k + i
  | [], k, i, o, _, h => by simp at h
  | x :: l, k, 0, o, hb, h => by
    simp only [List.getElem?_cons_zero, Option.some.injEq] at h
    subst h
    simp only [relyB, Bool.and_eq_true, List.all_eq_true] at hb
    refine ⟨by simpa using hb.1.1.1, fun d hd => ?_, fun e he hbn => by
      have := hb.1.2 e he
      rw [hbn] at this
      simpa using this⟩
    have := hb.1.1.2
    rw [hd] at this
    simp only [Bool.and_eq_true, decide_eq_true_eq] at this
    exact this.1
  | x :: l, k, i + 1, o, hb, h => by
    simp only [List.getElem?_cons_succ] at h
    simp only [relyB, Bool.and_eq_true] at hb
    obtain ⟨h1, h2, h3⟩ := relyB_at hb.2 h
    exact ⟨h1, h2, fun e he hbn => by have := h3 e he hbn; omega⟩
theorem relyB_ne {n : Nat} : ∀ {l : List Oper} {k i j : Nat} {o p : Oper} {d : Nat}, relyB n k l = true → l[i]? = some o → l[j]? = some p → i < j → o.dst = some d → p.dst ≠ some d
  | [], k, i, j, o, p, d, _, h, _, _, _ => by simp at h
  | x :: l, k, 0, j + 1, o, p, d, hb, h, hj, _, hd => by
    simp only [List.getElem?_cons_zero, Option.some.injEq] at h
    simp only [List.getElem?_cons_succ] at hj
    subst h
    simp only [relyB, Bool.and_eq_true] at hb
    have := hb.1.1.2
    rw [hd] at this
    simp only [Bool.and_eq_true, Bool.not_eq_true'] at this
    intro hp
    have h2 := isDst_at hj hp
    rw [h2] at this
    exact absurd this.2 (by simp)
  | x :: l, k, i + 1, j + 1, o, p, d, hb, h, hj, hlt, hd => by
    simp only [List.getElem?_cons_succ] at h hj
    simp only [relyB, Bool.and_eq_true] at hb
    exact relyB_ne hb.2 h hj (by omega) hd
  | x :: l, k, i, 0, o, p, d, _, _, _, hlt, _ => by omega
theorem relyDeps_of {l : List Oper} {F : List Vow} {s : Slots} {w : World} : ∀ {es : List Edge}, (∀ e ∈ es, Region.binds .any e = true → ∀ o d f, l[e.on]? = some o → o.dst = some d → F[e.on]? = some f → f (s d) w) → relyDeps l F s w es
  | [], _ => trivial
  | e :: r, h => ⟨fun hb => by
      have := h e List.mem_cons_self hb
      unfold vowOf
      split
      · rename_i o f h1 h2
        cases hd : o.dst with
        | none => trivial
        | some d => exact this o d f h1 hd h2
      · trivial, relyDeps_of fun x hx => h x (List.mem_cons_of_mem _ hx)⟩
theorem relyQ_of {T : List Nat} {F : List Vow} {s : Slots} {w : World} : ∀ {l : List Oper} {q : List Vow} {k : Nat}, l.length = q.length → (∀ (i : Nat) (o : Oper) (d : Tmp) (f : Vow), T.contains (k + i) = false → l[i]? = some o → o.dst = some d → q[i]? = some f → f (s d) w) → relyQ T F s w k l q
  | [], [], _, _, _ => trivial
  | [], _ :: _, _, h, _ => by simp at h
  | _ :: _, [], _, h, _ => by simp at h
  | o :: l, f :: q, k, h, hq => by
    refine ⟨fun hk => ?_, relyQ_of (by simpa using h) fun i p d g h0 h1 h2 h3 => hq (i + 1) p d g (by rw [show k + (i + 1) = k + 1 + i by omega]; exact h0) (by simpa using h1) h2 (by simpa using h3)⟩
    cases hd : o.dst with
    | none => trivial
    | some d => exact hq 0 o d f hk rfl hd rfl
theorem relyE_len {P : Program} {R : Goes} {T : List Nat} {l : List Oper} {F : List Vow} {s : Slots} {w : World} : ∀ {m : List Oper} {q : List Vow} {k : Nat}, relyE P R T l F s w k m q → m.length = q.length
  | [], [], _, _ => rfl
  | [], _ :: _, _, h => h.elim
  | _ :: _, [], _, h => h.elim
  | _ :: m, _ :: q, _, h => by simpa using relyE_len h.2
def behind (T : List Nat) (n : Nat) : Array Bool := ((List.range n).map fun i => !T.contains i).toArray
theorem behind_at {T : List Nat} {n i : Nat} (h : i < n) (d : Bool) : (behind T n).getD i d = !T.contains i := by
  simp [behind, List.getElem?_range h]
def needs (l : List Oper) (i : Nat) : List Nat := match l[i]? with
  | some o => o.after.toList.filterMap fun e => if Region.binds .any e then some e.on else none
  | none => []
def markStep (l : List Oper) (M : Array Bool) (i : Nat) : Array Bool := if M.getD i false then (needs l i).foldl (fun M j => M.setIfInBounds j true) M else M
def marks (l : List Oper) (t : Nat) : Array Bool := ((List.range l.length).reverse).foldl (markStep l) ((Array.replicate l.length false).setIfInBounds t true)
def tailB (pre T : List Nat) (l : List Oper) : Bool := T.all fun t => (List.range l.length).all fun i => T.contains i || pre.contains i || (marks l t).getD i false
def Closed (l : List Oper) (listed : Array Bool) : Prop := ∀ i, listed.getD i false = true → ∀ j ∈ needs l i, listed.getD j false = true
theorem getD_set_or {M : Array Bool} {j k : Nat} (h : (M.setIfInBounds j true).getD k false = true) : k = j ∨ M.getD k false = true := by
  by_cases hjk : j = k
  · exact .inl hjk.symm
  · rw [getD_set_ne false hjk] at h; exact .inr h
theorem marks_ok {l : List Oper} {listed : Array Bool} {t : Nat} (hc : Closed l listed) (ht : ∀ j ∈ needs l t, listed.getD j false = true) : ∀ j, (marks l t).getD j false = true → j = t ∨ listed.getD j false = true := by
  have setL : ∀ (js : List Nat) (M : Array Bool), (∀ j ∈ js, listed.getD j false = true) → (∀ j, M.getD j false = true → j = t ∨ listed.getD j false = true) → ∀ j, (js.foldl (fun M j => M.setIfInBounds j true) M).getD j false = true → j = t ∨ listed.getD j false = true := by
    intro js
    induction js with
    | nil => intro M _ hM; exact hM
    | cons x js ih =>
      intro M hjs hM
      refine ih _ (fun j hj => hjs j (List.mem_cons_of_mem _ hj)) fun j hj => ?_
      rcases getD_set_or hj with rfl | h
      · exact .inr (hjs _ List.mem_cons_self)
      · exact hM j h
  have step : ∀ (is : List Nat) (M : Array Bool), (∀ j, M.getD j false = true → j = t ∨ listed.getD j false = true) → ∀ j, (is.foldl (markStep l) M).getD j false = true → j = t ∨ listed.getD j false = true := by
    intro is
    induction is with
    | nil => intro M hM; exact hM
    | cons x is ih =>
      intro M hM
      refine ih _ ?_
      unfold markStep
      split
      · rename_i hx
        refine setL _ _ (fun j hj => ?_) hM
        rcases hM x hx with rfl | h
        · exact ht j hj
        · exact hc x h j hj
      · exact hM
  refine step _ _ fun j hj => ?_
  rcases getD_set_or hj with rfl | h
  · exact .inl rfl
  · rw [Array.getD_eq_getD_getElem?, Array.getElem?_replicate] at h
    split at h <;> simp at h
theorem needs_of {l : List Oper} {i j : Nat} (h : j ∈ needs l i) : ∃ o e, l[i]? = some o ∧ e ∈ o.after.toList ∧ Region.binds .any e = true ∧ e.on = j := by
  unfold needs at h
  split at h
  · rename_i o ho
    obtain ⟨e, he, h2⟩ := List.mem_filterMap.1 h
    split at h2
    · rename_i hb
      injection h2 with h2
      exact ⟨o, e, ho, he, hb, h2⟩
    · cases h2
  · cases h
theorem closed_set {l : List Oper} {listed : Array Bool} {i : Nat} (hc : Closed l listed) (hr : i ∈ Region.ready .any l.toArray listed) : Closed l (listed.setIfInBounds i true) := by
  obtain ⟨_, o, ho, hall⟩ := mem_ready.1 hr
  intro k hk j hj
  rcases getD_set_or hk with rfl | h
  · obtain ⟨o', e, h1, h2, h3, rfl⟩ := needs_of hj
    have h1' : l.toArray[k]? = some o' := by simpa using h1
    rw [ho] at h1'
    injection h1' with h1'
    subst h1'
    exact getD_set_true (hall e (by simpa using h2) h3)
  · exact getD_set_true (hc k h j hj)
def toRun (T : List Nat) (listed : Array Bool) : Nat → Nat
  | 0 => 0
  | k + 1 => toRun T listed k + (if listed.getD k true || T.contains k then 0 else 1)
theorem toRun_set {T : List Nat} {listed : Array Bool} {i : Nat} (h : listed.getD i true = false) (hT : T.contains i = false) : ∀ k, toRun T (listed.setIfInBounds i true) k = toRun T listed k - (if i < k then 1 else 0) ∧ (i < k → 1 ≤ toRun T listed k)
  | 0 => by simp [toRun]
  | k + 1 => by
    obtain ⟨h1, h2⟩ := toRun_set h hT k
    simp only [toRun]
    have hlt : i < listed.size := by
      rcases Nat.lt_or_ge i listed.size with h' | h'
      · exact h'
      · simp [Array.getElem?_eq_none h'] at h
    by_cases hk : i = k
    · subst hk
      have e1 : (listed.setIfInBounds i true).getD i true = true := by simp [hlt]
      have e2 : toRun T (listed.setIfInBounds i true) i = toRun T listed i := by rw [h1]; simp
      rw [e1, h, hT, e2]
      simp
    · rw [getD_set_ne true hk, h1]
      by_cases hik : i < k
      · have := h2 hik
        simp only [if_pos hik, if_pos (show i < k + 1 by omega)]
        omega
      · simp only [if_neg hik, if_neg (show ¬ i < k + 1 by omega)]
        simp
        omega
theorem toRun_zero {T : List Nat} {listed : Array Bool} : ∀ k, toRun T listed k = 0 → ∀ j, j < k → T.contains j = false → listed.getD j true = true
  | 0, _, j, hj, _ => by omega
  | k + 1, h0, j, hj, hT => by
    simp only [toRun] at h0
    by_cases hjk : j = k
    · subst hjk
      cases hk : listed.getD j true
      · rw [hk, hT] at h0
        simp at h0
      · rfl
    · exact toRun_zero k (by omega) j (by omega) hT
theorem toRun_pos {T : List Nat} {listed : Array Bool} : ∀ k, toRun T listed k ≠ 0 → ∃ i, i < k ∧ listed.getD i true = false ∧ T.contains i = false ∧ ∀ j, j < i → T.contains j = false → listed.getD j true = true
  | 0, h => absurd rfl h
  | k + 1, h => by
    by_cases h0 : toRun T listed k = 0
    · refine ⟨k, by omega, ?_, ?_, fun j hj hT => toRun_zero k h0 j hj hT⟩
      · cases hk : listed.getD k true
        · rfl
        · simp [toRun, h0, hk] at h
      · cases hT : T.contains k
        · rfl
        · simp only [toRun, h0, hT] at h
          simp at h
    · obtain ⟨i, h1, h2, h3⟩ := toRun_pos k h0
      exact ⟨i, by omega, h2, h3⟩
def leanB (T : List Nat) : Nat → List Oper → Bool
  | _, [] => true
  | i, o :: r => (T.contains i || o.after.toList.all fun e => !Region.binds .any e || !T.contains e.on) && leanB T (i + 1) r
theorem leanB_at {T : List Nat} : ∀ {l : List Oper} {k i : Nat} {o : Oper}, leanB T k l = true → l[i]? = some o → T.contains (k + i) = false → ∀ e ∈ o.after.toList, Region.binds .any e = true → T.contains e.on = false
  | [], k, i, o, _, h, _ => by simp at h
  | x :: l, k, 0, o, hb, h, hT => by
    simp only [List.getElem?_cons_zero, Option.some.injEq] at h
    subst h
    simp only [leanB, Bool.and_eq_true, Bool.or_eq_true, List.all_eq_true, Bool.not_eq_true'] at hb
    rcases hb.1 with h1 | h1
    · rw [Nat.add_zero] at hT; rw [h1] at hT; cases hT
    · intro e he hbn
      rcases h1 e he with h2 | h2
      · rw [hbn] at h2; cases h2
      · exact h2
  | x :: l, k, i + 1, o, hb, h, hT => by
    simp only [List.getElem?_cons_succ] at h
    simp only [leanB, Bool.and_eq_true] at hb
    exact leanB_at hb.2 h (by rw [show k + 1 + i = k + (i + 1) by omega]; exact hT)
theorem rely_sound {P : Program} {R : Goes} {pre T : List Nat} {n : Nat} {l : List Oper} {F : List Vow} {s : Slots} {w : World} {Q : Exit → Act → World → Prop} (hB : relyB n 0 l = true) (hL : leanB T 0 l = true) (hT : tailB pre T l = true) (hTt : ∀ t ∈ T, t < l.length) (hF : ∀ f ∈ F, Vow.Firm f R) (hE : relyE P R T l F s w 0 l F)
    (hQ : ∀ s' w' a, Fits n ds s' a → R.rel w w' → relyQ T F s' w' 0 l F → (∀ t, isDst t l = false → s' t = s t) → wpAnyIn (fR ro) 0 P .any l.toArray Q T.length (behind T l.length) a w') :
    ∀ (f : Nat) (listed : Array Bool) (s' : Slots) (w' : World) (a : Act), Fits n ds s' a → listed.size = l.length → toRun T listed l.length = f → (∀ t ∈ T, listed.getD t true = false) → (∀ i ∈ pre, listed.getD i true = true) → Closed l listed → R.rel w w' → (∀ i o d g, T.contains i = false → listed.getD i false = true → l[i]? = some o → o.dst = some d → F[i]? = some g → g (s' d) w') → (∀ t, isDst t l = false → s' t = s t) → wpAnyIn (fR ro) 0 P .any l.toArray Q (f + T.length) listed a w' := by
  intro f
  induction f with
  | zero =>
    intro listed s' w' a hf hsz h0 htl hpr hcl hb hv ho
    have hlb : listed = behind T l.length := by
      apply Array.ext (by simp [behind, hsz])
      intro i h1 h2
      have hlt : i < l.length := by omega
      have e1 := behind_at (T := T) hlt true
      rw [Array.getD_eq_getD_getElem?, Array.getElem?_eq_getElem h2] at e1
      simp only [Option.getD_some] at e1
      rw [e1]
      cases hTi : T.contains i
      · have := toRun_zero _ h0 i hlt hTi
        rw [Array.getD_eq_getD_getElem?, Array.getElem?_eq_getElem h1] at this
        simpa using this
      · have := htl i (by simpa using hTi)
        rw [Array.getD_eq_getD_getElem?, Array.getElem?_eq_getElem h1] at this
        simpa using this
    rw [hlb, Nat.zero_add]
    refine hQ s' w' a hf hb (relyQ_of (relyE_len hE) fun i o d g h5 h1 h2 h3 => ?_) ho
    rw [Nat.zero_add] at h5
    have hlt : i < l.length := (List.getElem?_eq_some_iff.1 h1).1
    refine hv i o d g h5 ?_ h1 h2 h3
    rw [hlb, behind_at hlt, h5]
    rfl
  | succ f ih =>
    intro listed s' w' a hf hsz h0 htl hpr hcl hb hv ho
    obtain ⟨i0, h1, h2, h2T, h3⟩ := toRun_pos l.length (by rw [h0]; exact Nat.succ_ne_zero f)
    rw [show f + 1 + T.length = (f + T.length) + 1 by omega]
    constructor
    · intro hnone
      have hi : l[i0]? = some l[i0] := List.getElem?_eq_getElem h1
      have hat := relyB_at hB hi
      have : i0 ∈ Region.ready .any l.toArray listed := mem_ready.2 ⟨h2, l[i0], by simp [hi], fun e he hbn => by
        have h4 := hat.2.2 e (by simpa using he) hbn
        have h5 := h3 e.on (by omega) (leanB_at hL hi (by rw [Nat.zero_add]; exact h2T) e (by simpa using he) hbn)
        have h6 : e.on < listed.size := by omega
        rw [Array.getD_eq_getD_getElem?, Array.getElem?_eq_getElem h6] at h5 ⊢
        simpa using h5⟩
      rw [hnone] at this
      cases this
    · intro i hi
      obtain ⟨h4, o, h5, h6⟩ := mem_ready.1 hi
      have h5' : l[i]? = some o := by simpa using h5
      have hlt : i < l.length := (List.getElem?_eq_some_iff.1 h5').1
      have hiT : T.contains i = false := by
        cases hc : T.contains i
        · rfl
        · exfalso
          have hmem : i ∈ T := by simpa using hc
          simp only [tailB, List.all_eq_true, Bool.or_eq_true] at hT
          rcases hT i hmem i0 (List.mem_range.2 h1) with (h7 | h7) | h7
          · rw [h2T] at h7; cases h7
          · rw [hpr i0 (by simpa using h7)] at h2; cases h2
          · rcases marks_ok hcl (fun j hj => by
              obtain ⟨o', e, g1, g2, g3, rfl⟩ := needs_of hj
              rw [h5'] at g1
              injection g1 with g1
              subst g1
              exact h6 e (by simpa using g2) g3) i0 h7 with rfl | h8
            · rw [h2T] at hc; cases hc
            · rw [Array.getD_eq_getD_getElem?, Array.getElem?_eq_getElem (by omega)] at h2 h8
              simp only [Option.getD_some] at h2 h8
              rw [h2] at h8
              cases h8
      obtain ⟨g, hg, hop⟩ := relyE_at hE h5'
      have hop := hop (by rw [Nat.zero_add]; exact hiT)
      obtain ⟨hgd, hdn, -⟩ := relyB_at hB h5'
      have hrun := hop s' w' hb (relyDeps_of fun e he hbn p d q hp hd hq => hv e.on p d q (leanB_at hL h5' (by rw [Nat.zero_add]; exact hiT) e he hbn) (h6 e (by simpa using he) hbn) hp hd hq) ho
      have hstep : stepO P n l.toArray (some o) false s' w' (fun s2 w2 => R.rel w' w2 ∧ ∃ v, g v w2 ∧ s2 = put n s' o.dst v) := by
        unfold stepO
        simp only [hgd, Option.map_none]
        unfold stepG
        exact resE_mono hrun fun v w2 hw => ⟨hw.1, v, hw.2, rfl⟩
      refine stepO_runs h5 hf hstep fun s2 w2 a2 hf2 ⟨hb2, v, hgv, hs2⟩ => ?_
      obtain ⟨c1, c2⟩ := toRun_set h4 hiT l.length
      refine ih _ s2 w2 a2 hf2 (by simpa using hsz) (by rw [c1, if_pos hlt]; have := c2 hlt; omega) (fun t ht => ?_) (fun j hj => ?_) (closed_set hcl hi) (R.trans hb hb2) (fun j p d q hjT hj hp hd hq => ?_) (fun t ht => ?_)
      · have hne : i ≠ t := by
          rintro rfl
          have : T.contains i = true := by simpa using ht
          rw [hiT] at this
          cases this
        rw [getD_set_ne true hne]
        exact htl t ht
      · by_cases hij : i = j
        · subst hij
          rw [hpr i hj] at h4
          cases h4
        · rw [getD_set_ne true hij]
          exact hpr j hj
      · by_cases hji : j = i
        · subst hji
          rw [hp] at h5'
          injection h5' with e1
          subst e1
          rw [hq] at hg
          injection hg with e2
          subst e2
          rw [hs2, hd, put_same _ _ _ _ (hdn d hd)]
          exact hgv
        · have hold := hv j p d q hjT (by rw [getD_set_ne false (fun e => hji e.symm)] at hj; exact hj) hp hd hq
          have hne : o.dst ≠ some d := by
            rcases Nat.lt_or_gt_of_ne hji with hlt2 | hgt
            · exact relyB_ne hB hp h5' hlt2 hd
            · intro ho2
              exact relyB_ne hB h5' hp hgt ho2 hd
          have hsame : s2 d = s' d := by
            rw [hs2]
            cases hod : o.dst with
            | none => rfl
            | some d2 => exact put_other _ _ _ _ _ (fun e => hne (by rw [hod, e]))
          rw [hsame]
          exact (hF q (List.mem_of_getElem? hq)).keep hold hb2
      · rw [hs2]
        cases hod : o.dst with
        | none => exact ho t ht
        | some d2 =>
          rw [put_other _ _ _ _ _ (fun e => by
            subst e
            rw [isDst_at h5' hod] at ht
            cases ht)]
          exact ho t ht
def rowT : List Nat → Tree
  | [] => .done
  | i :: r => .one i (rowT r)
def preE (P : Program) (n : Nat) (ops : Array Oper) (K : Slots → World → Prop) : List Nat → Slots → World → Prop
  | [], s, w => K s w
  | i :: r, s, w => stepO P n ops ops[i]? true s w (preE P n ops K r)
def preB (ops : Array Oper) : List Nat → Array Bool → Bool
  | [], _ => true
  | i :: r, listed => (Region.ready .any ops listed).contains i && Region.free .any ops listed i && preB ops r (listed.setIfInBounds i true)
def preRun (n : Nat) (pre : List Nat) : Array Bool := pre.foldl (fun l i => l.setIfInBounds i true) (Array.replicate n false)
def relyAll (n : Nat) (pre T : List Nat) (l : List Oper) : Bool := Region.noSelect l.toArray && relyB n 0 l && leanB T 0 l && tailB pre T l && T.all (fun t => decide (t < l.length) && !pre.contains t) && pre.all (fun i => decide (i < l.length) && (needs l i).all fun j => pre.contains j) && preB l.toArray pre (Array.replicate l.length false) && toRun T (preRun l.length pre) l.length + T.length + pre.length == l.length && treeB l.toArray (rowT T) T.length (behind T l.length)
theorem preRun_at {n : Nat} : ∀ (pre : List Nat) (M : Array Bool) (j : Nat), (pre.foldl (fun l i => l.setIfInBounds i true) M).getD j false = true → j ∈ pre ∨ M.getD j false = true
  | [], M, j, h => .inr h
  | i :: pre, M, j, h => by
    rcases preRun_at (n := n) pre _ j h with h | h
    · exact .inl (List.mem_cons_of_mem _ h)
    · rcases getD_set_or h with rfl | h
      · exact .inl List.mem_cons_self
      · exact .inr h
theorem preRun_size : ∀ (pre : List Nat) (M : Array Bool), (pre.foldl (fun l i => l.setIfInBounds i true) M).size = M.size
  | [], M => rfl
  | i :: pre, M => by rw [List.foldl_cons, preRun_size pre]; simp
theorem preRun_in : ∀ (pre : List Nat) (M : Array Bool) (j : Nat), M.getD j true = true → (pre.foldl (fun l i => l.setIfInBounds i true) M).getD j true = true
  | [], M, j, h => h
  | i :: pre, M, j, h => by
    refine preRun_in pre _ j ?_
    by_cases hij : i = j
    · subst hij
      rcases Nat.lt_or_ge i M.size with h' | h'
      · simp [h']
      · simp [Array.getElem?_eq_none (xs := M.setIfInBounds i true) (i := i) (by simpa using h')]
    · rw [getD_set_ne true hij]; exact h
theorem preRun_mem : ∀ (pre : List Nat) (M : Array Bool) (j : Nat), j ∈ pre → (pre.foldl (fun l i => l.setIfInBounds i true) M).getD j true = true
  | [], _, _, h => by cases h
  | i :: pre, M, j, h => by
    rcases List.mem_cons.1 h with rfl | h
    · refine preRun_in pre _ j ?_
      rcases Nat.lt_or_ge j M.size with h' | h'
      · simp [h']
      · simp [Array.getElem?_eq_none (xs := M.setIfInBounds j true) (i := j) (by simpa using h')]
    · exact preRun_mem pre _ j h
def preV (l : List Oper) (F : List Vow) (s : Slots) (w : World) : List Nat → Prop
  | [] => True
  | i :: r => vowOf s w l[i]? F[i]? ∧ preV l F s w r
theorem preV_at {l : List Oper} {F : List Vow} {s : Slots} {w : World} : ∀ {pre : List Nat}, preV l F s w pre → ∀ i ∈ pre, vowOf s w l[i]? F[i]?
  | [], _, i, hi => absurd hi List.not_mem_nil
  | j :: r, h, i, hi => by
    rcases List.mem_cons.1 hi with rfl | hi
    · exact h.1
    · exact preV_at h.2 i hi
@[go_sem] theorem preE_nil (P : Program) (n : Nat) (ops : Array Oper) (K : Slots → World → Prop) (s : Slots) (w : World) : preE P n ops K [] s w = K s w := propext Iff.rfl
@[go_sem] theorem preE_cons (P : Program) (n : Nat) (ops : Array Oper) (K : Slots → World → Prop) (i : Nat) (r : List Nat) (s : Slots) (w : World) : preE P n ops K (i :: r) s w = forkO P n ops (preE P n ops K r) ops[i]? true .done s w := propext Iff.rfl
theorem pre_sound {P : Program} {n : Nat} {l : List Oper} {K : Slots → World → Prop} {Q : Exit → Act → World → Prop} (hQ : ∀ e a w, Q e a w → e = .normal) (hs : Region.noSelect l.toArray = true) :
    ∀ (pre : List Nat) (f : Nat) (listed : Array Bool) (s : Slots) (w : World) (a : Act), Fits n ds s a → preB l.toArray pre listed = true → preE P n l.toArray K pre s w → (∀ s' a', Fits n ds s' a' → K s' w → (∀ t, isDst t l = false → s' t = s t) → wpAnyIn (fR ro) 0 P .any l.toArray Q f (pre.foldl (fun l i => l.setIfInBounds i true) listed) a' w) → wpAnyIn (fR ro) 0 P .any l.toArray Q (f + pre.length) listed a w := by
  intro pre
  induction pre with
  | nil => intro f listed s w a hf _ h hk; exact hk s a hf h (fun _ _ => rfl)
  | cons i r ih =>
    intro f listed s w a hf hB h hk
    simp only [preB, Bool.and_eq_true] at hB
    unfold preE at h
    cases hi : l.toArray[i]? with
    | none => simp only [hi] at h; exact h.elim
    | some o =>
      simp only [hi] at h
      obtain ⟨v, hv, hk2⟩ := stepO_yields hf h
      rw [List.length_cons, show f + (r.length + 1) = f + r.length + 1 by omega]
      refine wpAny_first hQ hi (Region.noSelect_spec hs) _ listed a w (Region.free_spec hi hB.1.2) (by simpa using hB.1.1) hv (ih f _ _ _ _ (hf.put _ _) hB.2 hk2 fun s' a' hf' hK ho => hk s' a' hf' hK fun t ht => ?_)
      rw [ho t ht]
      cases hod : o.dst with
      | none => rfl
      | some d =>
        rw [put_other _ _ _ _ _ (fun e => by
          subst e
          rw [isDst_at (l := l) (i := i) (by simpa using hi) hod] at ht
          cases ht)]
theorem W_relyT {P : Program} {n id : Nat} {l : List Oper} {s : Slots} {w : World} {Q : Exit → Slots → World → Prop} (R : Goes) (pre T : List Nat) (F : List Vow) (hm : P.follows .mixedOrders = true) (hB : relyAll n pre T l = true) (hF : ∀ f ∈ F, Vow.Firm f R)
    (hP : preE P n l.toArray (fun s1 w1 => preV l F s1 w1 pre) pre s w.drew) (hE : relyE P R T l F s w.drew 0 l F)
    (hQ : ∀ s' w', R.rel w.drew w' → relyQ T F s' w' 0 l F → (∀ t, isDst t l = false → s' t = s t) → treeE P n l.toArray (Q .normal) (rowT T) s' w') : W P n (.region id l.toArray true) s w Q := by
  simp only [relyAll, Bool.and_eq_true, List.all_eq_true, decide_eq_true_eq, beq_iff_eq, Bool.not_eq_true'] at hB
  obtain ⟨⟨⟨⟨⟨⟨⟨⟨b0, b1⟩, b2⟩, b3⟩, b4⟩, b7⟩, b8⟩, b9⟩, b6⟩ := hB
  intro ro ds a hf
  have h1 : (Code.region id l.toArray true).wpIn (fR ro) 0 P (fun e a' w' => e = .normal ∧ ∃ s', Fits n ds s' a' ∧ Q .normal s' w') a w := by
    refine wpIn_region_any hm ?_
    have h2 := pre_sound (ro := ro) (ds := ds) (Q := fun e a' w' => e = .normal ∧ ∃ s', Fits n ds s' a' ∧ Q .normal s' w') (fun e a w h => h.1) b0 pre (toRun T (preRun l.length pre) l.length + T.length) (Array.replicate l.length false) s w.drew a hf b8 hP fun s1 a1 hf1 hk1 hk2 =>
      rely_sound (ro := ro) (ds := ds) (pre := pre) (Q := fun e a' w' => e = .normal ∧ ∃ s', Fits n ds s' a' ∧ Q .normal s' w') b1 b2 b3 (fun t ht => (b4 t ht).1) hF hE
        (fun s' w' a hf' hb hq ho => treeE_sound (Q := fun e a' w' => e = .normal ∧ ∃ s', Fits n ds s' a' ∧ Q .normal s' w') (fun e a w h => h.1) (fun s'' w'' a' hf'' hk => ⟨rfl, s'', hf'', hk⟩) b0 (rowT T) T.length _ s' w' a hf' b6 (hQ s' w' hb hq ho))
        _ (preRun l.length pre) s1 w.drew a1 hf1 (by unfold preRun; rw [preRun_size]; simp) rfl (fun t ht => by
          have hlt := (b4 t ht).1
          have hsz : (preRun l.length pre).size = l.length := by unfold preRun; rw [preRun_size]; simp
          cases hc : (preRun l.length pre).getD t true with
          | false => rfl
          | true =>
            exfalso
            have : (preRun l.length pre).getD t false = true := by
              rw [Array.getD_eq_getD_getElem?, Array.getElem?_eq_getElem (by omega)] at hc ⊢
              simpa using hc
            rcases preRun_at (n := n) pre _ t this with h | h
            · have := (b4 t ht).2
              rw [show pre.contains t = true by simpa using h] at this
              cases this
            · rw [Array.getD_eq_getD_getElem?, Array.getElem?_replicate] at h
              split at h <;> simp at h) (fun i hi => preRun_mem pre _ i hi) (fun i hi j hj => by
          have hip : i ∈ pre := by
            rcases preRun_at (n := n) pre _ i hi with h | h
            · exact h
            · rw [Array.getD_eq_getD_getElem?, Array.getElem?_replicate] at h
              split at h <;> simp at h
          have hjp : j ∈ pre := by simpa using (b7 i hip).2 j hj
          have := preRun_mem pre (Array.replicate l.length false) j hjp
          have hsz : (preRun l.length pre).size = l.length := by unfold preRun; rw [preRun_size]; simp
          have hjl := (b7 j hjp).1
          change (preRun l.length pre).getD j true = true at this
          rw [Array.getD_eq_getD_getElem?, Array.getElem?_eq_getElem (by omega)] at this ⊢
          simpa using this) (R.refl _) (fun i o d g _ hi ho hd hg => by
          have hip : i ∈ pre := by
            rcases preRun_at (n := n) pre _ i hi with h | h
            · exact h
            · rw [Array.getD_eq_getD_getElem?, Array.getElem?_replicate] at h
              split at h <;> simp at h
          have := preV_at hk1 i hip
          rw [ho, hg] at this
          simp only [vowOf, vowAt, hd] at this
          exact this) hk2
    rw [show toRun T (preRun l.length pre) l.length + T.length + pre.length = l.length from b9] at h2
    simpa using h2
  exact wpIn_mono h1 fun e a' w' ⟨he, s', hf', hq⟩ => by subst he; exact ⟨s', hf', hq⟩
theorem W_rely {P : Program} {n id : Nat} {l : List Oper} {s : Slots} {w : World} {Q : Exit → Slots → World → Prop} (F : List Vow) (hm : P.follows .mixedOrders = true) (hB : relyAll n [] [] l = true) (hF : ∀ f ∈ F, Vow.Firm f) (hE : relyE P adds [] l F s w.drew 0 l F)
    (hQ : ∀ s' w', Below w.drew.heap.size w.drew w' → relyQ [] F s' w' 0 l F → (∀ t, isDst t l = false → s' t = s t) → Q .normal s' w') : W P n (.region id l.toArray true) s w Q :=
  W_relyT adds [] [] F hm hB hF trivial hE hQ
end Go.Proofs.YtmcbcoafodmbjaaGreatDoor
