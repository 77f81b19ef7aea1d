/-
  VdrTexts, VdrBack: the walks.
-/
import Derived.Test.YtoabdejoabfbeaaDoorTLaws
namespace Go.Proofs.YtoabdejoabfbeaaDoor
open Go.RowKit
open Go.Lib (cut decDigits)
set_option linter.unusedVariables false
set_option linter.unusedSimpArgs false
set_option maxRecDepth 10000
theorem few_names {l : List Vd} (h : fewV l = true) : ∀ x ∈ l, x.name.size ≤ 300 := by
  unfold fewV at h
  rw [decide_eq_true_eq] at h
  intro x hx
  obtain ⟨i, hi, rfl⟩ := List.getElem_of_mem hx
  rw [vAt_eq hi]
  exact h.1 i (by omega)
theorem textTo_parse {l : List Vd} (h : checkV l = 0) : parseV 33 [] 1 (textV l) = (l, 0, 0) := by
  have hq := check0 h
  have e : textV l = l.flatMap lineV := by unfold textV textTo; rw [if_pos h, List.take_of_length_le (Nat.le_refl _)]
  rw [e]
  have := parse_lines l 33 [] 1 (by omega) (fun e => by subst e; simp at hq) (by simpa using h)
  simpa using this
/-- what a text's reading comes to -/
theorem parse_text (t : List UInt8) : ((parseV 33 [] 1 t).2.2 = 0 ∧ (parseV 33 [] 1 t).2.1 = 0 ∧ textV (parseV 33 [] 1 t).1 = t ∧ checkV (parseV 33 [] 1 t).1 = 0) ∨ ((parseV 33 [] 1 t).2.2 = 8 ∧ 1 ≤ (parseV 33 [] 1 t).2.1 ∧ (parseV 33 [] 1 t).1 = []) := by
  rcases parse_back 33 [] 1 t with ⟨r, r1, r2, r3, r4⟩ | ⟨m, m1, m2⟩
  · left
    rw [r2]
    rw [List.nil_append] at r4
    refine ⟨rfl, rfl, ?_, by simpa using r4⟩
    show textV ([] ++ r) = t
    rw [List.nil_append]
    unfold textV textTo
    rw [if_pos r4, List.take_of_length_le (Nat.le_refl _), r3]
  · right
    rw [m2]
    exact ⟨rfl, m1, rfl⟩
theorem parse_size (t : List UInt8) (ht : t.length ≤ 20000) : ∀ x ∈ (parseV 33 [] 1 t).1, x.name.size ≤ 20000 ∧ 1 ≤ x.weight ∧ x.weight ≤ 4611686018427387903 := by
  rcases parse_text t with ⟨_, _, h3, h4⟩ | ⟨_, _, h⟩
  · intro x hx
    have hq := check0 h4
    have hlen : x.name.size ≤ t.length := by
      rw [← h3]
      unfold textV textTo
      rw [if_pos h4, List.take_of_length_le (Nat.le_refl _)]
      have : (lineV x).length ≤ ((parseV 33 [] 1 t).1.flatMap lineV).length := by
        obtain ⟨a, b, e⟩ := List.append_of_mem hx
        rw [e]
        simp
        omega
      have h5 : x.name.size ≤ (lineV x).length := by
        have e : x.name.size = x.name.data.toList.length := by rw [Array.length_toList]; rfl
        unfold lineV
        simp only [List.length_append]
        omega
      omega
    obtain ⟨i, hi, rfl⟩ := List.getElem_of_mem hx
    have hw := hq.2.2.2 i hi
    have hnn := (wSum_nn (l := (parseV 33 [] 1 t).1) (k := i) fun q hq' => hq.2.2.2 q (by omega)).1
    rw [← vAt_eq hi] at hw
    omega
  · rw [h]; simp
set_option maxHeartbeats 12800000 in
theorem vtexts_any (l : List Vd) (t : List UInt8) (ht : t.length ≤ 9223372036854775807) (vl : Value) (w : World) (hs : Sl w 2 vl l.length (vdrs l)) (hN : NamesIn l) (hW : WeightsIn l) (m : Int) (h2 : 2 < w.heap.size) (hm : w.cell? ⟨2, 0, none⟩ = some (.int .i64 m))
    (htab : Lib.TabIs Tryd.prog w "internal/strconv.uint64pow10" .u64 Lib.pow10Tab) :
    callE Tryd.prog 3 #[vl, .string (strOf t)] w fun v w' => v = .bool true ∧ Below w.heap.size w w' := by
  obtain ⟨A, cap, rfl, hrd, hA, hc1, hc2⟩ := id hs
  have htb := Lib.tabBelow_of_tabIs htab
  refine calls_E Tryd.func3 rfl rfl rfl (Nat.le_of_ble_eq_true rfl) ?_
  simp [go_sem, IntWalk.iteOmega, IntWalk.toNatUp]
  refine callE_of (live_any w) ?_
  rintro _ w1 ⟨rfl, k1⟩
  simp [go_sem, IntWalk.iteOmega, IntWalk.toNatUp]
  refine callE_of (few_any l _ w1 (Sl_kept hs k1) hN) ?_
  rintro _ w2 ⟨rfl, k2⟩
  have kk := ext_trans k1 k2
  by_cases hf : fewV l = true
  · have hlen := few_50 hf
    have hnm := few_names hf
    rw [hf]
    by_cases hq : 10000 < t.length
    · have hq' : (10000 : Int) < t.length := by omega
      simp [go_sem, IntWalk.iteOmega, IntWalk.toNatUp, hq', strOf_size]
      refine callE_of (live_any w2) ?_
      rintro _ w4 ⟨rfl, k4⟩
      simp [go_sem, IntWalk.iteOmega, IntWalk.toNatUp]
      exact ext_trans kk k4
    · have hq' : ¬ (10000 : Int) < t.length := by omega
      simp [go_sem, IntWalk.iteOmega, IntWalk.toNatUp, hq', strOf_size]
      refine callE_of (vtext_any l _ w2 (Sl_kept hs kk) (fun x hx => by have := hnm x hx; omega) hW (Lib.tabBelow_of_tabIs (htb w2 kk))) ?_
      rintro _ w3 ⟨rfl, k3⟩
      have kk := ext_trans kk k3
      simp [go_sem, IntWalk.iteOmega, IntWalk.toNatUp]
      refine callE_of (rtext_any l _ w3 (Sl_kept hs kk) (fun x hx => by have := hnm x hx; omega) hW) ?_
      rintro _ w4 ⟨rfl, k4⟩
      have kk := ext_trans kk k4
      simp [go_sem, IntWalk.iteOmega, IntWalk.toNatUp]
      refine callE_of (vparse_any t (by omega) m w4 (by have := kk.size; omega) (by rw [kk.cell h2]; exact hm)) ?_
      rintro _ w5 ⟨vx, rfl, o5, k5⟩
      have kk := ext_trans kk k5
      simp [go_sem, IntWalk.iteOmega, IntWalk.toNatUp]
      refine callE_of (rparse_any t (by omega) w5) ?_
      rintro _ w6 ⟨vy, rfl, o6, k6⟩
      have kk := ext_trans kk k6
      have s5 := (own_sl (own_keep o5 k6)).1
      have s6 := (own_sl o6).1
      simp [go_sem, IntWalk.iteOmega, IntWalk.toNatUp]
      refine callE_of (equalV_same _ vx vy w6 s5 s6) ?_
      rintro _ w7 ⟨rfl, k7⟩
      simp [go_sem, IntWalk.iteOmega, IntWalk.toNatUp]
      exact ext_trans kk k7
  · have hf' : fewV l = false := by simpa using hf
    rw [hf']
    simp [go_sem, IntWalk.iteOmega, IntWalk.toNatUp]
    refine callE_of (live_any w2) ?_
    rintro _ w4 ⟨rfl, k4⟩
    simp [go_sem, IntWalk.iteOmega, IntWalk.toNatUp]
    exact ext_trans kk k4
theorem text_len {l : List Vd} (h : checkV l = 0) (hn : ∀ x ∈ l, x.name.size ≤ 300) : (textV l).length ≤ 20000 := by
  obtain ⟨q1, q2, q3, q4⟩ := check0 h
  have key : ∀ r : List Vd, (∀ x ∈ r, x.name.size ≤ 300 ∧ 1 ≤ x.weight ∧ x.weight ≤ 4611686018427387903) → (r.flatMap lineV).length ≤ r.length * 322 := by
    intro r
    induction r with
    | nil => intro _; simp
    | cons x r ih =>
      intro hr
      have h1 := ih fun y hy => hr y (List.mem_cons_of_mem _ hy)
      have h2 := hr x (List.mem_cons_self ..)
      have h3 := nDigits_le19 (u := x.weight.toNat) (by omega)
      have e : x.name.size = x.name.data.toList.length := by rw [Array.length_toList]; rfl
      have h4 : (lineV x).length ≤ 322 := by
        unfold lineV
        simp only [List.length_append, List.length_cons, List.length_nil]
        rw [Go.Lib.decDigits_length]
        omega
      rw [List.flatMap_cons, List.length_append, List.length_cons]
      omega
  have e : textV l = l.flatMap lineV := by unfold textV textTo; rw [if_pos h, List.take_of_length_le (Nat.le_refl _)]
  rw [e]
  have := key l fun x hx => by
    have h1 := hn x hx
    obtain ⟨i, hi, rfl⟩ := List.getElem_of_mem hx
    have hw := q4 i hi
    have hnn := (wSum_nn (l := l) (k := i) fun q hq' => q4 q (by omega)).1
    rw [← vAt_eq hi] at hw
    omega
  omega
set_option maxHeartbeats 12800000 in
theorem vback_any (l : List Vd) (t : List UInt8) (ht : t.length ≤ 9223372036854775807) (vl : Value) (w : World) (hs : Sl w 2 vl l.length (vdrs l)) (hN : NamesIn l) (hW : WeightsIn l) (m : Int) (h2 : 2 < w.heap.size) (hm : w.cell? ⟨2, 0, none⟩ = some (.int .i64 m))
    (htab : Lib.TabIs Tryd.prog w "internal/strconv.uint64pow10" .u64 Lib.pow10Tab) :
    callE Tryd.prog 4 #[vl, .string (strOf t)] w fun v w' => v = .bool true ∧ Below w.heap.size w w' := by
  obtain ⟨A, cap, rfl, hrd, hA, hc1, hc2⟩ := id hs
  have htb := Lib.tabBelow_of_tabIs htab
  refine calls_E Tryd.func4 rfl rfl rfl (Nat.le_of_ble_eq_true rfl) ?_
  simp [go_sem, IntWalk.iteOmega, IntWalk.toNatUp]
  refine callE_of (live_any w) ?_
  rintro _ w1 ⟨rfl, k1⟩
  simp [go_sem, IntWalk.iteOmega, IntWalk.toNatUp]
  refine callE_of (few_any l _ w1 (Sl_kept hs k1) hN) ?_
  rintro _ w2 ⟨rfl, k2⟩
  have kk := ext_trans k1 k2
  by_cases hf : fewV l = true
  · have hlen := few_50 hf
    have hnm := few_names hf
    rw [hf]
    by_cases hq : 10000 < t.length
    · have hq' : (10000 : Int) < t.length := by omega
      simp [go_sem, IntWalk.iteOmega, IntWalk.toNatUp, hq', strOf_size]
      refine callE_of (live_any w2) ?_
      rintro _ w4 ⟨rfl, k4⟩
      simp [go_sem, IntWalk.iteOmega, IntWalk.toNatUp]
      exact ext_trans kk k4
    · have hq' : ¬ (10000 : Int) < t.length := by omega
      simp [go_sem, IntWalk.iteOmega, IntWalk.toNatUp, hq', strOf_size]
      refine callE_of (vtext_any l _ w2 (Sl_kept hs kk) (fun x hx => by have := hnm x hx; omega) hW (Lib.tabBelow_of_tabIs (htb w2 kk))) ?_
      rintro _ w3 ⟨rfl, k3⟩
      have kk := ext_trans kk k3
      by_cases hck : checkV l = 0
      case' pos =>
        have hq1 : (checkV l == 0) = true := by simpa using hck
        simp [go_sem, IntWalk.iteOmega, IntWalk.toNatUp, hq1]
        refine callE_of (vparse_any (textV l) (text_len hck hnm) m w3 (by have := kk.size; omega) (by rw [kk.cell h2]; exact hm)) ?_
        rintro _ w5 ⟨vx, rfl, o5, k5⟩
        have kk := ext_trans kk k5
        rw [textTo_parse hck] at o5
        rw [textTo_parse hck]
        have s5 := (own_sl o5).1
        simp [go_sem, IntWalk.iteOmega, IntWalk.toNatUp]
        refine callE_of (equalV_same l vx _ w5 s5 (Sl_kept hs kk)) ?_
        rintro _ w6 ⟨rfl, k6⟩
        have kk := ext_trans kk k6
        simp [go_sem, IntWalk.iteOmega, IntWalk.toNatUp]
      case' neg =>
        have hq1 : (checkV l == 0) = false := by simpa using hck
        simp [go_sem, IntWalk.iteOmega, IntWalk.toNatUp, hq1]
      all_goals
        refine callE_of (vparse_any t (by omega) m _ (by have := kk.size; omega) (by rw [kk.cell h2]; exact hm)) ?_
        rintro _ w7 ⟨vx, rfl, o7, k7⟩
        have kk := ext_trans kk k7
        have hsz := parse_size t (by omega)
        rcases parse_text t with ⟨p1, p2, p3, p4⟩ | ⟨p1, p2, p3⟩
        · rw [p1, p2]
          have s7 := (own_sl o7).1
          simp [go_sem, IntWalk.iteOmega, IntWalk.toNatUp]
          refine callE_of (vtext_any _ _ _ s7 (fun x hx => by have := hsz x hx; omega) (fun x hx => by have := hsz x hx; omega) (Lib.tabBelow_of_tabIs (htb _ kk))) ?_
          rintro _ w8 ⟨rfl, k8⟩
          rw [p3, p4]
          simp [go_sem, IntWalk.iteOmega, IntWalk.toNatUp]
          exact ext_trans kk k8
        · rw [p3] at o7
          obtain ⟨-, A7, c7, rfl⟩ := own_sl o7
          have q2 : (1 : Int) ≤ (parseV 33 [] 1 t).2.1 := p2
          generalize (parseV 33 [] 1 t).2.1 = n7 at *
          rw [p1]
          simp [go_sem, IntWalk.iteOmega, IntWalk.toNatUp, q2]
          exact kk
  · have hf' : fewV l = false := by simpa using hf
    rw [hf']
    simp [go_sem, IntWalk.iteOmega, IntWalk.toNatUp]
    refine callE_of (live_any w2) ?_
    rintro _ w4 ⟨rfl, k4⟩
    simp [go_sem, IntWalk.iteOmega, IntWalk.toNatUp]
    exact ext_trans kk k4
theorem vtexts_any' (l : List Vd) (t : ByteArray) (ht : t.size ≤ 9223372036854775807) (vl : Value) (w : World) (hs : Sl w 2 vl l.length (vdrs l)) (hN : NamesIn l) (hW : WeightsIn l) (hm : ∃ m, w.cell? ⟨2, 0, none⟩ = some (.int .i64 m))
    {zs : List Int} (htab : Lib.TabIs Tryd.prog w "internal/strconv.uint64pow10" .u64 zs) (hz : zs = Lib.pow10Tab) :
    callE Tryd.prog 3 #[vl, .string t] w fun v w' => v = .bool true ∧ Below w.heap.size w w' := by
  obtain ⟨m, hm⟩ := hm
  subst hz
  have h2 : 2 < w.heap.size := block_lt hm
  have := vtexts_any l t.data.toList (by rw [Array.length_toList]; exact ht) vl w hs hN hW m h2 hm htab
  rw [strOf_self] at this
  exact this
theorem vback_any' (l : List Vd) (t : ByteArray) (ht : t.size ≤ 9223372036854775807) (vl : Value) (w : World) (hs : Sl w 2 vl l.length (vdrs l)) (hN : NamesIn l) (hW : WeightsIn l) (hm : ∃ m, w.cell? ⟨2, 0, none⟩ = some (.int .i64 m))
    {zs : List Int} (htab : Lib.TabIs Tryd.prog w "internal/strconv.uint64pow10" .u64 zs) (hz : zs = Lib.pow10Tab) :
    callE Tryd.prog 4 #[vl, .string t] w fun v w' => v = .bool true ∧ Below w.heap.size w w' := by
  obtain ⟨m, hm⟩ := hm
  subst hz
  have h2 : 2 < w.heap.size := block_lt hm
  have := vback_any l t.data.toList (by rw [Array.length_toList]; exact ht) vl w hs hN hW m h2 hm htab
  rw [strOf_self] at this
  exact this
end Go.Proofs.YtoabdejoabfbeaaDoor
