/-
  A word's number: the program's, the document's.
-/
import Derived.Test.YtmdkkhogldklnaaDoorRRRRSWords
namespace Go.Proofs.YtmdkkhogldklnaaDoorRRRR
open Go.RowKit
set_option linter.unusedVariables false
set_option linter.unusedSimpArgs false
set_option maxRecDepth 10000
theorem digs_take {l : List UInt8} (h : digs l = true) (i : Nat) : digs (l.take i) = true := by
  unfold digs at *
  rw [List.all_eq_true] at *
  exact fun x hx => h x (List.mem_of_mem_take hx)
theorem dval_take (l : List UInt8) (i : Nat) : dval (l.take i) ≤ dval l := by
  have := dval_mono (l.take i) (l.drop i)
  rwa [List.take_append_drop] at this
/-- what a word's number comes to, as a pair -/
def numR (l : List UInt8) : Value := match numV l with | some n => .tuple #[.int .u64 n, .int .i64 0] | none => .tuple #[.int .u64 0, .int .i64 8]
theorem numR_none {l : List UInt8} (h : numV l = none) : numR l = .tuple #[.int .u64 0, .int .i64 8] := by unfold numR; rw [h]
theorem numV_bad {l : List UInt8} (h : ¬ (digs l = true ∧ dval l ≤ 18446744073709551615)) : numV l = none := by
  unfold numV
  rw [if_neg h]
  split <;> rfl
theorem head_str {l : List UInt8} (h : 0 < l.length) : l.head? = some l[0] := by cases l with | nil => simp at h | cons a l => rfl
theorem ifwrap {n : Int} (h : 0 ≤ n ∧ n ≤ 18446744073709551615) : IntKind.u64.wrap n = n := by rw [wrap_u64_if, if_pos h]
set_option maxHeartbeats 6400000 in
theorem number_any (l : List UInt8) (hl : l.length ≤ 50000) (w : World) : callE Tryd.prog 7 #[.string (strOf l)] w fun v w' => v = numR l ∧ Below w.heap.size w w' := by
  have hr := fun w => run_range_str (P := Tryd.prog) (w := w) undS (strOf l)
  refine calls_E Tryd.func7 rfl rfl rfl (Nat.le_of_ble_eq_true rfl) ?_
  by_cases he : l = []
  · subst he
    have e1 : (strOf []).toList.isEmpty = true := by rw [str_nil]; rfl
    simp [go_sem, IntWalk.iteOmega, IntWalk.toNatUp, e1]
    exact ⟨rfl, Below.refl _ _⟩
  · have hpos : 0 < l.length := List.length_pos_iff.2 he
    have e1 : (strOf l).toList.isEmpty = false := by
      rw [List.isEmpty_eq_false_iff]
      exact fun h => he ((str_ext (b := [])).1 (h.trans str_nil.symm))
    have x0 : ∀ w, (Instr.index 9 (.string (strOf l)) (.int .i64 0)).run Tryd.prog w = .ok (.int .u8 ((l[0]).toNat : Int)) w := fun w => run_index_str (P := Tryd.prog) (w := w) Tryd.underlying9 l 0 hpos
    have hhd := head_str hpos
    by_cases hln : 1 < l.length
    case' pos =>
      have q1 : (1 : Int) < l.length := by omega
      by_cases h48 : l[0] = 48
      case' pos =>
        have q2 : ((l[0]).toNat : Int) = 48 := by rw [h48]; rfl
        have hn : numV l = none := by unfold numV; rw [if_pos (.inr ⟨hln, by rw [hhd, h48]⟩)]
        simp [go_sem, IntWalk.iteOmega, IntWalk.toNatUp, e1, strOf_size, q1, x0, q2]
        exact ⟨(numR_none hn).symm, Below.refl _ _⟩
      have hfirst : ¬ (l = [] ∨ (1 < l.length ∧ l.head? = some 48)) := by
        rintro (h | ⟨_, h⟩)
        · exact he h
        · rw [hhd] at h; exact h48 (Option.some.inj h)
      have q2 : (((l[0]).toNat : Int) == 48) = false := beq_eq_false_iff_ne.2 fun h => h48 (UInt8.toNat_inj.1 (Int.ofNat.inj h))
      simp [go_sem, IntWalk.iteOmega, IntWalk.toNatUp, e1, strOf_size, q1, x0, q2, hr]
    case' neg =>
      have q1 : ¬ (1 : Int) < l.length := by omega
      have hfirst : ¬ (l = [] ∨ (1 < l.length ∧ l.head? = some 48)) := by
        rintro (h | ⟨h, _⟩)
        · exact he h
        · exact hln h
      simp [go_sem, IntWalk.iteOmega, IntWalk.toNatUp, e1, strOf_size, q1, x0, hr]
    all_goals
      refine W_loop (fun st wr => ∃ i : Nat, i ≤ l.length ∧ st 21 = .pointer (some ⟨w.heap.size, 0, none⟩) ∧ st 4 = .int .u64 (dval (l.take i)) ∧ digs (l.take i) = true ∧ dval (l.take i) ≤ 18446744073709551615 ∧ It wr w.heap.size (strOf l) i ∧ Below w.heap.size w wr) (fun _ wr => itLeft w.heap.size l.length wr) ?_ ?_
      · exact ⟨0, by omega, by simp [go_sem], by simp [go_sem, dval], rfl, by simp [dval], It_made w _, ext_alloc _ _⟩
      · rintro st wr ⟨i, hi, e21, e4, hd, hv, hit, hbw⟩
        have hleft := itLeft_eq (n := l.length) hit
        by_cases hlt : i < l.length
        · have hlt' : i < (strOf l).size := by rw [strOf_size]; exact hlt
          have hg := get_eq l i hlt
          have hx := run_next_str (P := Tryd.prog) hit
          have htk : l.take (i + 1) = l.take i ++ [l[i]] := take_digs hlt
          have hds := digs_snoc (l.take i) l[i]
          have hdv := dval_snoc (l.take i) l[i]
          rw [← htk] at hds hdv
          have hdl := digs_take (l := l)
          have hvl := dval_take l (i + 1)
          have hbad : ¬ (48 ≤ (l[i]).toNat ∧ (l[i]).toNat ≤ 57) → numV l = none := fun h => by
            refine numV_bad fun h2 => ?_
            have := hdl h2.1 (i + 1)
            rw [hds, hd] at this
            simp at this
            omega
          by_cases hlo : (l[i]).toNat < 128
          · have hdec := rune_low (s := strOf l) (i := i) (by rw [hg]; exact hlo)
            rw [hg] at hdec
            rw [hdec] at hx
            simp only at hx
            generalize hV : dval (l.take i) = V at *
            generalize hcc : (l[i]).toNat = c at *
            by_cases q3 : c < 48
            · have q3' : (c : Int) < 48 := by omega
              have hn := numR_none (hbad (by omega))
              simp [go_sem, IntWalk.iteOmega, IntWalk.toNatUp, e21, e4, hx, hlt', q3', hn]
              exact Below.itPut hbw (Nat.le_refl _) _
            · by_cases q4 : 57 < c
              · have q3' : ¬ (c : Int) < 48 := by omega
                have q4' : (57 : Int) < c := by omega
                have hn := numR_none (hbad (by omega))
                simp [go_sem, IntWalk.iteOmega, IntWalk.toNatUp, e21, e4, hx, hlt', q3', q4', hn]
                exact Below.itPut hbw (Nat.le_refl _) _
              · obtain ⟨d, rfl⟩ : ∃ d : Nat, c = 48 + d := ⟨c - 48, by omega⟩
                have q3' : ¬ 48 + (d : Int) < 48 := by omega
                have q4' : ¬ (57 : Int) < 48 + (d : Int) := by omega
                have hQ : ∃ Q : Nat, (18446744073709551615 - (d : Int)).tdiv 10 = Q := ⟨(18446744073709551615 - d) / 10, by rw [Int.tdiv_eq_ediv_of_nonneg (by omega)]; omega⟩
                obtain ⟨Q, hQ⟩ := hQ
                have hQ2 : 10 * Q ≤ 18446744073709551615 - d ∧ 18446744073709551615 - d < 10 * Q + 10 := by
                  rw [Int.tdiv_eq_ediv_of_nonneg (by omega)] at hQ; omega
                have f0 : IntKind.i32.wrap (48 + (d : Int) - 48) = d := (IntWalk.i32_in _ (by omega)).trans (by omega)
                have f1 : IntKind.u64.wrap (d : Int) = d := ifwrap (by omega)
                have f3 : IntKind.u64.wrap (18446744073709551615 - (d : Int)) = 18446744073709551615 - d := ifwrap (by omega)
                have f4 : IntKind.u64.wrap (Q : Int) = Q := ifwrap (by omega)
                have hdv2 : dval (l.take (i + 1)) = 10 * V + d := by rw [hdv]; omega
                by_cases q5 : Q < V
                · have q5' : (Q : Int) < V := by omega
                  have hn := numR_none (numV_bad (l := l) (fun h => by omega))
                  simp [go_sem, IntWalk.iteOmega, IntWalk.toNatUp, e21, e4, hx, hlt', q3', q4', f0, f1, f3, hQ, f4, q5', hn]
                  exact Below.itPut hbw (Nat.le_refl _) _
                · have q5' : ¬ (Q : Int) < V := by omega
                  have f5 : IntKind.u64.wrap (10 * (V : Int)) = 10 * V := ifwrap (by omega)
                  have f6 : IntKind.u64.wrap (10 * (V : Int) + d) = 10 * V + d := ifwrap (by omega)
                  simp [go_sem, IntWalk.iteOmega, IntWalk.toNatUp, e21, e4, hx, hlt', q3', q4', f0, f1, f3, hQ, f4, q5', f5, f6]
                  have hit2 := hit.put (i + 1)
                  refine roundEnd.mk ⟨i + 1, by omega, by simp [go_sem, e21], ?_, ?_, by omega, hit2, Below.itPut hbw (Nat.le_refl _) _⟩ ?_
                  · rw [hdv2]; simp [go_sem]
                  · rw [hds, hd]; simp; omega
                  · rw [itLeft_eq hit2, hleft]; omega
          · have hhi := rune_high (s := strOf l) (i := i) (by rw [hg]; exact hlo)
            have hn := numR_none (hbad (by omega))
            generalize Utf8.decode (strOf l) i = D at *
            obtain ⟨rn, wd⟩ := D
            simp only at hx hhi
            have q3' : ¬ (rn : Int) < 48 := by omega
            have q4' : (57 : Int) < rn := by omega
            simp [go_sem, IntWalk.iteOmega, IntWalk.toNatUp, e21, e4, hx, hlt', q3', q4', hn]
            exact Below.itPut hbw (Nat.le_refl _) _
        · obtain rfl : i = l.length := by omega
          have hx := run_next_end (P := Tryd.prog) hit
          have hlt' : ¬ l.length < (strOf l).size := by rw [strOf_size]; omega
          rw [List.take_of_length_le (Nat.le_refl _)] at e4 hd hv
          have hn : numR l = .tuple #[.int .u64 (dval l), .int .i64 0] := by
            unfold numR numV; rw [if_neg hfirst, if_pos ⟨hd, hv⟩]
          simp [go_sem, IntWalk.iteOmega, IntWalk.toNatUp, e21, e4, hx, hlt', hn]
          exact hbw
end Go.Proofs.YtmdkkhogldklnaaDoorRRRR
