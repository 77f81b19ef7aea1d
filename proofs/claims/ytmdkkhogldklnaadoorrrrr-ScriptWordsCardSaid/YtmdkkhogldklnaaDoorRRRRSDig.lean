/-
  A digit's number.
-/
import Derived.Test.YtmdkkhogldklnaaDoorRRRRSNum
namespace Go.Proofs.YtmdkkhogldklnaaDoorRRRR
open Go.RowKit
set_option linter.unusedVariables false
set_option linter.unusedSimpArgs false
set_option maxRecDepth 10000
theorem noinit_digit : Tryd.prog.inits.idxOf? 18 = none := by kernel_rfl
theorem noinit_nibble : Tryd.prog.inits.idxOf? 17 = none := by kernel_rfl
theorem digit_runs (c : Nat) (hc : c < 256) (w : World) : Runs Tryd.prog 18 #[.int .u8 c] w (.int .u8 (undig c)) w := by
  refine runs_of_callE ?_
  refine calls_E Tryd.func18 rfl rfl rfl (Nat.le_of_ble_eq_true rfl) ?_
  by_cases h1 : 48 ≤ c
  · have h1' : (48 : Int) ≤ c := by omega
    by_cases h2 : c ≤ 57
    · have h2' : (c : Int) ≤ 57 := by omega
      obtain ⟨d, rfl⟩ : ∃ d : Nat, c = 48 + d := ⟨c - 48, by omega⟩
      have e : undig (48 + d) = d := by unfold undig; rw [if_pos (by omega)]; omega
      have f0 : IntKind.u8.wrap (48 + (d : Int) - 48) = d := (IntWalk.u8_in _ (by omega)).trans (by omega)
      have h1'' : (48 : Int) ≤ 48 + d := by omega
      have h2'' : (48 : Int) + d ≤ 57 := by omega
      simp [go_sem, IntWalk.iteOmega, IntWalk.toNatUp, h1'', h2'', e, f0]
    · have h2' : ¬ (c : Int) ≤ 57 := by omega
      by_cases h3 : 97 ≤ c
      · have h3' : (97 : Int) ≤ c := by omega
        by_cases h4 : c ≤ 102
        · obtain ⟨d, rfl⟩ : ∃ d : Nat, c = 97 + d := ⟨c - 97, by omega⟩
          have e : undig (97 + d) = d + 10 := by unfold undig; rw [if_neg (by omega), if_pos (by omega)]; omega
          have f0 : IntKind.u8.wrap (97 + (d : Int) - 97) = d := (IntWalk.u8_in _ (by omega)).trans (by omega)
          have f1 : IntKind.u8.wrap ((d : Int) + 10) = d + 10 := IntWalk.u8_in _ (by omega)
          have a1 : (48 : Int) ≤ 97 + d := by omega
          have a2 : ¬ (97 : Int) + d ≤ 57 := by omega
          have a3 : (97 : Int) ≤ 97 + d := by omega
          have a4 : (97 : Int) + d ≤ 102 := by omega
          simp [go_sem, IntWalk.iteOmega, IntWalk.toNatUp, a1, a2, a3, a4, e, f0, f1]
        · have h4' : ¬ (c : Int) ≤ 102 := by omega
          have e : undig c = 16 := by unfold undig; rw [if_neg (by omega), if_neg (by omega)]
          simp [go_sem, IntWalk.iteOmega, IntWalk.toNatUp, h1', h2', h3', h4', e]
      · have h3' : ¬ (97 : Int) ≤ c := by omega
        have e : undig c = 16 := by unfold undig; rw [if_neg (by omega), if_neg (by omega)]
        simp [go_sem, IntWalk.iteOmega, IntWalk.toNatUp, h1', h2', h3', e]
  · have h1' : ¬ (48 : Int) ≤ c := by omega
    have h3' : ¬ (97 : Int) ≤ c := by omega
    have e : undig c = 16 := by unfold undig; rw [if_neg (by omega), if_neg (by omega)]
    simp [go_sem, IntWalk.iteOmega, IntWalk.toNatUp, h1', h3', e]
/-- the program's digit: -1 where there is none -/
def nibV (c : Nat) : Int := if undig c < 16 then undig c else -1
theorem nibble_runs (c : Nat) (hc : c ≤ 1114111) (w : World) : Runs Tryd.prog 17 #[.int .i32 c] w (.int .i64 (nibV c)) w := by
  refine runs_of_callE ?_
  refine calls_E Tryd.func17 rfl rfl rfl (Nat.le_of_ble_eq_true rfl) ?_
  by_cases h1 : 48 ≤ c
  · have h1' : (48 : Int) ≤ c := by omega
    by_cases h2 : c ≤ 57
    · have h2' : (c : Int) ≤ 57 := by omega
      obtain ⟨d, rfl⟩ : ∃ d : Nat, c = 48 + d := ⟨c - 48, by omega⟩
      have e : nibV (48 + d) = d := by unfold nibV undig; rw [if_pos (show 48 ≤ 48 + d ∧ 48 + d ≤ 57 by omega)]; rw [if_pos (by omega)]; omega
      have f0 : IntKind.i32.wrap (48 + (d : Int) - 48) = d := (IntWalk.i32_in _ (by omega)).trans (by omega)
      have h1'' : (48 : Int) ≤ 48 + d := by omega
      have h2'' : (48 : Int) + d ≤ 57 := by omega
      simp [go_sem, IntWalk.iteOmega, IntWalk.toNatUp, h1'', h2'', e, f0]
    · have h2' : ¬ (c : Int) ≤ 57 := by omega
      by_cases h3 : 97 ≤ c
      · have h3' : (97 : Int) ≤ c := by omega
        by_cases h4 : c ≤ 102
        · obtain ⟨d, rfl⟩ : ∃ d : Nat, c = 97 + d := ⟨c - 97, by omega⟩
          have e : nibV (97 + d) = d + 10 := by unfold nibV undig; rw [if_neg (show ¬ (48 ≤ 97 + d ∧ 97 + d ≤ 57) by omega), if_pos (show 97 ≤ 97 + d ∧ 97 + d ≤ 102 by omega)]; rw [if_pos (by omega)]; omega
          have f0 : IntKind.i32.wrap (97 + (d : Int) - 97) = d := (IntWalk.i32_in _ (by omega)).trans (by omega)
          have a1 : (48 : Int) ≤ 97 + d := by omega
          have a2 : ¬ (97 : Int) + d ≤ 57 := by omega
          have a3 : (97 : Int) ≤ 97 + d := by omega
          have a4 : (97 : Int) + d ≤ 102 := by omega
          simp [go_sem, IntWalk.iteOmega, IntWalk.toNatUp, a1, a2, a3, a4, e, f0]
        · have h4' : ¬ (c : Int) ≤ 102 := by omega
          have e : nibV c = -1 := by unfold nibV undig; rw [if_neg (show ¬ (48 ≤ c ∧ c ≤ 57) by omega), if_neg (show ¬ (97 ≤ c ∧ c ≤ 102) by omega)]; rfl
          simp [go_sem, IntWalk.iteOmega, IntWalk.toNatUp, h1', h2', h3', h4', e]
      · have h3' : ¬ (97 : Int) ≤ c := by omega
        have e : nibV c = -1 := by unfold nibV undig; rw [if_neg (show ¬ (48 ≤ c ∧ c ≤ 57) by omega), if_neg (show ¬ (97 ≤ c ∧ c ≤ 102) by omega)]; rfl
        simp [go_sem, IntWalk.iteOmega, IntWalk.toNatUp, h1', h2', h3', e]
  · have h1' : ¬ (48 : Int) ≤ c := by omega
    have h3' : ¬ (97 : Int) ≤ c := by omega
    have e : nibV c = -1 := by unfold nibV undig; rw [if_neg (show ¬ (48 ≤ c ∧ c ≤ 57) by omega), if_neg (show ¬ (97 ≤ c ∧ c ≤ 102) by omega)]; rfl
    simp [go_sem, IntWalk.iteOmega, IntWalk.toNatUp, h1', h3', e]
set_option maxHeartbeats 6400000 in
theorem rnumber_any (l : List UInt8) (hl : l.length ≤ 50000) (w : World) : callE Tryd.prog 8 #[.string (strOf l)] w fun v w' => v = numR l ∧ Below w.heap.size w w' := by
  refine calls_E Tryd.func8 rfl rfl rfl (Nat.le_of_ble_eq_true rfl) ?_
  by_cases he : l = []
  · subst he
    have e1 : (strOf []).toList.isEmpty = true := by rw [str_nil]; rfl
    simp [go_sem, IntWalk.iteOmega, IntWalk.toNatUp, e1]
    exact ⟨rfl, Below.refl _ _⟩
  · have hpos : 0 < l.length := List.length_pos_iff.2 he
    have e1 : (strOf l).toList.isEmpty = false := by
      rw [List.isEmpty_eq_false_iff]
      exact fun h => he ((str_ext (b := [])).1 (h.trans str_nil.symm))
    have x0 : ∀ w, (Instr.index 9 (.string (strOf l)) (.int .i64 0)).run Tryd.prog w = .ok (.int .u8 ((l[0]).toNat : Int)) w := fun w => run_index_str (P := Tryd.prog) (w := w) Tryd.underlying9 l 0 hpos
    have hhd := head_str hpos
    by_cases hln : 1 < l.length
    case' pos =>
      have q1 : (1 : Int) < l.length := by omega
      by_cases h48 : l[0] = 48
      case' pos =>
        have q2 : ((l[0]).toNat : Int) = 48 := by rw [h48]; rfl
        have hn : numV l = none := by unfold numV; rw [if_pos (.inr ⟨hln, by rw [hhd, h48]⟩)]
        simp [go_sem, IntWalk.iteOmega, IntWalk.toNatUp, e1, strOf_size, q1, x0, q2]
        exact ⟨(numR_none hn).symm, Below.refl _ _⟩
      have hfirst : ¬ (l = [] ∨ (1 < l.length ∧ l.head? = some 48)) := by
        rintro (h | ⟨_, h⟩)
        · exact he h
        · rw [hhd] at h; exact h48 (Option.some.inj h)
      have q2 : (((l[0]).toNat : Int) == 48) = false := beq_eq_false_iff_ne.2 fun h => h48 (UInt8.toNat_inj.1 (Int.ofNat.inj h))
      simp [go_sem, IntWalk.iteOmega, IntWalk.toNatUp, e1, strOf_size, q1, x0, q2]
    case' neg =>
      have q1 : ¬ (1 : Int) < l.length := by omega
      have hfirst : ¬ (l = [] ∨ (1 < l.length ∧ l.head? = some 48)) := by
        rintro (h | ⟨h, _⟩)
        · exact he h
        · exact hln h
      simp [go_sem, IntWalk.iteOmega, IntWalk.toNatUp, e1, strOf_size, q1, x0]
    all_goals
      refine W_loop (fun st wr => ∃ i : Nat, i ≤ l.length ∧ st 0 = .string (strOf l) ∧ st 5 = .int .i64 i ∧ st 4 = .int .u64 (dval (l.take i)) ∧ digs (l.take i) = true ∧ dval (l.take i) ≤ 18446744073709551615 ∧ Below w.heap.size w wr) (fun st wr => l.length - (intOf (st 5)).toNat) ?_ ?_
      · exact ⟨0, by omega, by simp [go_sem], by simp [go_sem], by simp [go_sem, dval], rfl, by simp [dval], Below.refl _ _⟩
      · rintro st wr ⟨i, hi, e0, e5, e4, hd, hv, hbw⟩
        by_cases hlt : i < l.length
        · have hlt' : (i : Int) < l.length := by omega
          have x1 := fun w => run_index_str (P := Tryd.prog) (w := w) Tryd.underlying9 l i hlt
          have htk : l.take (i + 1) = l.take i ++ [l[i]] := take_digs hlt
          have hds := digs_snoc (l.take i) l[i]
          have hdv := dval_snoc (l.take i) l[i]
          rw [← htk] at hds hdv
          have hdl := digs_take (l := l)
          have hvl := dval_take l (i + 1)
          have hbad : ¬ (48 ≤ (l[i]).toNat ∧ (l[i]).toNat ≤ 57) → numV l = none := fun h => by
            refine numV_bad fun h2 => ?_
            have := hdl h2.1 (i + 1)
            rw [hds, hd] at this
            simp at this
            omega
          have hc256 := (l[i]).toNat_lt
          have r1 := fun w k => callE_eq noinit_digit (digit_runs (l[i]).toNat hc256 w) k
          generalize hV : dval (l.take i) = V at *
          generalize hcc : (l[i]).toNat = c at *
          by_cases q3 : 48 ≤ c ∧ c ≤ 57
          · obtain ⟨d, rfl⟩ : ∃ d : Nat, c = 48 + d := ⟨c - 48, by omega⟩
            have hu : undig (48 + d) = d := by unfold undig; rw [if_pos (by omega)]; omega
            rw [hu] at r1
            have hQ : ∃ Q : Nat, (18446744073709551615 - (d : Int)).tdiv 10 = Q := ⟨(18446744073709551615 - d) / 10, by rw [Int.tdiv_eq_ediv_of_nonneg (by omega)]; omega⟩
            obtain ⟨Q, hQ⟩ := hQ
            have hQ2 : 10 * Q ≤ 18446744073709551615 - d ∧ 18446744073709551615 - d < 10 * Q + 10 := by
              rw [Int.tdiv_eq_ediv_of_nonneg (by omega)] at hQ; omega
            have f1 : IntKind.u64.wrap (d : Int) = d := ifwrap (by omega)
            have f3 : IntKind.u64.wrap (18446744073709551615 - (d : Int)) = 18446744073709551615 - d := ifwrap (by omega)
            have f4 : IntKind.u64.wrap (Q : Int) = Q := ifwrap (by omega)
            have q4' : ¬ (9 : Int) < d := by omega
            have hdv2 : dval (l.take (i + 1)) = 10 * V + d := by rw [hdv]; omega
            push_cast at r1 x1
            by_cases q5 : Q < V
            · have q5' : (Q : Int) < V := by omega
              have hn := numR_none (numV_bad (l := l) (fun h => by omega))
              simp [go_sem, IntWalk.iteOmega, IntWalk.toNatUp, e0, e5, e4, strOf_size, hlt, hlt', x1, r1, q4', f1, f3, hQ, f4, q5', hn]
              exact hbw
            · have q5' : ¬ (Q : Int) < V := by omega
              have f5 : IntKind.u64.wrap (10 * (V : Int)) = 10 * V := ifwrap (by omega)
              have f6 : IntKind.u64.wrap (10 * (V : Int) + d) = 10 * V + d := ifwrap (by omega)
              simp [go_sem, IntWalk.iteOmega, IntWalk.toNatUp, e0, e5, e4, strOf_size, hlt, hlt', x1, r1, q4', f1, f3, hQ, f4, q5', f5, f6]
              refine roundEnd.mk ⟨i + 1, by omega, by simp [go_sem, e0], by simp [go_sem], ?_, ?_, by omega, hbw⟩ ?_
              · rw [hdv2]; simp [go_sem]
              · rw [hds, hd]; simp; omega
              · simp [go_sem, intOf]; omega
          · have hu : 9 < undig c := by unfold undig; rw [if_neg q3]; split <;> omega
            have hu2 := undig_le c
            have hn := numR_none (hbad q3)
            generalize undig c = u at *
            have f1 : IntKind.u64.wrap (u : Int) = u := ifwrap (by omega)
            have q4' : (9 : Int) < u := by omega
            simp [go_sem, IntWalk.iteOmega, IntWalk.toNatUp, e0, e5, e4, strOf_size, hlt, hlt', x1, r1, q4', f1, hn]
            exact hbw
        · obtain rfl : i = l.length := by omega
          rw [List.take_of_length_le (Nat.le_refl _)] at e4 hd hv
          have hn : numR l = .tuple #[.int .u64 (dval l), .int .i64 0] := by
            unfold numR numV; rw [if_neg hfirst, if_pos ⟨hd, hv⟩]
          simp [go_sem, IntWalk.iteOmega, IntWalk.toNatUp, e0, e5, e4, strOf_size, hn]
          exact hbw
end Go.Proofs.YtmdkkhogldklnaaDoorRRRR
