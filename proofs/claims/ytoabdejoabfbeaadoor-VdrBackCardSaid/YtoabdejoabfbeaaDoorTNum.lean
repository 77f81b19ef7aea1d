/-
  A weight's text: both readers, and the writer.
-/
import Derived.Test.YtoabdejoabfbeaaDoorVLive
import Derived.Test.YtoabdejoabfbeaaDoorTDigits
import Derived.Test.YtoabdejoabfbeaaDoorCut
namespace Go.Proofs.YtoabdejoabfbeaaDoor
open Go.RowKit
open Go.Lib (decDigits)
set_option linter.unusedVariables false
set_option linter.unusedSimpArgs false
set_option maxRecDepth 10000
def strOf (l : List UInt8) : ByteArray := ⟨l.toArray⟩
theorem strOf_size (l : List UInt8) : (strOf l).size = l.length := by simp [strOf, ByteArray.size]
theorem strOf_get (l : List UInt8) (i : Nat) (h : i < l.length) : (strOf l)[i]? = some (l[i]) := by
  have hs : i < (strOf l).size := by rw [strOf_size]; exact h
  rw [getElem?_pos (strOf l) i hs]
  rfl
theorem run_index_str {P : Program} {w : World} {t : TypeId} (ht : P.underlying t = some .string) (l : List UInt8) (i : Nat) (h : i < l.length) : (Instr.index t (.string (strOf l)) (.int .i64 i)).run P w = .ok (.int .u8 ((l[i]).toNat : Int)) w := by
  unfold Instr.index
  have h2 : (0 : Int) ≤ i := by omega
  simp only [Sem.run_bind, asIntOf, Sem.run_pure, Result.andThen_ok, run_underlying ht]
  rw [if_pos h2, Int.toNat_natCast, strOf_get l i h]
  rfl
theorem take_digs {l : List UInt8} {i : Nat} (h : i < l.length) : l.take (i + 1) = l.take i ++ [l[i]] := by
  rw [List.take_add_one, List.getElem?_eq_getElem h]; rfl
theorem digs_take {l : List UInt8} (h : digs l = true) (i : Nat) : digs (l.take i) = true := by
  unfold digs at *
  rw [List.all_eq_true] at *
  exact fun x hx => h x (List.mem_of_mem_take hx)
theorem dval_take (l : List UInt8) (i : Nat) : dval (l.take i) ≤ dval l := by
  have := dval_mono (l.take i) (l.drop i)
  rwa [List.take_append_drop] at this
theorem weight_runs (l : List UInt8) (hl : l.length ≤ 20000) (w : World) : Runs Tryd.prog 22 #[.string (strOf l)] w (.int .i64 (weightV l)) w := by
  refine runs_of_callE ?_
  by_cases c1 : l.length < 1
  · have e : weightV l = 0 := by unfold weightV; rw [if_neg (by omega)]
    have c1' : (l.length : Int) < 1 := by omega
    refine calls_E Tryd.func22 rfl rfl rfl (Nat.le_of_ble_eq_true rfl) ?_
    simp [go_sem, IntWalk.iteOmega, IntWalk.toNatUp, strOf_size, c1', e]
  by_cases c2 : 19 < l.length
  · have e : weightV l = 0 := by unfold weightV; rw [if_neg (by omega)]
    have c1' : ¬ (l.length : Int) < 1 := by omega
    have c2' : (19 : Int) < l.length := by omega
    refine calls_E Tryd.func22 rfl rfl rfl (Nat.le_of_ble_eq_true rfl) ?_
    simp [go_sem, IntWalk.iteOmega, IntWalk.toNatUp, strOf_size, c1', c2', e]
  have c1' : ¬ (l.length : Int) < 1 := by omega
  have c2' : ¬ (19 : Int) < l.length := by omega
  have h0 : 0 < l.length := by omega
  have x0 := fun w => run_index_str (P := Tryd.prog) (w := w) Tryd.underlying9 l 0 h0
  simp only [Int.natCast_zero] at x0
  have hhd : l.head? = some l[0] := by cases l with | nil => cases h0 | cons c r => rfl
  by_cases c3 : l[0].toNat = 48
  · have e : weightV l = 0 := by
      unfold weightV
      rw [if_neg]
      rintro ⟨_, _, h, _⟩
      exact h (by rw [hhd]; congr 1; exact UInt8.toNat_inj.1 c3)
    have c3' : ((l[0].toNat : Int) == 48) = true := by simp [c3]
    refine calls_E Tryd.func22 rfl rfl rfl (Nat.le_of_ble_eq_true rfl) ?_
    simp [go_sem, IntWalk.iteOmega, IntWalk.toNatUp, strOf_size, c1', c2', x0, c3', e]
  have c3' : ((l[0].toNat : Int) == 48) = false := beq_eq_false_iff_ne.2 (by omega)
  have hne : l.head? ≠ some 48 := by rw [hhd]; intro h; injection h with h; exact c3 (by rw [h]; rfl)
  refine calls_E Tryd.func22 rfl rfl rfl (Nat.le_of_ble_eq_true rfl) ?_
  simp [go_sem, IntWalk.iteOmega, IntWalk.toNatUp, strOf_size, c1', c2', x0, c3']
  refine W_loop (fun s wr => ∃ i : Nat, i ≤ l.length ∧ s 0 = .string (strOf l) ∧ s 3 = .int .i64 (dval (l.take i)) ∧ s 20 = .int .i64 l.length ∧ s 21 = .int .i64 i ∧ digs (l.take i) = true ∧ dval (l.take i) ≤ 4611686018427387903 ∧ wr = w) (fun s _ => l.length - (intOf (s 21)).toNat) ?_ ?_
  · exact ⟨0, by omega, by simp [go_sem], by simp [go_sem, dval], by simp [go_sem], by simp [go_sem], rfl, by simp [dval], rfl⟩
  · rintro s _ ⟨i, hi, e0, e3, e20, e21, hd, hv, rfl⟩
    by_cases hlt : i < l.length
    · have hlt' : (i : Int) < l.length := by omega
      have x1 := fun w => run_index_str (P := Tryd.prog) (w := w) Tryd.underlying9 l i hlt
      have htk := take_digs hlt
      have hds := digs_snoc (l.take i) l[i]
      have hdv := dval_snoc (l.take i) l[i]
      rw [← htk] at hds hdv
      have hdl := digs_take (l := l)
      have hvl := dval_take l (i + 1)
      have hc256 := (l[i]).toNat_lt
      generalize hcc : (l[i]).toNat = c at *
      generalize hV : dval (l.take i) = V at *
      by_cases q1 : c < 48
      · have q1' : (c : Int) < 48 := by omega
        have e : weightV l = 0 := by
          unfold weightV; rw [if_neg]; rintro ⟨_, _, _, h, _⟩
          have := hdl h (i + 1); rw [hds, hd] at this; simp at this; omega
        simp [go_sem, IntWalk.iteOmega, IntWalk.toNatUp, e0, e3, e20, e21, hlt, hlt', x1, q1', e]
      by_cases q2 : 57 < c
      · have q1' : ¬ (c : Int) < 48 := by omega
        have q2' : (57 : Int) < c := by omega
        have e : weightV l = 0 := by
          unfold weightV; rw [if_neg]; rintro ⟨_, _, _, h, _⟩
          have := hdl h (i + 1); rw [hds, hd] at this; simp at this; omega
        simp [go_sem, IntWalk.iteOmega, IntWalk.toNatUp, e0, e3, e20, e21, hlt, hlt', x1, q1', q2', e]
      have q1' : ¬ (c : Int) < 48 := by omega
      have q2' : ¬ (57 : Int) < c := by omega
      obtain ⟨d, hdd⟩ : ∃ d : Nat, c = 48 + d := ⟨c - 48, by omega⟩
      have f1 : IntKind.u8.wrap ((c : Int) - 48) = d := by rw [IntKind.wrap_u8]; omega
      have f2 : IntKind.i64.wrap (d : Int) = d := by rw [IntKind.wrap_i64]; omega
      have f3 : IntKind.i64.wrap (4611686018427387903 - (d : Int)) = 4611686018427387903 - d := by rw [IntKind.wrap_i64]; omega
      obtain ⟨Q, hQ⟩ : ∃ Q : Nat, (4611686018427387903 - (d : Int)).tdiv 10 = Q := ⟨(4611686018427387903 - d) / 10, by rw [Int.tdiv_eq_ediv_of_nonneg (by omega)]; omega⟩
      have hQ2 : 10 * Q ≤ 4611686018427387903 - d ∧ 4611686018427387903 - d < 10 * Q + 10 := by
        rw [Int.tdiv_eq_ediv_of_nonneg (by omega)] at hQ; omega
      have f4 : IntKind.i64.wrap (Q : Int) = Q := by rw [IntKind.wrap_i64]; omega
      have hdv2 : dval (l.take (i + 1)) = 10 * V + d := by rw [hdv]; omega
      by_cases q3 : Q < V
      · have q3' : (Q : Int) < V := by omega
        have e : weightV l = 0 := by
          unfold weightV; rw [if_neg]; rintro ⟨_, _, _, _, h⟩; omega
        simp [go_sem, IntWalk.iteOmega, IntWalk.toNatUp, e0, e3, e20, e21, hlt, hlt', x1, q1', q2', f1, f2, f3, hQ, f4, q3', e]

      · have q3' : ¬ (Q : Int) < V := by omega
        have f5 : IntKind.i64.wrap (10 * (V : Int)) = 10 * V := by rw [IntKind.wrap_i64]; omega
        have f6 : IntKind.i64.wrap (10 * (V : Int) + d) = 10 * V + d := by rw [IntKind.wrap_i64]; omega
        simp [go_sem, IntWalk.iteOmega, IntWalk.toNatUp, e0, e3, e20, e21, hlt, hlt', x1, q1', q2', f1, f2, f3, hQ, f4, q3', f5, f6]

        refine roundEnd.mk ⟨i + 1, by omega, by simp [go_sem, e0], ?_, by simp [go_sem, e20], by simp [go_sem], ?_, by omega, rfl⟩ ?_
        · rw [hdv2]; simp [go_sem]
        · rw [hds, hd]; simp; omega
        · simp [go_sem, intOf]; omega
    · obtain rfl : i = l.length := by omega
      rw [List.take_of_length_le (Nat.le_refl _)] at e3 hd hv
      have e : weightV l = dval l := by unfold weightV; rw [if_pos ⟨by omega, by omega, hne, hd, hv⟩]
      simp [go_sem, IntWalk.iteOmega, IntWalk.toNatUp, e0, e3, e20, e21, e]
theorem noinit_weight : Tryd.prog.inits.idxOf? 22 = none := by kernel_rfl
end Go.Proofs.YtoabdejoabfbeaaDoor
