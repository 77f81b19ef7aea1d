/-
  The reference's number and digits; a line.
-/
import Derived.Test.YtoabdejoabfbeaaDoorTNum
namespace Go.Proofs.YtoabdejoabfbeaaDoor
open Go.RowKit
open Go.Lib (decDigits decDigits_one)
set_option linter.unusedVariables false
set_option linter.unusedSimpArgs false
set_option maxRecDepth 10000
theorem number_runs (l : List UInt8) (hl : l.length ≤ 20000) (w : World) : Runs Tryd.prog 34 #[.string (strOf l)] w (.int .i64 (numberV l)) w := by
  refine runs_of_callE ?_
  refine calls_E Tryd.func34 rfl rfl rfl (Nat.le_of_ble_eq_true rfl) ?_
  simp [go_sem, IntWalk.iteOmega, IntWalk.toNatUp]
  refine W_loop (fun s wr => ∃ i : Nat, i ≤ l.length ∧ s 0 = .string (strOf l) ∧ s 3 = .int .i64 (dval (l.take i)) ∧ s 4 = .int .i64 i ∧ digs (l.take i) = true ∧ dval (l.take i) ≤ 4611686018427387903 ∧ wr = w) (fun s _ => l.length - (intOf (s 4)).toNat) ?_ ?_
  · exact ⟨0, by omega, by simp [go_sem], by simp [go_sem, dval], by simp [go_sem], rfl, by simp [dval], rfl⟩
  · rintro s _ ⟨i, hi, e0, e3, e4, hd, hv, rfl⟩
    by_cases hlt : i < l.length
    · have hlt' : (i : Int) < l.length := by omega
      have x1 := fun w => run_index_str (P := Tryd.prog) (w := w) Tryd.underlying9 l i hlt
      have htk := take_digs hlt
      have hds := digs_snoc (l.take i) l[i]
      have hdv := dval_snoc (l.take i) l[i]
      rw [← htk] at hds hdv
      have hdl := digs_take (l := l)
      have hvl := dval_take l (i + 1)
      have hc256 := (l[i]).toNat_lt
      generalize hcc : (l[i]).toNat = c at *
      generalize hV : dval (l.take i) = V at *
      have f0 : IntKind.i64.wrap (c : Int) = c := by rw [IntKind.wrap_i64]; omega
      by_cases q1 : c < 48
      · have q1' : (c : Int) - 48 < 0 := by omega
        have f1 : IntKind.i64.wrap ((c : Int) - 48) = c - 48 := by rw [IntKind.wrap_i64]; omega
        have e : numberV l = -1 := by
          unfold numberV; rw [if_neg]; rintro ⟨h, _⟩
          have := hdl h (i + 1); rw [hds, hd] at this; simp at this; omega
        simp [go_sem, IntWalk.iteOmega, IntWalk.toNatUp, strOf_size, e0, e3, e4, hlt, hlt', x1, f0, f1, q1', e]
      obtain ⟨d, hdd⟩ : ∃ d : Nat, c = 48 + d := ⟨c - 48, by omega⟩
      have f1 : IntKind.i64.wrap ((c : Int) - 48) = d := by rw [IntKind.wrap_i64]; omega
      have q1' : ¬ (d : Int) < 0 := by omega
      by_cases q2 : 57 < c
      · have q2' : (9 : Int) < d := by omega
        have e : numberV l = -1 := by
          unfold numberV; rw [if_neg]; rintro ⟨h, _⟩
          have := hdl h (i + 1); rw [hds, hd] at this; simp at this; omega
        simp [go_sem, IntWalk.iteOmega, IntWalk.toNatUp, strOf_size, e0, e3, e4, hlt, hlt', x1, f0, f1, q1', q2', e]
      have q2' : ¬ (9 : Int) < d := by omega
      have f3 : IntKind.i64.wrap (4611686018427387903 - (d : Int)) = 4611686018427387903 - d := by rw [IntKind.wrap_i64]; omega
      obtain ⟨Q, hQ⟩ : ∃ Q : Nat, (4611686018427387903 - (d : Int)).tdiv 10 = Q := ⟨(4611686018427387903 - d) / 10, by rw [Int.tdiv_eq_ediv_of_nonneg (by omega)]; omega⟩
      have hQ2 : 10 * Q ≤ 4611686018427387903 - d ∧ 4611686018427387903 - d < 10 * Q + 10 := by
        rw [Int.tdiv_eq_ediv_of_nonneg (by omega)] at hQ; omega
      have f4 : IntKind.i64.wrap (Q : Int) = Q := by rw [IntKind.wrap_i64]; omega
      have hdv2 : dval (l.take (i + 1)) = 10 * V + d := by rw [hdv]; omega
      by_cases q3 : Q < V
      · have q3' : (Q : Int) < V := by omega
        have e : numberV l = -1 := by
          unfold numberV; rw [if_neg]; rintro ⟨_, h⟩; omega
        simp [go_sem, IntWalk.iteOmega, IntWalk.toNatUp, strOf_size, e0, e3, e4, hlt, hlt', x1, f0, f1, q1', q2', f3, hQ, f4, q3', e]
      · have q3' : ¬ (Q : Int) < V := by omega
        have f5 : IntKind.i64.wrap (10 * (V : Int)) = 10 * V := by rw [IntKind.wrap_i64]; omega
        have f6 : IntKind.i64.wrap (10 * (V : Int) + d) = 10 * V + d := by rw [IntKind.wrap_i64]; omega
        simp [go_sem, IntWalk.iteOmega, IntWalk.toNatUp, strOf_size, e0, e3, e4, hlt, hlt', x1, f0, f1, q1', q2', f3, hQ, f4, q3', f5, f6]
        refine roundEnd.mk ⟨i + 1, by omega, by simp [go_sem, e0], ?_, by simp [go_sem], ?_, by omega, rfl⟩ ?_
        · rw [hdv2]; simp [go_sem]
        · rw [hds, hd]; simp; omega
        · simp [go_sem, intOf]; omega
    · obtain rfl : i = l.length := by omega
      rw [List.take_of_length_le (Nat.le_refl _)] at e3 hd hv
      have e : numberV l = dval l := by unfold numberV; rw [if_pos ⟨hd, hv⟩]
      simp [go_sem, IntWalk.iteOmega, IntWalk.toNatUp, strOf_size, e0, e3, e4, e]
theorem noinit_number : Tryd.prog.inits.idxOf? 34 = none := by kernel_rfl
theorem noinit_digits : Tryd.prog.inits.idxOf? 32 = none := by kernel_rfl
theorem strOf_app (a b : List UInt8) : strOf a ++ strOf b = strOf (a ++ b) := by
  apply ByteArray.ext
  simp [strOf]
theorem digits_runs (w : World) : ∀ n : Nat, n ≤ 9223372036854775807 → Runs Tryd.prog 32 #[.int .i64 n] w (.string (strOf (decDigits n))) w := by
  intro n
  induction n using Nat.strongRecOn with
  | _ n ih =>
    intro hn
    refine runs_of_callE ?_
    by_cases h : n < 10
    · have h' : (n : Int) < 10 := by omega
      refine calls_E Tryd.func32 rfl rfl rfl (Nat.le_of_ble_eq_true rfl) ?_
      rcases (by omega : n = 0 ∨ n = 1 ∨ n = 2 ∨ n = 3 ∨ n = 4 ∨ n = 5 ∨ n = 6 ∨ n = 7 ∨ n = 8 ∨ n = 9) with rfl | rfl | rfl | rfl | rfl | rfl | rfl | rfl | rfl | rfl
      all_goals
        simp [go_sem, IntWalk.iteOmega, IntWalk.toNatUp, h']
        rw [decDigits_one (by omega)]
        rfl
    · have h' : ¬ (n : Int) < 10 := by omega
      obtain ⟨q, hq⟩ : ∃ q : Nat, (n : Int).tdiv 10 = q := ⟨n / 10, by rw [Int.tdiv_eq_ediv_of_nonneg (by omega)]; omega⟩
      obtain ⟨m, hm⟩ : ∃ m : Nat, (n : Int).tmod 10 = m := ⟨n % 10, by rw [Int.tmod_eq_emod_of_nonneg (by omega)]; omega⟩
      have hq2 : q = n / 10 := by rw [Int.tdiv_eq_ediv_of_nonneg (by omega)] at hq; omega
      have hm2 : m = n % 10 := by rw [Int.tmod_eq_emod_of_nonneg (by omega)] at hm; omega
      have f1 : IntKind.i64.wrap (q : Int) = q := by rw [IntKind.wrap_i64]; omega
      have f2 : IntKind.i64.wrap (m : Int) = m := by rw [IntKind.wrap_i64]; omega
      have r1 := fun k => callE_eq noinit_digits (ih q (by omega) (by omega)) k
      have r2 := fun k => callE_eq noinit_digits (ih m (by omega) (by omega)) k
      have e : decDigits n = decDigits q ++ decDigits m := by
        rw [show decDigits m = [UInt8.ofNat (48 + n % 10)] by rw [decDigits_one (by omega), hm2], hq2]
        conv => lhs; rw [decDigits, dif_neg h]
      rw [e]
      refine calls_E Tryd.func32 rfl rfl rfl (Nat.le_of_ble_eq_true rfl) ?_
      have l1 := Go.Lib.nDigits_le20 q (by omega)
      have l2 := Go.Lib.nDigits_le20 m (by omega)
      have hsz : ¬ 9223372036854775807 < (strOf (decDigits q)).size + (strOf (decDigits m)).size := by rw [strOf_size, strOf_size, Go.Lib.decDigits_length, Go.Lib.decDigits_length]; omega
      simp [go_sem, IntWalk.iteOmega, IntWalk.toNatUp, h', hq, hm, f1, f2, r1, r2, hsz, strOf_app]
/-- a validator's line -/
def lineV (x : Vd) : List UInt8 := x.name.data.toList ++ [32] ++ decDigits x.weight.toNat ++ [10]
theorem strOf_self (s : ByteArray) : strOf s.data.toList = s := by simp [strOf]
theorem line_any (x : Vd) (hw : 0 ≤ x.weight ∧ x.weight ≤ 9223372036854775807) (hn : x.name.size ≤ 100000) (w : World) : callE Tryd.prog 20 #[.agg #[.string x.name, .int .i64 x.weight]] w fun u w' => u = .string (strOf (lineV x)) ∧ Below w.heap.size w w' := by
  obtain ⟨m, hm⟩ : ∃ m : Nat, x.weight = m := ⟨x.weight.toNat, by omega⟩
  have r1 := fun w k => callE_eq noinit_digits (digits_runs w m (by omega)) k
  have kA := ext_alloc w (.cells #[.string x.name, .int .i64 x.weight] 32)
  have hX : Blk (w.alloc (.cells #[.string x.name, .int .i64 x.weight] 32)) w.heap.size 32 #[.string x.name, .int .i64 x.weight] := Blk.self_ rfl
  have hc := hX.drew.cell
  have l1 := Go.Lib.nDigits_le20 m (by omega)
  have e : lineV x = ((x.name.data.toList ++ [32]) ++ decDigits m) ++ [10] := by simp [lineV, hm]
  have hs1 : x.name.size = x.name.data.toList.length := by rw [Array.length_toList]; rfl
  generalize hN : x.name.data.toList = N at *
  have l3 : (decDigits m).length ≤ 20 := by rw [Go.Lib.decDigits_length]; exact l1
  have hNl : N.length ≤ 100000 := by omega
  have hne : x.name = strOf N := by rw [← hN, strOf_self]
  rw [e]
  rw [hm, hne] at hc hX kA ⊢
  have c1 : (⟨#[32]⟩ : ByteArray) = strOf [32] := rfl
  have c2 : (⟨#[10]⟩ : ByteArray) = strOf [10] := rfl
  refine calls_E Tryd.func20 rfl rfl rfl (Nat.le_of_ble_eq_true rfl) ?_
  simp [go_sem, IntWalk.iteOmega, IntWalk.toNatUp]
  refine W_tree (.pure 0 (.pure 3 (.two 1 (.pure 2 (.one 4 (.one 5 (.pure 6 (.pure 7 (.pure 8 (.done))))))) 4 (.two 1 (.pure 2 (.one 5 (.pure 6 (.pure 7 (.pure 8 (.done)))))) 5 (.one 1 (.pure 2 (.pure 6 (.pure 7 (.pure 8 (.done))))))))))  follows (by kernel_rfl) ?_
  simp [go_sem, IntWalk.iteOmega, IntWalk.toNatUp, hc, r1, c1, c2, strOf_app, strOf_size]
  exact kA.drew
end Go.Proofs.YtoabdejoabfbeaaDoor
