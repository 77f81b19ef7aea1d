/-
  Sums of weights: the program's and the document's.
-/
import Derived.Test.YtilpmnbnjeahnaaProg
import Derived.Test.YtilpmnbnjeahnaaTypes
import Derived.Test.YtilpmnbnjeahnaaAny
import Derived.Test.YtilpmnbnjeahnaaOpen
import Derived.Test.YtilpmnbnjeahnaaGPlain
namespace Go.Proofs.Ytilpmnbnjeahnaa
open Go.RowKit
set_option linter.unusedVariables false
set_option linter.unusedSimpArgs false
set_option maxRecDepth 10000
/-- ints as cells -/
def ints (k : IntKind) (l : List Int) : List Value := l.map (Value.int k)
theorem ints_length (k : IntKind) (l : List Int) : (ints k l).length = l.length := by simp [ints]
theorem ints_at {k : IntKind} {l : List Int} {i : Nat} (h : i < l.length) : (ints k l)[i]? = some (.int k (l.getD i 0)) := by
  simp [ints, List.getD, List.getElem?_eq_getElem h]
theorem not_ok {l : List Int} {i : Nat} (h : i < l.length) (hx : ¬ (1 ≤ l.getD i 0 ∧ l.getD i 0 ≤ 4611686018427387903 - sumTo l i)) : okW l = false := by
  rw [okW, decide_eq_false_iff_not]
  rintro ⟨_, _, h3⟩
  exact hx (okTo_le h3 (show i + 1 ≤ l.length from h)).2
theorem not_okL {l : List Int} (h : l.length < 1 ∨ 32 < l.length) : okW l = false := by
  rw [okW, decide_eq_false_iff_not]
  rintro ⟨_, _, h3⟩
  omega
theorem is_ok {l : List Int} (h1 : 1 ≤ l.length) (h2 : l.length ≤ 32) (h : okTo l l.length) : okW l = true := decide_eq_true ⟨h1, h2, h⟩
theorem gsum_runs (l : List Int) (v : Value) (w : World) (hs : Sl w 1 v l.length (ints .i64 l)) : Runs Try.prog 29 #[v] w (.int .i64 (if okW l then sumW l else -1)) w := by
  obtain ⟨A, c, rfl, hrd, hA, hc1, hc2⟩ := hs
  generalize hn : l.length = n at *
  refine runs_of_callE ?_
  refine calls_E Try.func29 rfl rfl rfl (Nat.le_of_ble_eq_true rfl) ?_
  by_cases h1 : n < 1
  · have hk := not_okL (l := l) (by omega)
    have h1' : (n : Int) < 1 := by omega
    simp [go_sem, IntWalk.iteOmega, IntWalk.toNatUp, h1', hk]
  · by_cases h2 : 32 < n
    · have hk := not_okL (l := l) (by omega)
      have h1' : ¬ (n : Int) < 1 := by omega
      have h2' : (32 : Int) < n := by omega
      simp [go_sem, IntWalk.iteOmega, IntWalk.toNatUp, h1', h2', hk]
    · have h1' : ¬ (n : Int) < 1 := by omega
      have h2' : ¬ (32 : Int) < n := by omega
      simp [go_sem, IntWalk.iteOmega, IntWalk.toNatUp, h1', h2']
      refine W_loop (fun s wr => ∃ i : Nat, i ≤ n ∧ s 14 = .slice A n c ∧ s 15 = .int .i64 n ∧ s 16 = .int .i64 i ∧ s 3 = .int .i64 (sumTo l i) ∧ okTo l i ∧ wr = w) (fun s _ => n - (intOf (s 16)).toNat) ?_ ?_
      · exact ⟨0, by omega, by simp [go_sem], by simp [go_sem], by simp [go_sem], by simp [go_sem, sumTo], trivial, rfl⟩
      · clear h1' h2'
        rintro s wr ⟨i, hi, e14, e15, e16, e3, hok, rfl⟩
        have hle := sumTo_le hok
        by_cases hlt : i < n
        · obtain ⟨b, o, rfl, hb, hc⟩ := hrd.cells (by omega)
          have x0 := hc i _ (ints_at (by omega))
          have hstep : sumTo l (i + 1) = sumTo l i + l.getD i 0 := rfl
          have hno := not_ok (l := l) (i := i) (by omega)
          have hyes : 1 ≤ l.getD i 0 → l.getD i 0 ≤ 4611686018427387903 - sumTo l i → okTo l (i + 1) := fun a b => ⟨hok, a, b⟩
          generalize l.getD i 0 = x at *
          by_cases hx1 : x < 1
          · have hk := hno (by omega)
            clear hstep hno hyes
            simp [go_sem, IntWalk.iteOmega, IntWalk.toNatUp, e14, e15, e16, e3, x0, hx1, hk]
          · by_cases hx2 : 4611686018427387903 - sumTo l i < x
            · have hk := hno (by omega)
              clear hstep hno hyes
              simp [go_sem, IntWalk.iteOmega, IntWalk.toNatUp, e14, e15, e16, e3, x0, hx1, hx2, hk]
            · have HS := Lib.hid hstep
              have HK := hyes (by omega) (by omega)
              clear hno hstep hyes
              simp [go_sem, IntWalk.iteOmega, IntWalk.toNatUp, e14, e15, e16, e3, x0, hx1, hx2]
              refine roundEnd.mk ⟨i + 1, by omega, by simp [go_sem, e14], by simp [go_sem, e15], by simp [go_sem], ?_, ?_, rfl⟩ ?_
              · rw [HS.out]; simp [go_sem]
              · exact HK
              · simp [go_sem, intOf]; omega
        · obtain rfl : i = n := by omega
          have hk := is_ok (l := l) (by omega) (by omega) (by rw [hn]; exact hok)
          have hsum : sumW l = sumTo l i := by unfold sumW; rw [hn]
          simp [go_sem, IntWalk.iteOmega, IntWalk.toNatUp, e14, e15, e16, e3, hk, hsum]
theorem noinit_gsum : Try.prog.inits.idxOf? 29 = none := by kernel_rfl
theorem rsum_runs (l : List Int) (v : Value) (w : World) (hs : Sl w 1 v l.length (ints .i64 l)) : Runs Try.prog 18 #[v] w (.tuple #[.int .i64 (if okW l then sumW l else 0), .bool (okW l)]) w := by
  obtain ⟨A, c, rfl, hrd, hA, hc1, hc2⟩ := hs
  generalize hn : l.length = n at *
  refine runs_of_callE ?_
  refine calls_E Try.func18 rfl rfl rfl (Nat.le_of_ble_eq_true rfl) ?_
  by_cases h1 : n < 1
  · have hk := not_okL (l := l) (by omega)
    have h1' : (n : Int) < 1 := by omega
    simp [go_sem, IntWalk.iteOmega, IntWalk.toNatUp, h1', hk]
  · by_cases h2 : 32 < n
    · have hk := not_okL (l := l) (by omega)
      have h1' : ¬ (n : Int) < 1 := by omega
      have h2' : (32 : Int) < n := by omega
      simp [go_sem, IntWalk.iteOmega, IntWalk.toNatUp, h1', h2', hk]
    · have h1' : ¬ (n : Int) < 1 := by omega
      have h2' : ¬ (32 : Int) < n := by omega
      simp [go_sem, IntWalk.iteOmega, IntWalk.toNatUp, h1', h2']
      refine W_loop (fun s wr => ∃ i : Nat, i ≤ n ∧ s 0 = .slice A n c ∧ s 5 = .int .i64 i ∧ s 4 = .int .i64 (sumTo l i) ∧ okTo l i ∧ wr = w) (fun s _ => n - (intOf (s 5)).toNat) ?_ ?_
      · exact ⟨0, by omega, by simp [go_sem], by simp [go_sem], by simp [go_sem, sumTo], trivial, rfl⟩
      · clear h1' h2'
        rintro s wr ⟨i, hi, e0, e5, e4, hok, rfl⟩
        have hle := sumTo_le hok
        by_cases hlt : i < n
        · obtain ⟨b, o, rfl, hb, hc⟩ := hrd.cells (by omega)
          have x0 := hc i _ (ints_at (by omega))
          have hstep : sumTo l (i + 1) = sumTo l i + l.getD i 0 := rfl
          have hno := not_ok (l := l) (i := i) (by omega)
          have hyes : 1 ≤ l.getD i 0 → l.getD i 0 ≤ 4611686018427387903 - sumTo l i → okTo l (i + 1) := fun a b => ⟨hok, a, b⟩
          generalize l.getD i 0 = x at *
          by_cases hx1 : x < 1
          · have hk := hno (by omega)
            clear hstep hno hyes
            simp [go_sem, IntWalk.iteOmega, IntWalk.toNatUp, e0, e5, e4, x0, hx1, hk]
          · by_cases hx2 : 4611686018427387903 - sumTo l i < x
            · have hk := hno (by omega)
              clear hstep hno hyes
              simp [go_sem, IntWalk.iteOmega, IntWalk.toNatUp, e0, e5, e4, x0, hx1, hx2, hk]
            · have HS := Lib.hid hstep
              have HK := hyes (by omega) (by omega)
              clear hno hstep hyes
              simp [go_sem, IntWalk.iteOmega, IntWalk.toNatUp, e0, e5, e4, x0, hx1, hx2]
              refine roundEnd.mk ⟨i + 1, by omega, by simp [go_sem, e0], by simp [go_sem], ?_, HK, rfl⟩ ?_
              · rw [HS.out]; simp [go_sem]
              · simp [go_sem, intOf]; omega
        · obtain rfl : i = n := by omega
          have hk := is_ok (l := l) (by omega) (by omega) (by rw [hn]; exact hok)
          have hsum : sumW l = sumTo l i := by unfold sumW; rw [hn]
          simp [go_sem, IntWalk.iteOmega, IntWalk.toNatUp, e0, e5, e4, hk, hsum]
theorem noinit_rsum : Try.prog.inits.idxOf? 18 = none := by kernel_rfl
theorem allowed_runs (n : Int) (w : World) : Runs Try.prog 30 #[.int .i64 n] w (.bool (decide (0 ≤ n ∧ n ≤ 1073741824))) w := by
  refine runs_of_callE ?_
  refine calls_E Try.func30 rfl rfl rfl (Nat.le_of_ble_eq_true rfl) ?_
  by_cases h1 : 0 ≤ n <;> by_cases h2 : n ≤ 1073741824 <;> simp [go_sem, IntWalk.iteOmega, IntWalk.toNatUp, h1, h2]
theorem noinit_allowed : Try.prog.inits.idxOf? 30 = none := by kernel_rfl
@[go_sem] theorem allowed_eq (n : Int) (w : World) (k : Kont) : callE Try.prog 30 #[.int .i64 n] w k = k (.bool (decide (0 ≤ n ∧ n ≤ 1073741824))) w := callE_eq noinit_allowed (allowed_runs n w) k
end Go.Proofs.Ytilpmnbnjeahnaa
