/-
  How many runes a text has; whether a rune may stand in a name.
-/
import Derived.Test.YtoabdejoabfbeaaDoorProg
import Derived.Test.YtoabdejoabfbeaaDoorTypes
import Derived.Test.YtoabdejoabfbeaaDoorRunes
namespace Go.Proofs.YtoabdejoabfbeaaDoor
open Go.RowKit
set_option linter.unusedVariables false
set_option linter.unusedSimpArgs false
set_option maxRecDepth 10000
theorem undS : Tryd.prog.underlying 9 = some .string := by kernel_rfl
def letterOk (c : Int) : Bool := decide ((48 ≤ c ∧ c ≤ 57) ∨ (97 ≤ c ∧ c ≤ 122) ∨ c = 45 ∨ (192 ≤ c ∧ c ≤ 591 ∧ c ≠ 215 ∧ c ≠ 247))
set_option maxHeartbeats 3200000 in
theorem letter_runs (c : Int) (w : World) : Runs Tryd.prog 35 #[.int .i32 c] w (.bool (letterOk c)) w := by
  refine runs_of_callE ?_
  have hp : (c < 45) ∨ (c = 45) ∨ (46 ≤ c ∧ c ≤ 47) ∨ (48 ≤ c ∧ c ≤ 57) ∨ (58 ≤ c ∧ c ≤ 96) ∨ (97 ≤ c ∧ c ≤ 122) ∨ (123 ≤ c ∧ c ≤ 191) ∨ (192 ≤ c ∧ c ≤ 214) ∨ (c = 215) ∨ (216 ≤ c ∧ c ≤ 246) ∨ (c = 247) ∨ (248 ≤ c ∧ c ≤ 591) ∨ (592 ≤ c) := by omega
  refine calls_E Tryd.func35 rfl rfl rfl (Nat.le_of_ble_eq_true rfl) ?_
  rcases hp with h | h | h | h | h | h | h | h | h | h | h | h | h
  · have hl : letterOk c = false := by simp [letterOk]; omega
    have n1 : (c == 45) = false := by simp; omega
    have n2 : (c == 215) = false := by simp; omega
    have n3 : (c == 247) = false := by simp; omega
    have m2 : (c != 215) = true := by simp; omega
    have m3 : (c != 247) = true := by simp; omega
    have f0 : ¬ 48 ≤ c := by omega
    have f1 : c ≤ 57 := by omega
    have f2 : ¬ 97 ≤ c := by omega
    have f3 : c ≤ 122 := by omega
    have f4 : ¬ 192 ≤ c := by omega
    have f5 : c ≤ 591 := by omega
    simp [go_sem, IntWalk.iteOmega, IntWalk.toNatUp, hl, n1, n2, n3, m2, m3, f0, f1, f2, f3, f4, f5]
  · subst h
    have hl : letterOk 45 = true := rfl
    simp [go_sem, IntWalk.iteOmega, IntWalk.toNatUp, hl]
  · have hl : letterOk c = false := by simp [letterOk]; omega
    have n1 : (c == 45) = false := by simp; omega
    have n2 : (c == 215) = false := by simp; omega
    have n3 : (c == 247) = false := by simp; omega
    have m2 : (c != 215) = true := by simp; omega
    have m3 : (c != 247) = true := by simp; omega
    have f0 : ¬ 48 ≤ c := by omega
    have f1 : c ≤ 57 := by omega
    have f2 : ¬ 97 ≤ c := by omega
    have f3 : c ≤ 122 := by omega
    have f4 : ¬ 192 ≤ c := by omega
    have f5 : c ≤ 591 := by omega
    simp [go_sem, IntWalk.iteOmega, IntWalk.toNatUp, hl, n1, n2, n3, m2, m3, f0, f1, f2, f3, f4, f5]
  · have hl : letterOk c = true := by simp [letterOk]; omega
    have n1 : (c == 45) = false := by simp; omega
    have n2 : (c == 215) = false := by simp; omega
    have n3 : (c == 247) = false := by simp; omega
    have m2 : (c != 215) = true := by simp; omega
    have m3 : (c != 247) = true := by simp; omega
    have f0 : 48 ≤ c := by omega
    have f1 : c ≤ 57 := by omega
    have f2 : ¬ 97 ≤ c := by omega
    have f3 : c ≤ 122 := by omega
    have f4 : ¬ 192 ≤ c := by omega
    have f5 : c ≤ 591 := by omega
    simp [go_sem, IntWalk.iteOmega, IntWalk.toNatUp, hl, n1, n2, n3, m2, m3, f0, f1, f2, f3, f4, f5]
  · have hl : letterOk c = false := by simp [letterOk]; omega
    have n1 : (c == 45) = false := by simp; omega
    have n2 : (c == 215) = false := by simp; omega
    have n3 : (c == 247) = false := by simp; omega
    have m2 : (c != 215) = true := by simp; omega
    have m3 : (c != 247) = true := by simp; omega
    have f0 : 48 ≤ c := by omega
    have f1 : ¬ c ≤ 57 := by omega
    have f2 : ¬ 97 ≤ c := by omega
    have f3 : c ≤ 122 := by omega
    have f4 : ¬ 192 ≤ c := by omega
    have f5 : c ≤ 591 := by omega
    simp [go_sem, IntWalk.iteOmega, IntWalk.toNatUp, hl, n1, n2, n3, m2, m3, f0, f1, f2, f3, f4, f5]
  · have hl : letterOk c = true := by simp [letterOk]; omega
    have n1 : (c == 45) = false := by simp; omega
    have n2 : (c == 215) = false := by simp; omega
    have n3 : (c == 247) = false := by simp; omega
    have m2 : (c != 215) = true := by simp; omega
    have m3 : (c != 247) = true := by simp; omega
    have f0 : 48 ≤ c := by omega
    have f1 : ¬ c ≤ 57 := by omega
    have f2 : 97 ≤ c := by omega
    have f3 : c ≤ 122 := by omega
    have f4 : ¬ 192 ≤ c := by omega
    have f5 : c ≤ 591 := by omega
    simp [go_sem, IntWalk.iteOmega, IntWalk.toNatUp, hl, n1, n2, n3, m2, m3, f0, f1, f2, f3, f4, f5]
  · have hl : letterOk c = false := by simp [letterOk]; omega
    have n1 : (c == 45) = false := by simp; omega
    have n2 : (c == 215) = false := by simp; omega
    have n3 : (c == 247) = false := by simp; omega
    have m2 : (c != 215) = true := by simp; omega
    have m3 : (c != 247) = true := by simp; omega
    have f0 : 48 ≤ c := by omega
    have f1 : ¬ c ≤ 57 := by omega
    have f2 : 97 ≤ c := by omega
    have f3 : ¬ c ≤ 122 := by omega
    have f4 : ¬ 192 ≤ c := by omega
    have f5 : c ≤ 591 := by omega
    simp [go_sem, IntWalk.iteOmega, IntWalk.toNatUp, hl, n1, n2, n3, m2, m3, f0, f1, f2, f3, f4, f5]
  · have hl : letterOk c = true := by simp [letterOk]; omega
    have n1 : (c == 45) = false := by simp; omega
    have n2 : (c == 215) = false := by simp; omega
    have n3 : (c == 247) = false := by simp; omega
    have m2 : (c != 215) = true := by simp; omega
    have m3 : (c != 247) = true := by simp; omega
    have f0 : 48 ≤ c := by omega
    have f1 : ¬ c ≤ 57 := by omega
    have f2 : 97 ≤ c := by omega
    have f3 : ¬ c ≤ 122 := by omega
    have f4 : 192 ≤ c := by omega
    have f5 : c ≤ 591 := by omega
    simp [go_sem, IntWalk.iteOmega, IntWalk.toNatUp, hl, n1, n2, n3, m2, m3, f0, f1, f2, f3, f4, f5]
  · subst h
    have hl : letterOk 215 = false := rfl
    simp [go_sem, IntWalk.iteOmega, IntWalk.toNatUp, hl]
  · have hl : letterOk c = true := by simp [letterOk]; omega
    have n1 : (c == 45) = false := by simp; omega
    have n2 : (c == 215) = false := by simp; omega
    have n3 : (c == 247) = false := by simp; omega
    have m2 : (c != 215) = true := by simp; omega
    have m3 : (c != 247) = true := by simp; omega
    have f0 : 48 ≤ c := by omega
    have f1 : ¬ c ≤ 57 := by omega
    have f2 : 97 ≤ c := by omega
    have f3 : ¬ c ≤ 122 := by omega
    have f4 : 192 ≤ c := by omega
    have f5 : c ≤ 591 := by omega
    simp [go_sem, IntWalk.iteOmega, IntWalk.toNatUp, hl, n1, n2, n3, m2, m3, f0, f1, f2, f3, f4, f5]
  · subst h
    have hl : letterOk 247 = false := rfl
    simp [go_sem, IntWalk.iteOmega, IntWalk.toNatUp, hl]
  · have hl : letterOk c = true := by simp [letterOk]; omega
    have n1 : (c == 45) = false := by simp; omega
    have n2 : (c == 215) = false := by simp; omega
    have n3 : (c == 247) = false := by simp; omega
    have m2 : (c != 215) = true := by simp; omega
    have m3 : (c != 247) = true := by simp; omega
    have f0 : 48 ≤ c := by omega
    have f1 : ¬ c ≤ 57 := by omega
    have f2 : 97 ≤ c := by omega
    have f3 : ¬ c ≤ 122 := by omega
    have f4 : 192 ≤ c := by omega
    have f5 : c ≤ 591 := by omega
    simp [go_sem, IntWalk.iteOmega, IntWalk.toNatUp, hl, n1, n2, n3, m2, m3, f0, f1, f2, f3, f4, f5]
  · have hl : letterOk c = false := by simp [letterOk]; omega
    have n1 : (c == 45) = false := by simp; omega
    have n2 : (c == 215) = false := by simp; omega
    have n3 : (c == 247) = false := by simp; omega
    have m2 : (c != 215) = true := by simp; omega
    have m3 : (c != 247) = true := by simp; omega
    have f0 : 48 ≤ c := by omega
    have f1 : ¬ c ≤ 57 := by omega
    have f2 : 97 ≤ c := by omega
    have f3 : ¬ c ≤ 122 := by omega
    have f4 : 192 ≤ c := by omega
    have f5 : ¬ c ≤ 591 := by omega
    simp [go_sem, IntWalk.iteOmega, IntWalk.toNatUp, hl, n1, n2, n3, m2, m3, f0, f1, f2, f3, f4, f5]
set_option maxHeartbeats 3200000 in
theorem rletter_runs (c : Int) (w : World) : Runs Tryd.prog 39 #[.int .i32 c] w (.bool (letterOk c)) w := by
  refine runs_of_callE ?_
  have hp : (c < 45) ∨ (c = 45) ∨ (46 ≤ c ∧ c ≤ 47) ∨ (48 ≤ c ∧ c ≤ 57) ∨ (58 ≤ c ∧ c ≤ 96) ∨ (97 ≤ c ∧ c ≤ 122) ∨ (123 ≤ c ∧ c ≤ 191) ∨ (192 ≤ c ∧ c ≤ 214) ∨ (c = 215) ∨ (216 ≤ c ∧ c ≤ 246) ∨ (c = 247) ∨ (248 ≤ c ∧ c ≤ 591) ∨ (592 ≤ c) := by omega
  refine calls_E Tryd.func39 rfl rfl rfl (Nat.le_of_ble_eq_true rfl) ?_
  rcases hp with h | h | h | h | h | h | h | h | h | h | h | h | h
  · have hl : letterOk c = false := by simp [letterOk]; omega
    have n1 : (c == 45) = false := by simp; omega
    have n2 : (c == 215) = false := by simp; omega
    have n3 : (c == 247) = false := by simp; omega
    have m2 : (c != 215) = true := by simp; omega
    have m3 : (c != 247) = true := by simp; omega
    have f0 : ¬ 48 ≤ c := by omega
    have f1 : c ≤ 57 := by omega
    have f2 : ¬ 97 ≤ c := by omega
    have f3 : c ≤ 122 := by omega
    have f4 : ¬ 192 ≤ c := by omega
    have f5 : c ≤ 591 := by omega
    simp [go_sem, IntWalk.iteOmega, IntWalk.toNatUp, hl, n1, n2, n3, m2, m3, f0, f1, f2, f3, f4, f5]
  · subst h
    have hl : letterOk 45 = true := rfl
    simp [go_sem, IntWalk.iteOmega, IntWalk.toNatUp, hl]
  · have hl : letterOk c = false := by simp [letterOk]; omega
    have n1 : (c == 45) = false := by simp; omega
    have n2 : (c == 215) = false := by simp; omega
    have n3 : (c == 247) = false := by simp; omega
    have m2 : (c != 215) = true := by simp; omega
    have m3 : (c != 247) = true := by simp; omega
    have f0 : ¬ 48 ≤ c := by omega
    have f1 : c ≤ 57 := by omega
    have f2 : ¬ 97 ≤ c := by omega
    have f3 : c ≤ 122 := by omega
    have f4 : ¬ 192 ≤ c := by omega
    have f5 : c ≤ 591 := by omega
    simp [go_sem, IntWalk.iteOmega, IntWalk.toNatUp, hl, n1, n2, n3, m2, m3, f0, f1, f2, f3, f4, f5]
  · have hl : letterOk c = true := by simp [letterOk]; omega
    have n1 : (c == 45) = false := by simp; omega
    have n2 : (c == 215) = false := by simp; omega
    have n3 : (c == 247) = false := by simp; omega
    have m2 : (c != 215) = true := by simp; omega
    have m3 : (c != 247) = true := by simp; omega
    have f0 : 48 ≤ c := by omega
    have f1 : c ≤ 57 := by omega
    have f2 : ¬ 97 ≤ c := by omega
    have f3 : c ≤ 122 := by omega
    have f4 : ¬ 192 ≤ c := by omega
    have f5 : c ≤ 591 := by omega
    simp [go_sem, IntWalk.iteOmega, IntWalk.toNatUp, hl, n1, n2, n3, m2, m3, f0, f1, f2, f3, f4, f5]
  · have hl : letterOk c = false := by simp [letterOk]; omega
    have n1 : (c == 45) = false := by simp; omega
    have n2 : (c == 215) = false := by simp; omega
    have n3 : (c == 247) = false := by simp; omega
    have m2 : (c != 215) = true := by simp; omega
    have m3 : (c != 247) = true := by simp; omega
    have f0 : 48 ≤ c := by omega
    have f1 : ¬ c ≤ 57 := by omega
    have f2 : ¬ 97 ≤ c := by omega
    have f3 : c ≤ 122 := by omega
    have f4 : ¬ 192 ≤ c := by omega
    have f5 : c ≤ 591 := by omega
    simp [go_sem, IntWalk.iteOmega, IntWalk.toNatUp, hl, n1, n2, n3, m2, m3, f0, f1, f2, f3, f4, f5]
  · have hl : letterOk c = true := by simp [letterOk]; omega
    have n1 : (c == 45) = false := by simp; omega
    have n2 : (c == 215) = false := by simp; omega
    have n3 : (c == 247) = false := by simp; omega
    have m2 : (c != 215) = true := by simp; omega
    have m3 : (c != 247) = true := by simp; omega
    have f0 : 48 ≤ c := by omega
    have f1 : ¬ c ≤ 57 := by omega
    have f2 : 97 ≤ c := by omega
    have f3 : c ≤ 122 := by omega
    have f4 : ¬ 192 ≤ c := by omega
    have f5 : c ≤ 591 := by omega
    simp [go_sem, IntWalk.iteOmega, IntWalk.toNatUp, hl, n1, n2, n3, m2, m3, f0, f1, f2, f3, f4, f5]
  · have hl : letterOk c = false := by simp [letterOk]; omega
    have n1 : (c == 45) = false := by simp; omega
    have n2 : (c == 215) = false := by simp; omega
    have n3 : (c == 247) = false := by simp; omega
    have m2 : (c != 215) = true := by simp; omega
    have m3 : (c != 247) = true := by simp; omega
    have f0 : 48 ≤ c := by omega
    have f1 : ¬ c ≤ 57 := by omega
    have f2 : 97 ≤ c := by omega
    have f3 : ¬ c ≤ 122 := by omega
    have f4 : ¬ 192 ≤ c := by omega
    have f5 : c ≤ 591 := by omega
    simp [go_sem, IntWalk.iteOmega, IntWalk.toNatUp, hl, n1, n2, n3, m2, m3, f0, f1, f2, f3, f4, f5]
  · have hl : letterOk c = true := by simp [letterOk]; omega
    have n1 : (c == 45) = false := by simp; omega
    have n2 : (c == 215) = false := by simp; omega
    have n3 : (c == 247) = false := by simp; omega
    have m2 : (c != 215) = true := by simp; omega
    have m3 : (c != 247) = true := by simp; omega
    have f0 : 48 ≤ c := by omega
    have f1 : ¬ c ≤ 57 := by omega
    have f2 : 97 ≤ c := by omega
    have f3 : ¬ c ≤ 122 := by omega
    have f4 : 192 ≤ c := by omega
    have f5 : c ≤ 591 := by omega
    simp [go_sem, IntWalk.iteOmega, IntWalk.toNatUp, hl, n1, n2, n3, m2, m3, f0, f1, f2, f3, f4, f5]
  · subst h
    have hl : letterOk 215 = false := rfl
    simp [go_sem, IntWalk.iteOmega, IntWalk.toNatUp, hl]
  · have hl : letterOk c = true := by simp [letterOk]; omega
    have n1 : (c == 45) = false := by simp; omega
    have n2 : (c == 215) = false := by simp; omega
    have n3 : (c == 247) = false := by simp; omega
    have m2 : (c != 215) = true := by simp; omega
    have m3 : (c != 247) = true := by simp; omega
    have f0 : 48 ≤ c := by omega
    have f1 : ¬ c ≤ 57 := by omega
    have f2 : 97 ≤ c := by omega
    have f3 : ¬ c ≤ 122 := by omega
    have f4 : 192 ≤ c := by omega
    have f5 : c ≤ 591 := by omega
    simp [go_sem, IntWalk.iteOmega, IntWalk.toNatUp, hl, n1, n2, n3, m2, m3, f0, f1, f2, f3, f4, f5]
  · subst h
    have hl : letterOk 247 = false := rfl
    simp [go_sem, IntWalk.iteOmega, IntWalk.toNatUp, hl]
  · have hl : letterOk c = true := by simp [letterOk]; omega
    have n1 : (c == 45) = false := by simp; omega
    have n2 : (c == 215) = false := by simp; omega
    have n3 : (c == 247) = false := by simp; omega
    have m2 : (c != 215) = true := by simp; omega
    have m3 : (c != 247) = true := by simp; omega
    have f0 : 48 ≤ c := by omega
    have f1 : ¬ c ≤ 57 := by omega
    have f2 : 97 ≤ c := by omega
    have f3 : ¬ c ≤ 122 := by omega
    have f4 : 192 ≤ c := by omega
    have f5 : c ≤ 591 := by omega
    simp [go_sem, IntWalk.iteOmega, IntWalk.toNatUp, hl, n1, n2, n3, m2, m3, f0, f1, f2, f3, f4, f5]
  · have hl : letterOk c = false := by simp [letterOk]; omega
    have n1 : (c == 45) = false := by simp; omega
    have n2 : (c == 215) = false := by simp; omega
    have n3 : (c == 247) = false := by simp; omega
    have m2 : (c != 215) = true := by simp; omega
    have m3 : (c != 247) = true := by simp; omega
    have f0 : 48 ≤ c := by omega
    have f1 : ¬ c ≤ 57 := by omega
    have f2 : 97 ≤ c := by omega
    have f3 : ¬ c ≤ 122 := by omega
    have f4 : 192 ≤ c := by omega
    have f5 : ¬ c ≤ 591 := by omega
    simp [go_sem, IntWalk.iteOmega, IntWalk.toNatUp, hl, n1, n2, n3, m2, m3, f0, f1, f2, f3, f4, f5]
theorem noinit_letter : Tryd.prog.inits.idxOf? 35 = none := by kernel_rfl
theorem noinit_rletter : Tryd.prog.inits.idxOf? 39 = none := by kernel_rfl
theorem vrunes_any (s : ByteArray) (hs : s.size ≤ 9223372036854775807) (w : World) : callE Tryd.prog 17 #[.string s] w fun v w' => v = .int .i64 (runes s).length ∧ Below w.heap.size w w' := by
  have hr := fun w => run_range_str (P := Tryd.prog) (w := w) undS s
  refine calls_E Tryd.func17 rfl rfl rfl (Nat.le_of_ble_eq_true rfl) ?_
  simp [go_sem, IntWalk.iteOmega, IntWalk.toNatUp, hr]
  refine W_loop (fun st wr => ∃ i n : Nat, st 5 = .pointer (some ⟨w.heap.size, 0, none⟩) ∧ st 3 = .int .i64 n ∧ It wr w.heap.size s i ∧ n + (runesAt s i).length = (runes s).length ∧ n ≤ i ∧ Below w.heap.size w wr) (fun st _ => ((runes s).length - (intOf (st 3)).toNat)) ?_ ?_
  · exact ⟨0, 0, by simp [go_sem], by simp [go_sem], It_made w s, by simp [runes], by omega, ext_alloc _ _⟩
  · rintro st wr ⟨i, n, e5, e3, hit, hn, hni, hbw⟩
    by_cases hlt : i < s.size
    · have hw := width_pos s i
      have hx := run_next_str (P := Tryd.prog) hit
      have hnx := runesAt_next hlt
      rw [hnx] at hn
      simp only [List.length_cons] at hn
      simp [go_sem, IntWalk.iteOmega, IntWalk.toNatUp, e5, e3, hx, hlt]
      refine roundEnd.mk ⟨i + (Utf8.decode s i).2, n + 1, by simp [go_sem, e5], by simp [go_sem], hit.put _, by omega, by omega, Below.itPut hbw (Nat.le_refl _) _⟩ ?_
      simp [go_sem, intOf]; omega
    · have hx := run_next_end (P := Tryd.prog) hit
      have hnx := runesAt_end hlt
      rw [hnx] at hn
      simp only [List.length_nil, Nat.add_zero] at hn
      simp [go_sem, IntWalk.iteOmega, IntWalk.toNatUp, e5, e3, hx, hlt]
      exact ⟨by omega, hbw⟩
theorem rrunes_any (s : ByteArray) (hs : s.size ≤ 9223372036854775807) (w : World) : callE Tryd.prog 38 #[.string s] w fun v w' => v = .int .i64 (runes s).length ∧ Below w.heap.size w w' := by
  have hr := fun w => run_range_str (P := Tryd.prog) (w := w) undS s
  refine calls_E Tryd.func38 rfl rfl rfl (Nat.le_of_ble_eq_true rfl) ?_
  simp [go_sem, IntWalk.iteOmega, IntWalk.toNatUp, hr]
  refine W_loop (fun st wr => ∃ i n : Nat, st 5 = .pointer (some ⟨w.heap.size, 0, none⟩) ∧ st 3 = .int .i64 n ∧ It wr w.heap.size s i ∧ n + (runesAt s i).length = (runes s).length ∧ n ≤ i ∧ Below w.heap.size w wr) (fun st _ => ((runes s).length - (intOf (st 3)).toNat)) ?_ ?_
  · exact ⟨0, 0, by simp [go_sem], by simp [go_sem], It_made w s, by simp [runes], by omega, ext_alloc _ _⟩
  · rintro st wr ⟨i, n, e5, e3, hit, hn, hni, hbw⟩
    by_cases hlt : i < s.size
    · have hw := width_pos s i
      have hx := run_next_str (P := Tryd.prog) hit
      have hnx := runesAt_next hlt
      rw [hnx] at hn
      simp only [List.length_cons] at hn
      simp [go_sem, IntWalk.iteOmega, IntWalk.toNatUp, e5, e3, hx, hlt]
      refine roundEnd.mk ⟨i + (Utf8.decode s i).2, n + 1, by simp [go_sem, e5], by simp [go_sem], hit.put _, by omega, by omega, Below.itPut hbw (Nat.le_refl _) _⟩ ?_
      simp [go_sem, intOf]; omega
    · have hx := run_next_end (P := Tryd.prog) hit
      have hnx := runesAt_end hlt
      rw [hnx] at hn
      simp only [List.length_nil, Nat.add_zero] at hn
      simp [go_sem, IntWalk.iteOmega, IntWalk.toNatUp, e5, e3, hx, hlt]
      exact ⟨by omega, hbw⟩
end Go.Proofs.YtoabdejoabfbeaaDoor
