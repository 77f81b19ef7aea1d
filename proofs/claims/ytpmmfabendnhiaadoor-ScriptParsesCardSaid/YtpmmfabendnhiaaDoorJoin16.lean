/-
  Texts joined: PRunes, PName, PRows.
-/
import Derived.Test.YtpmmfabendnhiaaDoorJoin15
import Derived.Test.YtpmmfabendnhiaaDoorProg
namespace Go.Proofs.YtpmmfabendnhiaaDoor
open Go.RowKit
set_option linter.unusedVariables false
set_option linter.unusedSimpArgs false
set_option maxRecDepth 10000
def letterOk (c : Int) : Bool := decide ((48 ≤ c ∧ c ≤ 57) ∨ (97 ≤ c ∧ c ≤ 122) ∨ c = 45 ∨ (192 ≤ c ∧ c ≤ 591 ∧ c ≠ 215 ∧ c ≠ 247))
set_option maxHeartbeats 3200000 in
theorem letter_runs (c : Int) (w : World) : Runs Tryd.prog 72 #[.int .i32 c] w (.bool (letterOk c)) w := by
  refine runs_of_callE ?_
  have hp : (c < 45) ∨ (c = 45) ∨ (46 ≤ c ∧ c ≤ 47) ∨ (48 ≤ c ∧ c ≤ 57) ∨ (58 ≤ c ∧ c ≤ 96) ∨ (97 ≤ c ∧ c ≤ 122) ∨ (123 ≤ c ∧ c ≤ 191) ∨ (192 ≤ c ∧ c ≤ 214) ∨ (c = 215) ∨ (216 ≤ c ∧ c ≤ 246) ∨ (c = 247) ∨ (248 ≤ c ∧ c ≤ 591) ∨ (592 ≤ c) := by omega
  refine calls_E Tryd.func72 rfl rfl rfl (Nat.le_of_ble_eq_true rfl) ?_
  rcases hp with h | h | h | h | h | h | h | h | h | h | h | h | h
  · have hl : letterOk c = false := by simp [letterOk]; omega
    have n1 : (c == 45) = false := by simp; omega
    have n2 : (c == 215) = false := by simp; omega
    have n3 : (c == 247) = false := by simp; omega
    have m2 : (c != 215) = true := by simp; omega
    have m3 : (c != 247) = true := by simp; omega
    have f0 : ¬ 48 ≤ c := by omega
    have f1 : c ≤ 57 := by omega
    have f2 : ¬ 97 ≤ c := by omega
    have f3 : c ≤ 122 := by omega
    have f4 : ¬ 192 ≤ c := by omega
    have f5 : c ≤ 591 := by omega
    simp [go_sem, IntWalk.iteOmega, IntWalk.toNatUp, hl, n1, n2, n3, m2, m3, f0, f1, f2, f3, f4, f5]
  · subst h
    have hl : letterOk 45 = true := rfl
    simp [go_sem, IntWalk.iteOmega, IntWalk.toNatUp, hl]
  · have hl : letterOk c = false := by simp [letterOk]; omega
    have n1 : (c == 45) = false := by simp; omega
    have n2 : (c == 215) = false := by simp; omega
    have n3 : (c == 247) = false := by simp; omega
    have m2 : (c != 215) = true := by simp; omega
    have m3 : (c != 247) = true := by simp; omega
    have f0 : ¬ 48 ≤ c := by omega
    have f1 : c ≤ 57 := by omega
    have f2 : ¬ 97 ≤ c := by omega
    have f3 : c ≤ 122 := by omega
    have f4 : ¬ 192 ≤ c := by omega
    have f5 : c ≤ 591 := by omega
    simp [go_sem, IntWalk.iteOmega, IntWalk.toNatUp, hl, n1, n2, n3, m2, m3, f0, f1, f2, f3, f4, f5]
  · have hl : letterOk c = true := by simp [letterOk]; omega
    have n1 : (c == 45) = false := by simp; omega
    have n2 : (c == 215) = false := by simp; omega
    have n3 : (c == 247) = false := by simp; omega
    have m2 : (c != 215) = true := by simp; omega
    have m3 : (c != 247) = true := by simp; omega
    have f0 : 48 ≤ c := by omega
    have f1 : c ≤ 57 := by omega
    have f2 : ¬ 97 ≤ c := by omega
    have f3 : c ≤ 122 := by omega
    have f4 : ¬ 192 ≤ c := by omega
    have f5 : c ≤ 591 := by omega
    simp [go_sem, IntWalk.iteOmega, IntWalk.toNatUp, hl, n1, n2, n3, m2, m3, f0, f1, f2, f3, f4, f5]
  · have hl : letterOk c = false := by simp [letterOk]; omega
    have n1 : (c == 45) = false := by simp; omega
    have n2 : (c == 215) = false := by simp; omega
    have n3 : (c == 247) = false := by simp; omega
    have m2 : (c != 215) = true := by simp; omega
    have m3 : (c != 247) = true := by simp; omega
    have f0 : 48 ≤ c := by omega
    have f1 : ¬ c ≤ 57 := by omega
    have f2 : ¬ 97 ≤ c := by omega
    have f3 : c ≤ 122 := by omega
    have f4 : ¬ 192 ≤ c := by omega
    have f5 : c ≤ 591 := by omega
    simp [go_sem, IntWalk.iteOmega, IntWalk.toNatUp, hl, n1, n2, n3, m2, m3, f0, f1, f2, f3, f4, f5]
  · have hl : letterOk c = true := by simp [letterOk]; omega
    have n1 : (c == 45) = false := by simp; omega
    have n2 : (c == 215) = false := by simp; omega
    have n3 : (c == 247) = false := by simp; omega
    have m2 : (c != 215) = true := by simp; omega
    have m3 : (c != 247) = true := by simp; omega
    have f0 : 48 ≤ c := by omega
    have f1 : ¬ c ≤ 57 := by omega
    have f2 : 97 ≤ c := by omega
    have f3 : c ≤ 122 := by omega
    have f4 : ¬ 192 ≤ c := by omega
    have f5 : c ≤ 591 := by omega
    simp [go_sem, IntWalk.iteOmega, IntWalk.toNatUp, hl, n1, n2, n3, m2, m3, f0, f1, f2, f3, f4, f5]
  · have hl : letterOk c = false := by simp [letterOk]; omega
    have n1 : (c == 45) = false := by simp; omega
    have n2 : (c == 215) = false := by simp; omega
    have n3 : (c == 247) = false := by simp; omega
    have m2 : (c != 215) = true := by simp; omega
    have m3 : (c != 247) = true := by simp; omega
    have f0 : 48 ≤ c := by omega
    have f1 : ¬ c ≤ 57 := by omega
    have f2 : 97 ≤ c := by omega
    have f3 : ¬ c ≤ 122 := by omega
    have f4 : ¬ 192 ≤ c := by omega
    have f5 : c ≤ 591 := by omega
    simp [go_sem, IntWalk.iteOmega, IntWalk.toNatUp, hl, n1, n2, n3, m2, m3, f0, f1, f2, f3, f4, f5]
  · have hl : letterOk c = true := by simp [letterOk]; omega
    have n1 : (c == 45) = false := by simp; omega
    have n2 : (c == 215) = false := by simp; omega
    have n3 : (c == 247) = false := by simp; omega
    have m2 : (c != 215) = true := by simp; omega
    have m3 : (c != 247) = true := by simp; omega
    have f0 : 48 ≤ c := by omega
    have f1 : ¬ c ≤ 57 := by omega
    have f2 : 97 ≤ c := by omega
    have f3 : ¬ c ≤ 122 := by omega
    have f4 : 192 ≤ c := by omega
    have f5 : c ≤ 591 := by omega
    simp [go_sem, IntWalk.iteOmega, IntWalk.toNatUp, hl, n1, n2, n3, m2, m3, f0, f1, f2, f3, f4, f5]
  · subst h
    have hl : letterOk 215 = false := rfl
    simp [go_sem, IntWalk.iteOmega, IntWalk.toNatUp, hl]
  · have hl : letterOk c = true := by simp [letterOk]; omega
    have n1 : (c == 45) = false := by simp; omega
    have n2 : (c == 215) = false := by simp; omega
    have n3 : (c == 247) = false := by simp; omega
    have m2 : (c != 215) = true := by simp; omega
    have m3 : (c != 247) = true := by simp; omega
    have f0 : 48 ≤ c := by omega
    have f1 : ¬ c ≤ 57 := by omega
    have f2 : 97 ≤ c := by omega
    have f3 : ¬ c ≤ 122 := by omega
    have f4 : 192 ≤ c := by omega
    have f5 : c ≤ 591 := by omega
    simp [go_sem, IntWalk.iteOmega, IntWalk.toNatUp, hl, n1, n2, n3, m2, m3, f0, f1, f2, f3, f4, f5]
  · subst h
    have hl : letterOk 247 = false := rfl
    simp [go_sem, IntWalk.iteOmega, IntWalk.toNatUp, hl]
  · have hl : letterOk c = true := by simp [letterOk]; omega
    have n1 : (c == 45) = false := by simp; omega
    have n2 : (c == 215) = false := by simp; omega
    have n3 : (c == 247) = false := by simp; omega
    have m2 : (c != 215) = true := by simp; omega
    have m3 : (c != 247) = true := by simp; omega
    have f0 : 48 ≤ c := by omega
    have f1 : ¬ c ≤ 57 := by omega
    have f2 : 97 ≤ c := by omega
    have f3 : ¬ c ≤ 122 := by omega
    have f4 : 192 ≤ c := by omega
    have f5 : c ≤ 591 := by omega
    simp [go_sem, IntWalk.iteOmega, IntWalk.toNatUp, hl, n1, n2, n3, m2, m3, f0, f1, f2, f3, f4, f5]
  · have hl : letterOk c = false := by simp [letterOk]; omega
    have n1 : (c == 45) = false := by simp; omega
    have n2 : (c == 215) = false := by simp; omega
    have n3 : (c == 247) = false := by simp; omega
    have m2 : (c != 215) = true := by simp; omega
    have m3 : (c != 247) = true := by simp; omega
    have f0 : 48 ≤ c := by omega
    have f1 : ¬ c ≤ 57 := by omega
    have f2 : 97 ≤ c := by omega
    have f3 : ¬ c ≤ 122 := by omega
    have f4 : 192 ≤ c := by omega
    have f5 : ¬ c ≤ 591 := by omega
    simp [go_sem, IntWalk.iteOmega, IntWalk.toNatUp, hl, n1, n2, n3, m2, m3, f0, f1, f2, f3, f4, f5]
set_option maxHeartbeats 3200000 in
theorem rletter_runs (c : Int) (w : World) : Runs Tryd.prog 55 #[.int .i32 c] w (.bool (letterOk c)) w := by
  refine runs_of_callE ?_
  have hp : (c < 45) ∨ (c = 45) ∨ (46 ≤ c ∧ c ≤ 47) ∨ (48 ≤ c ∧ c ≤ 57) ∨ (58 ≤ c ∧ c ≤ 96) ∨ (97 ≤ c ∧ c ≤ 122) ∨ (123 ≤ c ∧ c ≤ 191) ∨ (192 ≤ c ∧ c ≤ 214) ∨ (c = 215) ∨ (216 ≤ c ∧ c ≤ 246) ∨ (c = 247) ∨ (248 ≤ c ∧ c ≤ 591) ∨ (592 ≤ c) := by omega
  refine calls_E Tryd.func55 rfl rfl rfl (Nat.le_of_ble_eq_true rfl) ?_
  rcases hp with h | h | h | h | h | h | h | h | h | h | h | h | h
  · have hl : letterOk c = false := by simp [letterOk]; omega
    have n1 : (c == 45) = false := by simp; omega
    have n2 : (c == 215) = false := by simp; omega
    have n3 : (c == 247) = false := by simp; omega
    have m2 : (c != 215) = true := by simp; omega
    have m3 : (c != 247) = true := by simp; omega
    have f0 : ¬ 48 ≤ c := by omega
    have f1 : c ≤ 57 := by omega
    have f2 : ¬ 97 ≤ c := by omega
    have f3 : c ≤ 122 := by omega
    have f4 : ¬ 192 ≤ c := by omega
    have f5 : c ≤ 591 := by omega
    simp [go_sem, IntWalk.iteOmega, IntWalk.toNatUp, hl, n1, n2, n3, m2, m3, f0, f1, f2, f3, f4, f5]
  · subst h
    have hl : letterOk 45 = true := rfl
    simp [go_sem, IntWalk.iteOmega, IntWalk.toNatUp, hl]
  · have hl : letterOk c = false := by simp [letterOk]; omega
    have n1 : (c == 45) = false := by simp; omega
    have n2 : (c == 215) = false := by simp; omega
    have n3 : (c == 247) = false := by simp; omega
    have m2 : (c != 215) = true := by simp; omega
    have m3 : (c != 247) = true := by simp; omega
    have f0 : ¬ 48 ≤ c := by omega
    have f1 : c ≤ 57 := by omega
    have f2 : ¬ 97 ≤ c := by omega
    have f3 : c ≤ 122 := by omega
    have f4 : ¬ 192 ≤ c := by omega
    have f5 : c ≤ 591 := by omega
    simp [go_sem, IntWalk.iteOmega, IntWalk.toNatUp, hl, n1, n2, n3, m2, m3, f0, f1, f2, f3, f4, f5]
  · have hl : letterOk c = true := by simp [letterOk]; omega
    have n1 : (c == 45) = false := by simp; omega
    have n2 : (c == 215) = false := by simp; omega
    have n3 : (c == 247) = false := by simp; omega
    have m2 : (c != 215) = true := by simp; omega
    have m3 : (c != 247) = true := by simp; omega
    have f0 : 48 ≤ c := by omega
    have f1 : c ≤ 57 := by omega
    have f2 : ¬ 97 ≤ c := by omega
    have f3 : c ≤ 122 := by omega
    have f4 : ¬ 192 ≤ c := by omega
    have f5 : c ≤ 591 := by omega
    simp [go_sem, IntWalk.iteOmega, IntWalk.toNatUp, hl, n1, n2, n3, m2, m3, f0, f1, f2, f3, f4, f5]
  · have hl : letterOk c = false := by simp [letterOk]; omega
    have n1 : (c == 45) = false := by simp; omega
    have n2 : (c == 215) = false := by simp; omega
    have n3 : (c == 247) = false := by simp; omega
    have m2 : (c != 215) = true := by simp; omega
    have m3 : (c != 247) = true := by simp; omega
    have f0 : 48 ≤ c := by omega
    have f1 : ¬ c ≤ 57 := by omega
    have f2 : ¬ 97 ≤ c := by omega
    have f3 : c ≤ 122 := by omega
    have f4 : ¬ 192 ≤ c := by omega
    have f5 : c ≤ 591 := by omega
    simp [go_sem, IntWalk.iteOmega, IntWalk.toNatUp, hl, n1, n2, n3, m2, m3, f0, f1, f2, f3, f4, f5]
  · have hl : letterOk c = true := by simp [letterOk]; omega
    have n1 : (c == 45) = false := by simp; omega
    have n2 : (c == 215) = false := by simp; omega
    have n3 : (c == 247) = false := by simp; omega
    have m2 : (c != 215) = true := by simp; omega
    have m3 : (c != 247) = true := by simp; omega
    have f0 : 48 ≤ c := by omega
    have f1 : ¬ c ≤ 57 := by omega
    have f2 : 97 ≤ c := by omega
    have f3 : c ≤ 122 := by omega
    have f4 : ¬ 192 ≤ c := by omega
    have f5 : c ≤ 591 := by omega
    simp [go_sem, IntWalk.iteOmega, IntWalk.toNatUp, hl, n1, n2, n3, m2, m3, f0, f1, f2, f3, f4, f5]
  · have hl : letterOk c = false := by simp [letterOk]; omega
    have n1 : (c == 45) = false := by simp; omega
    have n2 : (c == 215) = false := by simp; omega
    have n3 : (c == 247) = false := by simp; omega
    have m2 : (c != 215) = true := by simp; omega
    have m3 : (c != 247) = true := by simp; omega
    have f0 : 48 ≤ c := by omega
    have f1 : ¬ c ≤ 57 := by omega
    have f2 : 97 ≤ c := by omega
    have f3 : ¬ c ≤ 122 := by omega
    have f4 : ¬ 192 ≤ c := by omega
    have f5 : c ≤ 591 := by omega
    simp [go_sem, IntWalk.iteOmega, IntWalk.toNatUp, hl, n1, n2, n3, m2, m3, f0, f1, f2, f3, f4, f5]
  · have hl : letterOk c = true := by simp [letterOk]; omega
    have n1 : (c == 45) = false := by simp; omega
    have n2 : (c == 215) = false := by simp; omega
    have n3 : (c == 247) = false := by simp; omega
    have m2 : (c != 215) = true := by simp; omega
    have m3 : (c != 247) = true := by simp; omega
    have f0 : 48 ≤ c := by omega
    have f1 : ¬ c ≤ 57 := by omega
    have f2 : 97 ≤ c := by omega
    have f3 : ¬ c ≤ 122 := by omega
    have f4 : 192 ≤ c := by omega
    have f5 : c ≤ 591 := by omega
    simp [go_sem, IntWalk.iteOmega, IntWalk.toNatUp, hl, n1, n2, n3, m2, m3, f0, f1, f2, f3, f4, f5]
  · subst h
    have hl : letterOk 215 = false := rfl
    simp [go_sem, IntWalk.iteOmega, IntWalk.toNatUp, hl]
  · have hl : letterOk c = true := by simp [letterOk]; omega
    have n1 : (c == 45) = false := by simp; omega
    have n2 : (c == 215) = false := by simp; omega
    have n3 : (c == 247) = false := by simp; omega
    have m2 : (c != 215) = true := by simp; omega
    have m3 : (c != 247) = true := by simp; omega
    have f0 : 48 ≤ c := by omega
    have f1 : ¬ c ≤ 57 := by omega
    have f2 : 97 ≤ c := by omega
    have f3 : ¬ c ≤ 122 := by omega
    have f4 : 192 ≤ c := by omega
    have f5 : c ≤ 591 := by omega
    simp [go_sem, IntWalk.iteOmega, IntWalk.toNatUp, hl, n1, n2, n3, m2, m3, f0, f1, f2, f3, f4, f5]
  · subst h
    have hl : letterOk 247 = false := rfl
    simp [go_sem, IntWalk.iteOmega, IntWalk.toNatUp, hl]
  · have hl : letterOk c = true := by simp [letterOk]; omega
    have n1 : (c == 45) = false := by simp; omega
    have n2 : (c == 215) = false := by simp; omega
    have n3 : (c == 247) = false := by simp; omega
    have m2 : (c != 215) = true := by simp; omega
    have m3 : (c != 247) = true := by simp; omega
    have f0 : 48 ≤ c := by omega
    have f1 : ¬ c ≤ 57 := by omega
    have f2 : 97 ≤ c := by omega
    have f3 : ¬ c ≤ 122 := by omega
    have f4 : 192 ≤ c := by omega
    have f5 : c ≤ 591 := by omega
    simp [go_sem, IntWalk.iteOmega, IntWalk.toNatUp, hl, n1, n2, n3, m2, m3, f0, f1, f2, f3, f4, f5]
  · have hl : letterOk c = false := by simp [letterOk]; omega
    have n1 : (c == 45) = false := by simp; omega
    have n2 : (c == 215) = false := by simp; omega
    have n3 : (c == 247) = false := by simp; omega
    have m2 : (c != 215) = true := by simp; omega
    have m3 : (c != 247) = true := by simp; omega
    have f0 : 48 ≤ c := by omega
    have f1 : ¬ c ≤ 57 := by omega
    have f2 : 97 ≤ c := by omega
    have f3 : ¬ c ≤ 122 := by omega
    have f4 : 192 ≤ c := by omega
    have f5 : ¬ c ≤ 591 := by omega
    simp [go_sem, IntWalk.iteOmega, IntWalk.toNatUp, hl, n1, n2, n3, m2, m3, f0, f1, f2, f3, f4, f5]
theorem noinit_letter : Tryd.prog.inits.idxOf? 72 = none := by kernel_rfl
theorem noinit_rletter : Tryd.prog.inits.idxOf? 55 = none := by kernel_rfl
theorem rrunes_any (s : ByteArray) (hs : s.size ≤ 9223372036854775807) (w : World) : callE Tryd.prog 54 #[.string s] w fun v w' => v = .int .i64 (runes s).length ∧ Below w.heap.size w w' := by
  have hr := fun w => run_range_str (P := Tryd.prog) (w := w) undS s
  refine calls_E Tryd.func54 rfl rfl rfl (Nat.le_of_ble_eq_true rfl) ?_
  simp [go_sem, IntWalk.iteOmega, IntWalk.toNatUp, hr]
  refine W_loop (fun st wr => ∃ i n : Nat, st 5 = .pointer (some ⟨w.heap.size, 0, none⟩) ∧ st 3 = .int .i64 n ∧ It wr w.heap.size s i ∧ n + (runesAt s i).length = (runes s).length ∧ n ≤ i ∧ Below w.heap.size w wr) (fun st _ => ((runes s).length - (intOf (st 3)).toNat)) ?_ ?_
  · exact ⟨0, 0, by simp [go_sem], by simp [go_sem], It_made w s, by simp [runes], by omega, ext_alloc _ _⟩
  · rintro st wr ⟨i, n, e5, e3, hit, hn, hni, hbw⟩
    by_cases hlt : i < s.size
    · have hw := width_pos s i
      have hx := run_next_str (P := Tryd.prog) hit
      have hnx := runesAt_next hlt
      rw [hnx] at hn
      simp only [List.length_cons] at hn
      simp [go_sem, IntWalk.iteOmega, IntWalk.toNatUp, e5, e3, hx, hlt]
      refine roundEnd.mk ⟨i + (Utf8.decode s i).2, n + 1, by simp [go_sem, e5], by simp [go_sem], hit.put _, by omega, by omega, Below.itPut hbw (Nat.le_refl _) _⟩ ?_
      simp [go_sem, intOf]; omega
    · have hx := run_next_end (P := Tryd.prog) hit
      have hnx := runesAt_end hlt
      rw [hnx] at hn
      simp only [List.length_nil, Nat.add_zero] at hn
      simp [go_sem, IntWalk.iteOmega, IntWalk.toNatUp, e5, e3, hx, hlt]
      exact ⟨by omega, hbw⟩
end Go.Proofs.YtpmmfabendnhiaaDoor
namespace Go.Proofs.YtpmmfabendnhiaaDoor
open Go.RowKit
set_option linter.unusedVariables false
set_option linter.unusedSimpArgs false
set_option maxRecDepth 10000
def nameOk (s : ByteArray) : Bool := decide (1 ≤ (runes s).length ∧ (runes s).length ≤ 16) && (runes s).all letterOk
def nameE (s : ByteArray) : Int := if nameOk s then 0 else 50
theorem name_bad {s : ByteArray} {c : Int} (h : c ∈ runes s) (hc : letterOk c = false) : nameE s = 50 := by
  have : (runes s).all letterOk = false := by
    rw [List.all_eq_false]
    exact ⟨c, h, by simp [hc]⟩
  simp [nameE, nameOk, this]
theorem name_long {s : ByteArray} (h : 16 < (runes s).length) : nameE s = 50 := by
  have : ¬ (1 ≤ (runes s).length ∧ (runes s).length ≤ 16) := by omega
  simp [nameE, nameOk, this]
theorem name_none {s : ByteArray} (h : (runes s).length = 0) : nameE s = 50 := by
  have : ¬ (1 ≤ (runes s).length ∧ (runes s).length ≤ 16) := by omega
  simp [nameE, nameOk, this]
theorem name_good {s : ByteArray} (h1 : 1 ≤ (runes s).length) (h2 : (runes s).length ≤ 16) (h : ∀ c ∈ runes s, letterOk c = true) : nameE s = 0 := by
  have e : (runes s).all letterOk = true := List.all_eq_true.2 h
  have : 1 ≤ (runes s).length ∧ (runes s).length ≤ 16 := ⟨h1, h2⟩
  simp [nameE, nameOk, e, this]
set_option maxHeartbeats 1600000 in
theorem vname_any (s : ByteArray) (hs : s.size ≤ 9223372036854775807) (w : World) : callE Tryd.prog 51 #[.string s] w fun v w' => v = .int .i64 (nameE s) ∧ Below w.heap.size w w' := by
  have hr := fun w => run_range_str (P := Tryd.prog) (w := w) undS s
  have hlet := fun c w k => callE_eq noinit_letter (letter_runs c w) k
  refine calls_E Tryd.func51 rfl rfl rfl (Nat.le_of_ble_eq_true rfl) ?_
  simp [go_sem, IntWalk.iteOmega, IntWalk.toNatUp, hr]
  refine W_loop (fun st wr => ∃ (i : Nat) (had : List Int), st 7 = .pointer (some ⟨w.heap.size, 0, none⟩) ∧ st 3 = .int .i64 had.length ∧ It wr w.heap.size s i ∧ had ++ runesAt s i = runes s ∧ had.length ≤ 16 ∧ (∀ c ∈ had, letterOk c = true) ∧ Below w.heap.size w wr) (fun st _ => ((runes s).length - (intOf (st 3)).toNat)) ?_ ?_
  · exact ⟨0, [], by simp [go_sem], by simp [go_sem], It_made w s, by simp [runes], by simp, by simp, ext_alloc _ _⟩
  · rintro st wr ⟨i, had, e7, e3, hit, hn, hl, hg, hbw⟩
    by_cases hlt : i < s.size
    · have hx := run_next_str (P := Tryd.prog) hit
      have hnx := runesAt_next hlt
      rw [hnx] at hn
      have hit2 := hit.put (i + (Utf8.decode s i).2)
      have hbw2 := Below.itPut hbw (Nat.le_refl _) (.stringIter s (i + (Utf8.decode s i).2))
      have hlen : (runes s).length = had.length + 1 + (runesAt s (i + (Utf8.decode s i).2)).length := by rw [← hn]; simp; omega
      generalize hc : ((Utf8.decode s i).1 : Int) = c at *
      have hmem : c ∈ runes s := by rw [← hn]; simp
      by_cases h16 : had.length = 16
      · have h16' : (16 : Int) < (had.length : Int) + 1 := by omega
        have he := name_long (s := s) (by omega)
        simp [go_sem, IntWalk.iteOmega, IntWalk.toNatUp, e7, e3, hx, hlt, h16', hc, he]
        exact hbw2
      · have h16' : ¬ (16 : Int) < (had.length : Int) + 1 := by omega
        cases hco : letterOk c with
        | false =>
          have he := name_bad hmem hco
          simp [go_sem, IntWalk.iteOmega, IntWalk.toNatUp, e7, e3, hx, hlt, h16', hc, hlet, hco, he]
          exact hbw2
        | true =>
          simp [go_sem, IntWalk.iteOmega, IntWalk.toNatUp, e7, e3, hx, hlt, h16', hc, hlet, hco]
          refine roundEnd.mk ⟨_, had ++ [c], by simp [go_sem, e7], by simp [go_sem], hit2, by simpa using hn, by simp; omega, fun d hd => ?_, hbw2⟩ ?_
          · rcases List.mem_append.1 hd with hd | hd
            · exact hg d hd
            · rw [List.mem_singleton.1 hd]; exact hco
          · simp [go_sem, intOf]; omega
    · have hx := run_next_end (P := Tryd.prog) hit
      rw [runesAt_end hlt, List.append_nil] at hn
      rw [hn] at hl hg e3
      by_cases h0 : (runes s).length = 0
      · have h0' : ((runes s).length : Int) = 0 := by omega
        have he := name_none h0
        have hz : (((runes s).length : Int) == 0) = true := by simp [h0']
        simp [go_sem, IntWalk.iteOmega, IntWalk.toNatUp, e7, e3, hx, hlt, hz, he]
        exact hbw
      · have he := name_good (by omega) hl hg
        have hz : (((runes s).length : Int) == 0) = false := by simp; intro e; rw [e] at h0; simp at h0
        simp [go_sem, IntWalk.iteOmega, IntWalk.toNatUp, e7, e3, hx, hlt, hz, he]
        exact hbw
theorem noinit_vname : Tryd.prog.inits.idxOf? 51 = none := by kernel_rfl
set_option maxHeartbeats 1600000 in
theorem rname_any (s : ByteArray) (hs : s.size ≤ 9223372036854775807) (w0 : World) : callE Tryd.prog 38 #[.string s] w0 fun v w' => v = .int .i64 (nameE s) ∧ Below w0.heap.size w0 w' := by
  have hr := fun w => run_range_str (P := Tryd.prog) (w := w) undS s
  have hlet := fun c w k => callE_eq noinit_rletter (rletter_runs c w) k
  refine calls_E Tryd.func38 rfl rfl rfl (Nat.le_of_ble_eq_true rfl) ?_
  simp [go_sem, IntWalk.iteOmega, IntWalk.toNatUp]
  refine callE_of (rrunes_any s hs w0) ?_
  rintro _ w ⟨rfl, k0⟩
  by_cases h1 : (runes s).length < 1
  · have h1' : ((runes s).length : Int) < 1 := by omega
    have he := name_none (s := s) (by omega)
    simp [go_sem, IntWalk.iteOmega, IntWalk.toNatUp, h1', he]
    exact k0
  · by_cases h2 : 16 < (runes s).length
    · have h1' : ¬ ((runes s).length : Int) < 1 := by omega
      have h2' : (16 : Int) < (runes s).length := by omega
      have he := name_long h2
      simp [go_sem, IntWalk.iteOmega, IntWalk.toNatUp, h1', h2', he]
      exact k0
    · have h1' : ¬ ((runes s).length : Int) < 1 := by omega
      have h2' : ¬ (16 : Int) < (runes s).length := by omega
      simp [go_sem, IntWalk.iteOmega, IntWalk.toNatUp, h1', h2', hr]
      refine W_loop (fun st wr => ∃ (i : Nat) (had : List Int), st 15 = .pointer (some ⟨w.heap.size, 0, none⟩) ∧ It wr w.heap.size s i ∧ had ++ runesAt s i = runes s ∧ (∀ c ∈ had, letterOk c = true) ∧ Below w.heap.size w wr ∧ i ≤ i) (fun st wr => match wr.heap[w.heap.size]? with | some (.stringIter _ i) => (runesAt s i).length | _ => 0) ?_ ?_
      · exact ⟨0, [], by simp [go_sem], It_made w s, by simp [runes], by simp, ext_alloc _ _, Nat.le_refl _⟩
      · rintro st wr ⟨i, had, e15, hit, hn, hg, hbw, -⟩
        have hit' : wr.heap[w.heap.size]? = some (.stringIter s i) := hit
        by_cases hlt : i < s.size
        · have hx := run_next_str (P := Tryd.prog) hit
          have hnx := runesAt_next hlt
          have hm : (runesAt s i).length = (runesAt s (i + (Utf8.decode s i).2)).length + 1 := by rw [hnx]; simp
          rw [hnx] at hn
          have hit2 := hit.put (i + (Utf8.decode s i).2)
          have hit2' : (itPut wr w.heap.size (.stringIter s (i + (Utf8.decode s i).2))).heap[w.heap.size]? = some (.stringIter s (i + (Utf8.decode s i).2)) := hit2
          have hbw2 := Below.itPut hbw (Nat.le_refl _) (.stringIter s (i + (Utf8.decode s i).2))
          generalize hc : ((Utf8.decode s i).1 : Int) = c at *
          have hmem : c ∈ runes s := by rw [← hn]; simp
          cases hco : letterOk c with
          | false =>
            have he := name_bad hmem hco
            simp [go_sem, IntWalk.iteOmega, IntWalk.toNatUp, e15, hx, hlt, hc, hlet, hco, he]
            exact ext_trans k0 hbw2
          | true =>
            simp [go_sem, IntWalk.iteOmega, IntWalk.toNatUp, e15, hx, hlt, hc, hlet, hco]
            refine roundEnd.mk ⟨_, had ++ [c], by simp [go_sem, e15], hit2, by simpa using hn, fun d hd => ?_, hbw2, Nat.le_refl _⟩ ?_
            · rcases List.mem_append.1 hd with hd | hd
              · exact hg d hd
              · rw [List.mem_singleton.1 hd]; exact hco
            · simp only [hit2', hit']; omega
        · have hx := run_next_end (P := Tryd.prog) hit
          rw [runesAt_end hlt, List.append_nil] at hn
          rw [hn] at hg
          have he := name_good (by omega) (by omega) hg
          simp [go_sem, IntWalk.iteOmega, IntWalk.toNatUp, e15, hx, hlt, he]
          exact ext_trans k0 hbw
theorem noinit_rname : Tryd.prog.inits.idxOf? 38 = none := by kernel_rfl
end Go.Proofs.YtpmmfabendnhiaaDoor
namespace Go.Proofs.YtpmmfabendnhiaaDoor
open Go.RowKit
open Go.Lib (strCells byteCells decDigits)
set_option linter.unusedVariables false
set_option linter.unusedSimpArgs false
set_option maxRecDepth 10000
def vdrCells (l : List (List UInt8 × Nat)) : List Value := l.flatMap fun x => [.string (strOf x.1), .int .i64 (x.2 : Int)]
def intCells (l : List Nat) : List Value := l.map fun n : Nat => .int .i64 (n : Int)
def mvsCells (xs : List (Mv × Value × Value)) : List Value := xs.flatMap fun x => (mvCells x.1 x.2.1 x.2.2).toList
/-- the types of rows -/
def RowT (t : TypeId) : Prop := t = 67 ∨ t = 3 ∨ t = 5 ∨ t = 48 ∨ t = 53
structure RowsAt (B : Nat) (w : World) (S : PS) (ms : List Mv) (vv vb vf vm : Value) : Prop where
  vs : w.ownsRow B 67 2 vv S.vs.length (vdrCells S.vs)
  byz : w.ownsRow B 3 1 vb S.byz.length (intCells S.byz)
  first : w.ownsRow B 5 1 vf S.first.length (byteCells S.first)
  moves : ∃ xs : List (Mv × Value × Value), xs.map Prod.fst = ms ∧ w.ownsRow B 48 6 vm ms.length (mvsCells xs) ∧ ∀ x ∈ xs, MvO w B x.1 x.2.1 x.2.2
theorem row_blk {w : World} {B e size n j : Nat} {v : Value} {xs : List Value} (h : w.ownsRow B e size v n xs) (hj : v.ownBlock = some j) : ∃ cs, Blk w j e cs := by
  rcases h.2 with ⟨rfl, _⟩ | ⟨k, cap, cur, rfl, _, hk, _⟩
  · simp [Value.ownBlock] at hj
  · simp only [Value.ownBlock, Option.some.injEq] at hj
    subst hj
    exact ⟨cur, hk⟩
variable {B : Nat} {w w' : World} {S S' : PS} {ms : List Mv} {vv vb vf vm vv' vb' vf' vm' : Value}
theorem MvO.keeps {O : Nat → Prop} {m : Mv} {a b : Value} (h : MvO w B m a b) (hk : Keeps O w w') (hO : ∀ j t cs, Blk w j t cs → t = 5 ∨ t = 53 → O j) : MvO w' B m a b :=
  ⟨row_keeps h.1 hk fun j hj => by obtain ⟨cs, hc⟩ := row_blk h.1 hj; exact hO j _ cs hc (.inl rfl), row_keeps h.2 hk fun j hj => by obtain ⟨cs, hc⟩ := row_blk h.2 hj; exact hO j _ cs hc (.inr rfl)⟩
theorem MvO.below {m : Mv} {a b : Value} (h : MvO w B m a b) (hk : Below w.heap.size w w') : MvO w' B m a b := ⟨row_below h.1 hk, row_below h.2 hk⟩
theorem MvO.low {B' : Nat} {m : Mv} {a b : Value} (h : MvO w B m a b) (hb : B' ≤ B) : MvO w B' m a b := ⟨row_low h.1 hb, row_low h.2 hb⟩
theorem RowsAt.keeps {O : Nat → Prop} (h : RowsAt B w S ms vv vb vf vm) (hk : Keeps O w w') (hO : ∀ j t cs, Blk w j t cs → RowT t → O j) : RowsAt B w' S ms vv vb vf vm := by
  obtain ⟨xs, h1, h2, h3⟩ := h.moves
  refine ⟨row_keeps h.vs hk fun j hj => ?_, row_keeps h.byz hk fun j hj => ?_, row_keeps h.first hk fun j hj => ?_, xs, h1, row_keeps h2 hk fun j hj => ?_, fun x hx => (h3 x hx).keeps hk fun j t cs hb ht => hO j t cs hb ?_⟩
  · obtain ⟨cs, hc⟩ := row_blk h.vs hj; exact hO j _ cs hc (.inl rfl)
  · obtain ⟨cs, hc⟩ := row_blk h.byz hj; exact hO j _ cs hc (.inr (.inl rfl))
  · obtain ⟨cs, hc⟩ := row_blk h.first hj; exact hO j _ cs hc (.inr (.inr (.inl rfl)))
  · obtain ⟨cs, hc⟩ := row_blk h2 hj; exact hO j _ cs hc (.inr (.inr (.inr (.inl rfl))))
  · rcases ht with e | e
    · exact .inr (.inr (.inl e))
    · exact .inr (.inr (.inr (.inr e)))
theorem RowsAt.below (h : RowsAt B w S ms vv vb vf vm) (hk : Below w.heap.size w w') : RowsAt B w' S ms vv vb vf vm := h.keeps (Keeps.of_ext (O := fun _ => True) hk) fun _ _ _ _ _ => trivial
theorem Blk_ty {j : Nat} {t t' : TypeId} {cs cs' : Array Value} (h : Blk w j t cs) (h' : Blk w j t' cs') : t = t' := by
  unfold Blk at h h'
  rw [h] at h'
  injection h' with h'
  injection h' with _ h3 _
/-- a block of another type is turned -/
theorem RowsAt.far {g : Nat} {t : TypeId} {cs : Array Value} (h : RowsAt B w S ms vv vb vf vm) (hg : Blk w g t cs) (ht : ¬ RowT t) (hk : Keeps (fun j => j ≠ g) w w') : RowsAt B w' S ms vv vb vf vm :=
  h.keeps hk fun j t' cs' hb ht' e => by subst e; exact ht (Blk_ty hb hg ▸ ht')
theorem rowT_reading : ¬ RowT 60 := by unfold RowT; decide
theorem rowT_taker : ¬ RowT 77 := by unfold RowT; decide
theorem rowT_plan : ¬ RowT 39 := by unfold RowT; decide
/-- a validator is put behind the others -/
theorem RowsAt.vdr (h : RowsAt B w S ms vv vb vf vm) (nm : List UInt8) (wt : Nat) (hg : w.grownBy w' vv.ownBlock) (ho : w'.ownsRow B 67 2 vv' (S.vs.length + 1) (vdrCells S.vs ++ [.string (strOf nm), .int .i64 (wt : Int)])) : RowsAt B w' { S with vs := S.vs ++ [(nm, wt)] } ms vv' vb vf vm := by
  have hk : Keeps (fun j => vv.ownBlock ≠ some j) w w' := Keeps.grown hg fun k e h => h e
  obtain ⟨xs, h1, h2, h3⟩ := h.moves
  refine ⟨?_, row_keeps h.byz hk fun j hj => rows_ne h.byz h.vs (by decide) j hj, row_keeps h.first hk fun j hj => rows_ne h.first h.vs (by decide) j hj, xs, h1, row_keeps h2 hk fun j hj => rows_ne h2 h.vs (by decide) j hj, fun x hx => ⟨row_keeps (h3 x hx).1 hk fun j hj => rows_ne (h3 x hx).1 h.vs (by decide) j hj, row_keeps (h3 x hx).2 hk fun j hj => rows_ne (h3 x hx).2 h.vs (by decide) j hj⟩⟩
  simpa [vdrCells] using ho
theorem RowsAt.bz (h : RowsAt B w S ms vv vb vf vm) (i : Nat) (hg : w.grownBy w' vb.ownBlock) (ho : w'.ownsRow B 3 1 vb' (S.byz.length + 1) (intCells S.byz ++ [.int .i64 (i : Int)])) : RowsAt B w' { S with byz := S.byz ++ [i] } ms vv vb' vf vm := by
  have hk : Keeps (fun j => vb.ownBlock ≠ some j) w w' := Keeps.grown hg fun k e h => h e
  obtain ⟨xs, h1, h2, h3⟩ := h.moves
  refine ⟨row_keeps h.vs hk fun j hj => rows_ne h.vs h.byz (by decide) j hj, ?_, row_keeps h.first hk fun j hj => rows_ne h.first h.byz (by decide) j hj, xs, h1, row_keeps h2 hk fun j hj => rows_ne h2 h.byz (by decide) j hj, fun x hx => ⟨row_keeps (h3 x hx).1 hk fun j hj => rows_ne (h3 x hx).1 h.byz (by decide) j hj, row_keeps (h3 x hx).2 hk fun j hj => rows_ne (h3 x hx).2 h.byz (by decide) j hj⟩⟩
  simpa [intCells] using ho
/-- a move is put behind the others -/
theorem RowsAt.mv {m : Mv} {a b : Value} {xs : List (Mv × Value × Value)} (h : RowsAt B w S ms vv vb vf vm) (hx1 : xs.map Prod.fst = ms) (hx2 : w.ownsRow B 48 6 vm ms.length (mvsCells xs)) (hx3 : ∀ x ∈ xs, MvO w B x.1 x.2.1 x.2.2) (hm : MvO w B m a b) (hg : w.grownBy w' vm.ownBlock) (ho : w'.ownsRow B 48 6 vm' (ms.length + 1) (mvsCells xs ++ (mvCells m a b).toList)) : RowsAt B w' S (ms ++ [m]) vv vb vf vm' := by
  have hk : Keeps (fun j => vm.ownBlock ≠ some j) w w' := Keeps.grown hg fun k e h => h e
  have far : ∀ {y : Mv} {p q : Value}, MvO w B y p q → MvO w' B y p q := fun hy => ⟨row_keeps hy.1 hk fun j hj => rows_ne hy.1 hx2 (by decide) j hj, row_keeps hy.2 hk fun j hj => rows_ne hy.2 hx2 (by decide) j hj⟩
  refine ⟨row_keeps h.vs hk fun j hj => rows_ne h.vs hx2 (by decide) j hj, row_keeps h.byz hk fun j hj => rows_ne h.byz hx2 (by decide) j hj, row_keeps h.first hk fun j hj => rows_ne h.first hx2 (by decide) j hj, xs ++ [(m, a, b)], by simp [hx1], ?_, fun x hx => ?_⟩
  · simpa [mvsCells] using ho
  · rcases List.mem_append.1 hx with hx | hx
    · exact far (hx3 x hx)
    · rw [List.mem_singleton.1 hx]; exact far hm
theorem RowsAt.none0 (w : World) (B : Nat) : RowsAt B w PS0 [] (.slice none 0 0) (.slice none 0 0) (.slice none 0 0) (.slice none 0 0) :=
  ⟨World.ownsRow_nil _ _ _ _, World.ownsRow_nil _ _ _ _, World.ownsRow_nil _ _ _ _, [], rfl, World.ownsRow_nil _ _ _ _, fun x hx => by cases hx⟩
/-- The reader's own block and rows. -/
def RdgAt (B : Nat) (w : World) (rb : Nat) (S : PS) (ms : List Mv) (n : Nat) : Prop := ∃ vv vb vf vm, Blk w rb 60 (rdCells S.c S.now vv vb vf vm n) ∧ RowsAt B w S ms vv vb vf vm ∧ B ≤ rb
theorem RdgAt.below {rb n : Nat} (h : RdgAt B w rb S ms n) (hk : Below w.heap.size w w') : RdgAt B w' rb S ms n := by
  obtain ⟨vv, vb, vf, vm, h1, h2, h3⟩ := h
  exact ⟨vv, vb, vf, vm, h1.keep hk, h2.below hk, h3⟩
end Go.Proofs.YtpmmfabendnhiaaDoor
