/-
  Texts joined: VRunes, VName, VSet, VCheck, VTotal.
-/
import Derived.Test.YtmcbcoafodmbjaaGreatDoorJoin27
import Derived.Test.YtmcbcoafodmbjaaGreatDoorProg

/-
  How many runes a text has; whether a rune may stand in a name.
-/
namespace Go.Proofs.YtmcbcoafodmbjaaGreatDoor
open Go.RowKit
set_option linter.unusedVariables false
set_option linter.unusedSimpArgs false
set_option maxRecDepth 10000
theorem undS : Tryz.prog.underlying 9 = some .string := by kernel_rfl
def letterOk (c : Int) : Bool := decide ((48 ≤ c ∧ c ≤ 57) ∨ (97 ≤ c ∧ c ≤ 122) ∨ c = 45 ∨ (192 ≤ c ∧ c ≤ 591 ∧ c ≠ 215 ∧ c ≠ 247))
set_option maxHeartbeats 3200000 in
theorem letter_runs (c : Int) (w : World) : Runs Tryz.prog 129 #[.int .i32 c] w (.bool (letterOk c)) w := by
  refine runs_of_callE ?_
  have hp : (c < 45) ∨ (c = 45) ∨ (46 ≤ c ∧ c ≤ 47) ∨ (48 ≤ c ∧ c ≤ 57) ∨ (58 ≤ c ∧ c ≤ 96) ∨ (97 ≤ c ∧ c ≤ 122) ∨ (123 ≤ c ∧ c ≤ 191) ∨ (192 ≤ c ∧ c ≤ 214) ∨ (c = 215) ∨ (216 ≤ c ∧ c ≤ 246) ∨ (c = 247) ∨ (248 ≤ c ∧ c ≤ 591) ∨ (592 ≤ c) := by omega
  refine calls_E Tryz.func129 rfl rfl rfl (Nat.le_of_ble_eq_true rfl) ?_
  rcases hp with h | h | h | h | h | h | h | h | h | h | h | h | h
  · have hl : letterOk c = false := by simp [letterOk]; omega
    have n1 : (c == 45) = false := by simp; omega
    have n2 : (c == 215) = false := by simp; omega
    have n3 : (c == 247) = false := by simp; omega
    have m2 : (c != 215) = true := by simp; omega
    have m3 : (c != 247) = true := by simp; omega
    have f0 : ¬ 48 ≤ c := by omega
    have f1 : c ≤ 57 := by omega
    have f2 : ¬ 97 ≤ c := by omega
    have f3 : c ≤ 122 := by omega
    have f4 : ¬ 192 ≤ c := by omega
    have f5 : c ≤ 591 := by omega
    simp [go_sem, IntWalk.iteOmega, IntWalk.toNatUp, hl, n1, n2, n3, m2, m3, f0, f1, f2, f3, f4, f5]
  · subst h
    have hl : letterOk 45 = true := rfl
    simp [go_sem, IntWalk.iteOmega, IntWalk.toNatUp, hl]
  · have hl : letterOk c = false := by simp [letterOk]; omega
    have n1 : (c == 45) = false := by simp; omega
    have n2 : (c == 215) = false := by simp; omega
    have n3 : (c == 247) = false := by simp; omega
    have m2 : (c != 215) = true := by simp; omega
    have m3 : (c != 247) = true := by simp; omega
    have f0 : ¬ 48 ≤ c := by omega
    have f1 : c ≤ 57 := by omega
    have f2 : ¬ 97 ≤ c := by omega
    have f3 : c ≤ 122 := by omega
    have f4 : ¬ 192 ≤ c := by omega
    have f5 : c ≤ 591 := by omega
    simp [go_sem, IntWalk.iteOmega, IntWalk.toNatUp, hl, n1, n2, n3, m2, m3, f0, f1, f2, f3, f4, f5]
  · have hl : letterOk c = true := by simp [letterOk]; omega
    have n1 : (c == 45) = false := by simp; omega
    have n2 : (c == 215) = false := by simp; omega
    have n3 : (c == 247) = false := by simp; omega
    have m2 : (c != 215) = true := by simp; omega
    have m3 : (c != 247) = true := by simp; omega
    have f0 : 48 ≤ c := by omega
    have f1 : c ≤ 57 := by omega
    have f2 : ¬ 97 ≤ c := by omega
    have f3 : c ≤ 122 := by omega
    have f4 : ¬ 192 ≤ c := by omega
    have f5 : c ≤ 591 := by omega
    simp [go_sem, IntWalk.iteOmega, IntWalk.toNatUp, hl, n1, n2, n3, m2, m3, f0, f1, f2, f3, f4, f5]
  · have hl : letterOk c = false := by simp [letterOk]; omega
    have n1 : (c == 45) = false := by simp; omega
    have n2 : (c == 215) = false := by simp; omega
    have n3 : (c == 247) = false := by simp; omega
    have m2 : (c != 215) = true := by simp; omega
    have m3 : (c != 247) = true := by simp; omega
    have f0 : 48 ≤ c := by omega
    have f1 : ¬ c ≤ 57 := by omega
    have f2 : ¬ 97 ≤ c := by omega
    have f3 : c ≤ 122 := by omega
    have f4 : ¬ 192 ≤ c := by omega
    have f5 : c ≤ 591 := by omega
    simp [go_sem, IntWalk.iteOmega, IntWalk.toNatUp, hl, n1, n2, n3, m2, m3, f0, f1, f2, f3, f4, f5]
  · have hl : letterOk c = true := by simp [letterOk]; omega
    have n1 : (c == 45) = false := by simp; omega
    have n2 : (c == 215) = false := by simp; omega
    have n3 : (c == 247) = false := by simp; omega
    have m2 : (c != 215) = true := by simp; omega
    have m3 : (c != 247) = true := by simp; omega
    have f0 : 48 ≤ c := by omega
    have f1 : ¬ c ≤ 57 := by omega
    have f2 : 97 ≤ c := by omega
    have f3 : c ≤ 122 := by omega
    have f4 : ¬ 192 ≤ c := by omega
    have f5 : c ≤ 591 := by omega
    simp [go_sem, IntWalk.iteOmega, IntWalk.toNatUp, hl, n1, n2, n3, m2, m3, f0, f1, f2, f3, f4, f5]
  · have hl : letterOk c = false := by simp [letterOk]; omega
    have n1 : (c == 45) = false := by simp; omega
    have n2 : (c == 215) = false := by simp; omega
    have n3 : (c == 247) = false := by simp; omega
    have m2 : (c != 215) = true := by simp; omega
    have m3 : (c != 247) = true := by simp; omega
    have f0 : 48 ≤ c := by omega
    have f1 : ¬ c ≤ 57 := by omega
    have f2 : 97 ≤ c := by omega
    have f3 : ¬ c ≤ 122 := by omega
    have f4 : ¬ 192 ≤ c := by omega
    have f5 : c ≤ 591 := by omega
    simp [go_sem, IntWalk.iteOmega, IntWalk.toNatUp, hl, n1, n2, n3, m2, m3, f0, f1, f2, f3, f4, f5]
  · have hl : letterOk c = true := by simp [letterOk]; omega
    have n1 : (c == 45) = false := by simp; omega
    have n2 : (c == 215) = false := by simp; omega
    have n3 : (c == 247) = false := by simp; omega
    have m2 : (c != 215) = true := by simp; omega
    have m3 : (c != 247) = true := by simp; omega
    have f0 : 48 ≤ c := by omega
    have f1 : ¬ c ≤ 57 := by omega
    have f2 : 97 ≤ c := by omega
    have f3 : ¬ c ≤ 122 := by omega
    have f4 : 192 ≤ c := by omega
    have f5 : c ≤ 591 := by omega
    simp [go_sem, IntWalk.iteOmega, IntWalk.toNatUp, hl, n1, n2, n3, m2, m3, f0, f1, f2, f3, f4, f5]
  · subst h
    have hl : letterOk 215 = false := rfl
    simp [go_sem, IntWalk.iteOmega, IntWalk.toNatUp, hl]
  · have hl : letterOk c = true := by simp [letterOk]; omega
    have n1 : (c == 45) = false := by simp; omega
    have n2 : (c == 215) = false := by simp; omega
    have n3 : (c == 247) = false := by simp; omega
    have m2 : (c != 215) = true := by simp; omega
    have m3 : (c != 247) = true := by simp; omega
    have f0 : 48 ≤ c := by omega
    have f1 : ¬ c ≤ 57 := by omega
    have f2 : 97 ≤ c := by omega
    have f3 : ¬ c ≤ 122 := by omega
    have f4 : 192 ≤ c := by omega
    have f5 : c ≤ 591 := by omega
    simp [go_sem, IntWalk.iteOmega, IntWalk.toNatUp, hl, n1, n2, n3, m2, m3, f0, f1, f2, f3, f4, f5]
  · subst h
    have hl : letterOk 247 = false := rfl
    simp [go_sem, IntWalk.iteOmega, IntWalk.toNatUp, hl]
  · have hl : letterOk c = true := by simp [letterOk]; omega
    have n1 : (c == 45) = false := by simp; omega
    have n2 : (c == 215) = false := by simp; omega
    have n3 : (c == 247) = false := by simp; omega
    have m2 : (c != 215) = true := by simp; omega
    have m3 : (c != 247) = true := by simp; omega
    have f0 : 48 ≤ c := by omega
    have f1 : ¬ c ≤ 57 := by omega
    have f2 : 97 ≤ c := by omega
    have f3 : ¬ c ≤ 122 := by omega
    have f4 : 192 ≤ c := by omega
    have f5 : c ≤ 591 := by omega
    simp [go_sem, IntWalk.iteOmega, IntWalk.toNatUp, hl, n1, n2, n3, m2, m3, f0, f1, f2, f3, f4, f5]
  · have hl : letterOk c = false := by simp [letterOk]; omega
    have n1 : (c == 45) = false := by simp; omega
    have n2 : (c == 215) = false := by simp; omega
    have n3 : (c == 247) = false := by simp; omega
    have m2 : (c != 215) = true := by simp; omega
    have m3 : (c != 247) = true := by simp; omega
    have f0 : 48 ≤ c := by omega
    have f1 : ¬ c ≤ 57 := by omega
    have f2 : 97 ≤ c := by omega
    have f3 : ¬ c ≤ 122 := by omega
    have f4 : 192 ≤ c := by omega
    have f5 : ¬ c ≤ 591 := by omega
    simp [go_sem, IntWalk.iteOmega, IntWalk.toNatUp, hl, n1, n2, n3, m2, m3, f0, f1, f2, f3, f4, f5]
set_option maxHeartbeats 3200000 in
theorem rletter_runs (c : Int) (w : World) : Runs Tryz.prog 138 #[.int .i32 c] w (.bool (letterOk c)) w := by
  refine runs_of_callE ?_
  have hp : (c < 45) ∨ (c = 45) ∨ (46 ≤ c ∧ c ≤ 47) ∨ (48 ≤ c ∧ c ≤ 57) ∨ (58 ≤ c ∧ c ≤ 96) ∨ (97 ≤ c ∧ c ≤ 122) ∨ (123 ≤ c ∧ c ≤ 191) ∨ (192 ≤ c ∧ c ≤ 214) ∨ (c = 215) ∨ (216 ≤ c ∧ c ≤ 246) ∨ (c = 247) ∨ (248 ≤ c ∧ c ≤ 591) ∨ (592 ≤ c) := by omega
  refine calls_E Tryz.func138 rfl rfl rfl (Nat.le_of_ble_eq_true rfl) ?_
  rcases hp with h | h | h | h | h | h | h | h | h | h | h | h | h
  · have hl : letterOk c = false := by simp [letterOk]; omega
    have n1 : (c == 45) = false := by simp; omega
    have n2 : (c == 215) = false := by simp; omega
    have n3 : (c == 247) = false := by simp; omega
    have m2 : (c != 215) = true := by simp; omega
    have m3 : (c != 247) = true := by simp; omega
    have f0 : ¬ 48 ≤ c := by omega
    have f1 : c ≤ 57 := by omega
    have f2 : ¬ 97 ≤ c := by omega
    have f3 : c ≤ 122 := by omega
    have f4 : ¬ 192 ≤ c := by omega
    have f5 : c ≤ 591 := by omega
    simp [go_sem, IntWalk.iteOmega, IntWalk.toNatUp, hl, n1, n2, n3, m2, m3, f0, f1, f2, f3, f4, f5]
  · subst h
    have hl : letterOk 45 = true := rfl
    simp [go_sem, IntWalk.iteOmega, IntWalk.toNatUp, hl]
  · have hl : letterOk c = false := by simp [letterOk]; omega
    have n1 : (c == 45) = false := by simp; omega
    have n2 : (c == 215) = false := by simp; omega
    have n3 : (c == 247) = false := by simp; omega
    have m2 : (c != 215) = true := by simp; omega
    have m3 : (c != 247) = true := by simp; omega
    have f0 : ¬ 48 ≤ c := by omega
    have f1 : c ≤ 57 := by omega
    have f2 : ¬ 97 ≤ c := by omega
    have f3 : c ≤ 122 := by omega
    have f4 : ¬ 192 ≤ c := by omega
    have f5 : c ≤ 591 := by omega
    simp [go_sem, IntWalk.iteOmega, IntWalk.toNatUp, hl, n1, n2, n3, m2, m3, f0, f1, f2, f3, f4, f5]
  · have hl : letterOk c = true := by simp [letterOk]; omega
    have n1 : (c == 45) = false := by simp; omega
    have n2 : (c == 215) = false := by simp; omega
    have n3 : (c == 247) = false := by simp; omega
    have m2 : (c != 215) = true := by simp; omega
    have m3 : (c != 247) = true := by simp; omega
    have f0 : 48 ≤ c := by omega
    have f1 : c ≤ 57 := by omega
    have f2 : ¬ 97 ≤ c := by omega
    have f3 : c ≤ 122 := by omega
    have f4 : ¬ 192 ≤ c := by omega
    have f5 : c ≤ 591 := by omega
    simp [go_sem, IntWalk.iteOmega, IntWalk.toNatUp, hl, n1, n2, n3, m2, m3, f0, f1, f2, f3, f4, f5]
  · have hl : letterOk c = false := by simp [letterOk]; omega
    have n1 : (c == 45) = false := by simp; omega
    have n2 : (c == 215) = false := by simp; omega
    have n3 : (c == 247) = false := by simp; omega
    have m2 : (c != 215) = true := by simp; omega
    have m3 : (c != 247) = true := by simp; omega
    have f0 : 48 ≤ c := by omega
    have f1 : ¬ c ≤ 57 := by omega
    have f2 : ¬ 97 ≤ c := by omega
    have f3 : c ≤ 122 := by omega
    have f4 : ¬ 192 ≤ c := by omega
    have f5 : c ≤ 591 := by omega
    simp [go_sem, IntWalk.iteOmega, IntWalk.toNatUp, hl, n1, n2, n3, m2, m3, f0, f1, f2, f3, f4, f5]
  · have hl : letterOk c = true := by simp [letterOk]; omega
    have n1 : (c == 45) = false := by simp; omega
    have n2 : (c == 215) = false := by simp; omega
    have n3 : (c == 247) = false := by simp; omega
    have m2 : (c != 215) = true := by simp; omega
    have m3 : (c != 247) = true := by simp; omega
    have f0 : 48 ≤ c := by omega
    have f1 : ¬ c ≤ 57 := by omega
    have f2 : 97 ≤ c := by omega
    have f3 : c ≤ 122 := by omega
    have f4 : ¬ 192 ≤ c := by omega
    have f5 : c ≤ 591 := by omega
    simp [go_sem, IntWalk.iteOmega, IntWalk.toNatUp, hl, n1, n2, n3, m2, m3, f0, f1, f2, f3, f4, f5]
  · have hl : letterOk c = false := by simp [letterOk]; omega
    have n1 : (c == 45) = false := by simp; omega
    have n2 : (c == 215) = false := by simp; omega
    have n3 : (c == 247) = false := by simp; omega
    have m2 : (c != 215) = true := by simp; omega
    have m3 : (c != 247) = true := by simp; omega
    have f0 : 48 ≤ c := by omega
    have f1 : ¬ c ≤ 57 := by omega
    have f2 : 97 ≤ c := by omega
    have f3 : ¬ c ≤ 122 := by omega
    have f4 : ¬ 192 ≤ c := by omega
    have f5 : c ≤ 591 := by omega
    simp [go_sem, IntWalk.iteOmega, IntWalk.toNatUp, hl, n1, n2, n3, m2, m3, f0, f1, f2, f3, f4, f5]
  · have hl : letterOk c = true := by simp [letterOk]; omega
    have n1 : (c == 45) = false := by simp; omega
    have n2 : (c == 215) = false := by simp; omega
    have n3 : (c == 247) = false := by simp; omega
    have m2 : (c != 215) = true := by simp; omega
    have m3 : (c != 247) = true := by simp; omega
    have f0 : 48 ≤ c := by omega
    have f1 : ¬ c ≤ 57 := by omega
    have f2 : 97 ≤ c := by omega
    have f3 : ¬ c ≤ 122 := by omega
    have f4 : 192 ≤ c := by omega
    have f5 : c ≤ 591 := by omega
    simp [go_sem, IntWalk.iteOmega, IntWalk.toNatUp, hl, n1, n2, n3, m2, m3, f0, f1, f2, f3, f4, f5]
  · subst h
    have hl : letterOk 215 = false := rfl
    simp [go_sem, IntWalk.iteOmega, IntWalk.toNatUp, hl]
  · have hl : letterOk c = true := by simp [letterOk]; omega
    have n1 : (c == 45) = false := by simp; omega
    have n2 : (c == 215) = false := by simp; omega
    have n3 : (c == 247) = false := by simp; omega
    have m2 : (c != 215) = true := by simp; omega
    have m3 : (c != 247) = true := by simp; omega
    have f0 : 48 ≤ c := by omega
    have f1 : ¬ c ≤ 57 := by omega
    have f2 : 97 ≤ c := by omega
    have f3 : ¬ c ≤ 122 := by omega
    have f4 : 192 ≤ c := by omega
    have f5 : c ≤ 591 := by omega
    simp [go_sem, IntWalk.iteOmega, IntWalk.toNatUp, hl, n1, n2, n3, m2, m3, f0, f1, f2, f3, f4, f5]
  · subst h
    have hl : letterOk 247 = false := rfl
    simp [go_sem, IntWalk.iteOmega, IntWalk.toNatUp, hl]
  · have hl : letterOk c = true := by simp [letterOk]; omega
    have n1 : (c == 45) = false := by simp; omega
    have n2 : (c == 215) = false := by simp; omega
    have n3 : (c == 247) = false := by simp; omega
    have m2 : (c != 215) = true := by simp; omega
    have m3 : (c != 247) = true := by simp; omega
    have f0 : 48 ≤ c := by omega
    have f1 : ¬ c ≤ 57 := by omega
    have f2 : 97 ≤ c := by omega
    have f3 : ¬ c ≤ 122 := by omega
    have f4 : 192 ≤ c := by omega
    have f5 : c ≤ 591 := by omega
    simp [go_sem, IntWalk.iteOmega, IntWalk.toNatUp, hl, n1, n2, n3, m2, m3, f0, f1, f2, f3, f4, f5]
  · have hl : letterOk c = false := by simp [letterOk]; omega
    have n1 : (c == 45) = false := by simp; omega
    have n2 : (c == 215) = false := by simp; omega
    have n3 : (c == 247) = false := by simp; omega
    have m2 : (c != 215) = true := by simp; omega
    have m3 : (c != 247) = true := by simp; omega
    have f0 : 48 ≤ c := by omega
    have f1 : ¬ c ≤ 57 := by omega
    have f2 : 97 ≤ c := by omega
    have f3 : ¬ c ≤ 122 := by omega
    have f4 : 192 ≤ c := by omega
    have f5 : ¬ c ≤ 591 := by omega
    simp [go_sem, IntWalk.iteOmega, IntWalk.toNatUp, hl, n1, n2, n3, m2, m3, f0, f1, f2, f3, f4, f5]
theorem noinit_letter : Tryz.prog.inits.idxOf? 129 = none := by kernel_rfl
theorem noinit_rletter : Tryz.prog.inits.idxOf? 138 = none := by kernel_rfl
theorem rrunes_any (s : ByteArray) (hs : s.size ≤ 9223372036854775807) (w : World) : callE Tryz.prog 137 #[.string s] w fun v w' => v = .int .i64 (runes s).length ∧ Below w.heap.size w w' := by
  have hr := fun w => run_range_str (P := Tryz.prog) (w := w) undS s
  refine calls_E Tryz.func137 rfl rfl rfl (Nat.le_of_ble_eq_true rfl) ?_
  simp [go_sem, IntWalk.iteOmega, IntWalk.toNatUp, hr]
  refine W_loop (fun st wr => ∃ i n : Nat, st 5 = .pointer (some ⟨w.heap.size, 0, none⟩) ∧ st 3 = .int .i64 n ∧ It wr w.heap.size s i ∧ n + (runesAt s i).length = (runes s).length ∧ n ≤ i ∧ Below w.heap.size w wr) (fun st _ => ((runes s).length - (intOf (st 3)).toNat)) ?_ ?_
  · exact ⟨0, 0, by simp [go_sem], by simp [go_sem], It_made w s, by simp [runes], by omega, ext_alloc _ _⟩
  · rintro st wr ⟨i, n, e5, e3, hit, hn, hni, hbw⟩
    by_cases hlt : i < s.size
    · have hw := width_pos s i
      have hx := run_next_str (P := Tryz.prog) hit
      have hnx := runesAt_next hlt
      rw [hnx] at hn
      simp only [List.length_cons] at hn
      simp [go_sem, IntWalk.iteOmega, IntWalk.toNatUp, e5, e3, hx, hlt]
      refine roundEnd.mk ⟨i + (Utf8.decode s i).2, n + 1, by simp [go_sem, e5], by simp [go_sem], hit.put _, by omega, by omega, Below.itPut hbw (Nat.le_refl _) _⟩ ?_
      simp [go_sem, intOf]; omega
    · have hx := run_next_end (P := Tryz.prog) hit
      have hnx := runesAt_end hlt
      rw [hnx] at hn
      simp only [List.length_nil, Nat.add_zero] at hn
      simp [go_sem, IntWalk.iteOmega, IntWalk.toNatUp, e5, e3, hx, hlt]
      exact ⟨by omega, hbw⟩
end Go.Proofs.YtmcbcoafodmbjaaGreatDoor

/-
  Whether a text may be a name.
-/
namespace Go.Proofs.YtmcbcoafodmbjaaGreatDoor
open Go.RowKit
set_option linter.unusedVariables false
set_option linter.unusedSimpArgs false
set_option maxRecDepth 10000
def nameOk (s : ByteArray) : Bool := decide (1 ≤ (runes s).length ∧ (runes s).length ≤ 16) && (runes s).all letterOk
def nameE (s : ByteArray) : Int := if nameOk s then 0 else 50
theorem name_bad {s : ByteArray} {c : Int} (h : c ∈ runes s) (hc : letterOk c = false) : nameE s = 50 := by
  have : (runes s).all letterOk = false := by
    rw [List.all_eq_false]
    exact ⟨c, h, by simp [hc]⟩
  simp [nameE, nameOk, this]
theorem name_long {s : ByteArray} (h : 16 < (runes s).length) : nameE s = 50 := by
  have : ¬ (1 ≤ (runes s).length ∧ (runes s).length ≤ 16) := by omega
  simp [nameE, nameOk, this]
theorem name_none {s : ByteArray} (h : (runes s).length = 0) : nameE s = 50 := by
  have : ¬ (1 ≤ (runes s).length ∧ (runes s).length ≤ 16) := by omega
  simp [nameE, nameOk, this]
theorem name_good {s : ByteArray} (h1 : 1 ≤ (runes s).length) (h2 : (runes s).length ≤ 16) (h : ∀ c ∈ runes s, letterOk c = true) : nameE s = 0 := by
  have e : (runes s).all letterOk = true := List.all_eq_true.2 h
  have : 1 ≤ (runes s).length ∧ (runes s).length ≤ 16 := ⟨h1, h2⟩
  simp [nameE, nameOk, e, this]
set_option maxHeartbeats 1600000 in
theorem vname_any (s : ByteArray) (hs : s.size ≤ 9223372036854775807) (w : World) : callE Tryz.prog 63 #[.string s] w fun v w' => v = .int .i64 (nameE s) ∧ Below w.heap.size w w' := by
  have hr := fun w => run_range_str (P := Tryz.prog) (w := w) undS s
  have hlet := fun c w k => callE_eq noinit_letter (letter_runs c w) k
  refine calls_E Tryz.func63 rfl rfl rfl (Nat.le_of_ble_eq_true rfl) ?_
  simp [go_sem, IntWalk.iteOmega, IntWalk.toNatUp, hr]
  refine W_loop (fun st wr => ∃ (i : Nat) (had : List Int), st 7 = .pointer (some ⟨w.heap.size, 0, none⟩) ∧ st 3 = .int .i64 had.length ∧ It wr w.heap.size s i ∧ had ++ runesAt s i = runes s ∧ had.length ≤ 16 ∧ (∀ c ∈ had, letterOk c = true) ∧ Below w.heap.size w wr) (fun st _ => ((runes s).length - (intOf (st 3)).toNat)) ?_ ?_
  · exact ⟨0, [], by simp [go_sem], by simp [go_sem], It_made w s, by simp [runes], by simp, by simp, ext_alloc _ _⟩
  · rintro st wr ⟨i, had, e7, e3, hit, hn, hl, hg, hbw⟩
    by_cases hlt : i < s.size
    · have hx := run_next_str (P := Tryz.prog) hit
      have hnx := runesAt_next hlt
      rw [hnx] at hn
      have hit2 := hit.put (i + (Utf8.decode s i).2)
      have hbw2 := Below.itPut hbw (Nat.le_refl _) (.stringIter s (i + (Utf8.decode s i).2))
      have hlen : (runes s).length = had.length + 1 + (runesAt s (i + (Utf8.decode s i).2)).length := by rw [← hn]; simp; omega
      generalize hc : ((Utf8.decode s i).1 : Int) = c at *
      have hmem : c ∈ runes s := by rw [← hn]; simp
      by_cases h16 : had.length = 16
      · have h16' : (16 : Int) < (had.length : Int) + 1 := by omega
        have he := name_long (s := s) (by omega)
        simp [go_sem, IntWalk.iteOmega, IntWalk.toNatUp, e7, e3, hx, hlt, h16', hc, he]
        exact hbw2
      · have h16' : ¬ (16 : Int) < (had.length : Int) + 1 := by omega
        cases hco : letterOk c with
        | false =>
          have he := name_bad hmem hco
          simp [go_sem, IntWalk.iteOmega, IntWalk.toNatUp, e7, e3, hx, hlt, h16', hc, hlet, hco, he]
          exact hbw2
        | true =>
          simp [go_sem, IntWalk.iteOmega, IntWalk.toNatUp, e7, e3, hx, hlt, h16', hc, hlet, hco]
          refine roundEnd.mk ⟨_, had ++ [c], by simp [go_sem, e7], by simp [go_sem], hit2, by simpa using hn, by simp; omega, fun d hd => ?_, hbw2⟩ ?_
          · rcases List.mem_append.1 hd with hd | hd
            · exact hg d hd
            · rw [List.mem_singleton.1 hd]; exact hco
          · simp [go_sem, intOf]; omega
    · have hx := run_next_end (P := Tryz.prog) hit
      rw [runesAt_end hlt, List.append_nil] at hn
      rw [hn] at hl hg e3
      by_cases h0 : (runes s).length = 0
      · have h0' : ((runes s).length : Int) = 0 := by omega
        have he := name_none h0
        have hz : (((runes s).length : Int) == 0) = true := by simp [h0']
        simp [go_sem, IntWalk.iteOmega, IntWalk.toNatUp, e7, e3, hx, hlt, hz, he]
        exact hbw
      · have he := name_good (by omega) hl hg
        have hz : (((runes s).length : Int) == 0) = false := by simp; intro e; rw [e] at h0; simp at h0
        simp [go_sem, IntWalk.iteOmega, IntWalk.toNatUp, e7, e3, hx, hlt, hz, he]
        exact hbw
set_option maxHeartbeats 1600000 in
theorem rname_any (s : ByteArray) (hs : s.size ≤ 9223372036854775807) (w0 : World) : callE Tryz.prog 81 #[.string s] w0 fun v w' => v = .int .i64 (nameE s) ∧ Below w0.heap.size w0 w' := by
  have hr := fun w => run_range_str (P := Tryz.prog) (w := w) undS s
  have hlet := fun c w k => callE_eq noinit_rletter (rletter_runs c w) k
  refine calls_E Tryz.func81 rfl rfl rfl (Nat.le_of_ble_eq_true rfl) ?_
  simp [go_sem, IntWalk.iteOmega, IntWalk.toNatUp]
  refine callE_of (rrunes_any s hs w0) ?_
  rintro _ w ⟨rfl, k0⟩
  by_cases h1 : (runes s).length < 1
  · have h1' : ((runes s).length : Int) < 1 := by omega
    have he := name_none (s := s) (by omega)
    simp [go_sem, IntWalk.iteOmega, IntWalk.toNatUp, h1', he]
    exact k0
  · by_cases h2 : 16 < (runes s).length
    · have h1' : ¬ ((runes s).length : Int) < 1 := by omega
      have h2' : (16 : Int) < (runes s).length := by omega
      have he := name_long h2
      simp [go_sem, IntWalk.iteOmega, IntWalk.toNatUp, h1', h2', he]
      exact k0
    · have h1' : ¬ ((runes s).length : Int) < 1 := by omega
      have h2' : ¬ (16 : Int) < (runes s).length := by omega
      simp [go_sem, IntWalk.iteOmega, IntWalk.toNatUp, h1', h2', hr]
      refine W_loop (fun st wr => ∃ (i : Nat) (had : List Int), st 15 = .pointer (some ⟨w.heap.size, 0, none⟩) ∧ It wr w.heap.size s i ∧ had ++ runesAt s i = runes s ∧ (∀ c ∈ had, letterOk c = true) ∧ Below w.heap.size w wr ∧ i ≤ i) (fun st wr => match wr.heap[w.heap.size]? with | some (.stringIter _ i) => (runesAt s i).length | _ => 0) ?_ ?_
      · exact ⟨0, [], by simp [go_sem], It_made w s, by simp [runes], by simp, ext_alloc _ _, Nat.le_refl _⟩
      · rintro st wr ⟨i, had, e15, hit, hn, hg, hbw, -⟩
        have hit' : wr.heap[w.heap.size]? = some (.stringIter s i) := hit
        by_cases hlt : i < s.size
        · have hx := run_next_str (P := Tryz.prog) hit
          have hnx := runesAt_next hlt
          have hm : (runesAt s i).length = (runesAt s (i + (Utf8.decode s i).2)).length + 1 := by rw [hnx]; simp
          rw [hnx] at hn
          have hit2 := hit.put (i + (Utf8.decode s i).2)
          have hit2' : (itPut wr w.heap.size (.stringIter s (i + (Utf8.decode s i).2))).heap[w.heap.size]? = some (.stringIter s (i + (Utf8.decode s i).2)) := hit2
          have hbw2 := Below.itPut hbw (Nat.le_refl _) (.stringIter s (i + (Utf8.decode s i).2))
          generalize hc : ((Utf8.decode s i).1 : Int) = c at *
          have hmem : c ∈ runes s := by rw [← hn]; simp
          cases hco : letterOk c with
          | false =>
            have he := name_bad hmem hco
            simp [go_sem, IntWalk.iteOmega, IntWalk.toNatUp, e15, hx, hlt, hc, hlet, hco, he]
            exact ext_trans k0 hbw2
          | true =>
            simp [go_sem, IntWalk.iteOmega, IntWalk.toNatUp, e15, hx, hlt, hc, hlet, hco]
            refine roundEnd.mk ⟨_, had ++ [c], by simp [go_sem, e15], hit2, by simpa using hn, fun d hd => ?_, hbw2, Nat.le_refl _⟩ ?_
            · rcases List.mem_append.1 hd with hd | hd
              · exact hg d hd
              · rw [List.mem_singleton.1 hd]; exact hco
            · simp only [hit2', hit']; omega
        · have hx := run_next_end (P := Tryz.prog) hit
          rw [runesAt_end hlt, List.append_nil] at hn
          rw [hn] at hg
          have he := name_good (by omega) (by omega) hg
          simp [go_sem, IntWalk.iteOmega, IntWalk.toNatUp, e15, hx, hlt, he]
          exact ext_trans k0 hbw
end Go.Proofs.YtmcbcoafodmbjaaGreatDoor

/-
  Sets of validators: a name's place, whether a set may be.
-/
namespace Go.Proofs.YtmcbcoafodmbjaaGreatDoor
open Go.RowKit
set_option linter.unusedVariables false
set_option linter.unusedSimpArgs false
set_option maxRecDepth 10000
structure Vd where
  name : ByteArray
  weight : Int
def vdrs (l : List Vd) : List Value := l.flatMap fun o => [.string o.name, .int .i64 o.weight]
theorem vdrs_at : ∀ (l : List Vd) (i : Nat) (h : i < l.length), (vdrs l)[i * 2]? = some (.string (l[i]).name) ∧ (vdrs l)[i * 2 + 1]? = some (.int .i64 (l[i]).weight)
  | o :: l, 0, h => ⟨rfl, rfl⟩
  | o :: l, i + 1, h => by
    have := vdrs_at l i (by simpa using h)
    have e : ∀ j, (vdrs (o :: l))[(i + 1) * 2 + j]? = (vdrs l)[i * 2 + j]? := fun j => by
      show ([Value.string o.name, .int .i64 o.weight] ++ vdrs l)[(i + 1) * 2 + j]? = _
      rw [List.getElem?_append_right (by simp; omega)]
      congr 1
      simp; omega
    have e0 := e 0
    simp only [Nat.add_zero] at e0
    rw [e0, e 1]
    simpa using this
def findV (name : ByteArray) : List Vd → Int → Int
  | [], _ => -1
  | x :: l, k => if x.name.toList = name.toList then k else findV name l (k + 1)
theorem findV_at {name : ByteArray} {l : List Vd} {i : Nat} (h : i < l.length) : findV name (l.drop i) i = if (l[i]).name.toList = name.toList then (i : Int) else findV name (l.drop (i + 1)) ((i + 1 : Nat) : Int) := by
  rw [List.drop_eq_getElem_cons h]
  simp [findV]
set_option maxHeartbeats 1600000 in
theorem vfind_any (l : List Vd) (name : ByteArray) (vl : Value) (w : World) (hs : Sl w 2 vl l.length (vdrs l)) : callE Tryz.prog 64 #[vl, .string name] w fun v w' => v = .int .i64 (findV name l 0) ∧ Below w.heap.size w w' := by
  obtain ⟨A, cap, rfl, hrd, hA, hc1, hc2⟩ := id hs
  refine calls_E Tryz.func64 rfl rfl rfl (Nat.le_of_ble_eq_true rfl) ?_
  simp [go_sem, IntWalk.iteOmega, IntWalk.toNatUp]
  refine W_loop (fun st wr => ∃ i : Nat, i ≤ l.length ∧ st 1 = .string name ∧ st 7 = .slice A l.length cap ∧ st 8 = .int .i64 l.length ∧ st 9 = .int .i64 i ∧ findV name l 0 = findV name (l.drop i) i ∧ Below w.heap.size w wr) (fun st _ => l.length - (intOf (st 9)).toNat) ?_ ?_
  · exact ⟨0, by omega, by simp [go_sem], by simp [go_sem], by simp [go_sem], by simp [go_sem], by simp, Below.refl _ _⟩
  · rintro st wr ⟨i, hi, e1, e7, e8, e9, hf, hbw⟩
    by_cases hlt : i < l.length
    · obtain ⟨b, o, rfl, hb, hc⟩ := hrd.cells (by omega)
      obtain ⟨a0, a1⟩ := vdrs_at l i hlt
      have x0 := hc _ _ a0
      have x1 := hc _ _ a1
      rw [← hbw.cell hb] at x0 x1
      rw [← Nat.add_assoc] at x1
      have hfa := findV_at (name := name) hlt
      rw [← hf] at hfa
      have hlt' : (i : Int) < l.length := by omega
      generalize l[i] = x at *
      have kA := hbw.alloc hbw.size (.cells #[.string x.name, .int .i64 x.weight] 59)
      by_cases hq : x.name.toList = name.toList
      · have hq' : (x.name.toList == name.toList) = true := by simp [hq]
        rw [if_pos hq] at hfa
        simp [go_sem, IntWalk.iteOmega, IntWalk.toNatUp, e1, e7, e8, e9, hlt, hlt', x0, x1, hq', hfa]
        exact kA
      · have hq' : (x.name.toList == name.toList) = false := beq_eq_false_iff_ne.2 hq
        rw [if_neg hq] at hfa
        simp [go_sem, IntWalk.iteOmega, IntWalk.toNatUp, e1, e7, e8, e9, hlt, hlt', x0, x1, hq']
        refine roundEnd.mk ⟨i + 1, by omega, by simp [go_sem, e1], by simp [go_sem, e7], by simp [go_sem, e8], by simp [go_sem], hfa, kA⟩ ?_
        simp [go_sem, intOf]; omega
    · obtain rfl : i = l.length := by omega
      rw [List.drop_length] at hf
      have hf' : findV name l 0 = -1 := hf
      simp [go_sem, IntWalk.iteOmega, IntWalk.toNatUp, e1, e7, e8, e9, hf']
      exact hbw
end Go.Proofs.YtmcbcoafodmbjaaGreatDoor

/-
  vdr.Check: whether a set may be.
-/
namespace Go.Proofs.YtmcbcoafodmbjaaGreatDoor
open Go.RowKit
set_option linter.unusedVariables false
set_option linter.unusedSimpArgs false
set_option maxRecDepth 10000
def vAt (l : List Vd) (i : Nat) : Vd := l.getD i ⟨ByteArray.empty, 0⟩
theorem vAt_eq {l : List Vd} {i : Nat} (h : i < l.length) : l[i] = vAt l i := by simp [vAt, List.getD, h]
def namesOk (l : List Vd) (k : Nat) : Prop := ∀ i, i < k → nameE (vAt l i).name = 0 ∧ findV (vAt l i).name l 0 = i
def wSum (l : List Vd) : Nat → Int
  | 0 => 0
  | i + 1 => wSum l i + (vAt l i).weight
def wOk (l : List Vd) (k : Nat) : Prop := ∀ i, i < k → 1 ≤ (vAt l i).weight ∧ (vAt l i).weight ≤ 4611686018427387903 - wSum l i
open Classical in
noncomputable def checkV (l : List Vd) : Int := if l.length < 1 ∨ 32 < l.length then 3 else if ¬ namesOk l l.length then 50 else if ¬ wOk l l.length then 51 else 0
theorem wSum_nn {l : List Vd} : ∀ {k : Nat}, wOk l k → 0 ≤ wSum l k ∧ wSum l k ≤ 4611686018427387903
  | 0, _ => by simp [wSum]
  | k + 1, h => by
    have h1 := wSum_nn (k := k) fun i hi => h i (by omega)
    have h2 := h k (by omega)
    simp only [wSum]; omega
theorem nameE_01 (s : ByteArray) : nameE s = 0 ∨ nameE s = 50 := by unfold nameE; split <;> simp
set_option maxHeartbeats 6400000 in
theorem vcheck_any (l : List Vd) (vl : Value) (w : World) (hs : Sl w 2 vl l.length (vdrs l)) (hN : ∀ x ∈ l, x.name.size ≤ 9223372036854775807) (hW : ∀ x ∈ l, -9223372036854775808 ≤ x.weight ∧ x.weight ≤ 9223372036854775807) :
    callE Tryz.prog 23 #[vl] w fun v w' => v = .int .i64 (checkV l) ∧ Below w.heap.size w w' := by
  obtain ⟨A, cap, rfl, hrd, hA, hc1, hc2⟩ := id hs
  refine calls_E Tryz.func23 rfl rfl rfl (Nat.le_of_ble_eq_true rfl) ?_
  by_cases h1 : l.length < 1
  · have h1' : (l.length : Int) < 1 := by omega
    have he : checkV l = 3 := by unfold checkV; rw [if_pos (Or.inl h1)]
    simp [go_sem, IntWalk.iteOmega, IntWalk.toNatUp, h1', he]
    exact Below.refl _ _
  · by_cases h2 : 32 < l.length
    · have h1' : ¬ (l.length : Int) < 1 := by omega
      have h2' : (32 : Int) < l.length := by omega
      have he : checkV l = 3 := by unfold checkV; rw [if_pos (Or.inr h2)]
      simp [go_sem, IntWalk.iteOmega, IntWalk.toNatUp, h1', h2', he]
      exact Below.refl _ _
    · have h1' : ¬ (l.length : Int) < 1 := by omega
      have h2' : ¬ (32 : Int) < l.length := by omega
      have hlen : ¬ (l.length < 1 ∨ 32 < l.length) := by omega
      simp [go_sem, IntWalk.iteOmega, IntWalk.toNatUp, h1', h2']
      refine W_loop (fun st wr => ∃ i : Nat, i ≤ l.length ∧ st 0 = .slice A l.length cap ∧ st 16 = .slice A l.length cap ∧ st 17 = .int .i64 l.length ∧ st 18 = .int .i64 i ∧ namesOk l i ∧ Below w.heap.size w wr) (fun st _ => l.length - (intOf (st 18)).toNat) ?_ ?_
      · exact ⟨0, by omega, by simp [go_sem], by simp [go_sem], by simp [go_sem], by simp [go_sem], fun i hi => by omega, Below.refl _ _⟩
      · rintro st wr ⟨i, hi, e0, e16, e17, e18, hnm, hbw⟩
        by_cases hlt : i < l.length
        · obtain ⟨b, o, rfl, hb, hc⟩ := hrd.cells (by omega)
          obtain ⟨a0, a1⟩ := vdrs_at l i hlt
          have x0 := hc _ _ a0
          have x1 := hc _ _ a1
          rw [← hbw.cell hb] at x0 x1
          rw [← Nat.add_assoc] at x1
          have hNi := hN _ (List.getElem_mem hlt)
          have hbad : ¬ (nameE (vAt l i).name = 0 ∧ findV (vAt l i).name l 0 = i) → checkV l = 50 := fun h => by
            unfold checkV
            rw [if_neg hlen, if_pos fun hh => h (hh i hlt)]
          have hgood : nameE (vAt l i).name = 0 ∧ findV (vAt l i).name l 0 = i → namesOk l (i + 1) := fun h j hj => by
            rcases Nat.lt_or_ge j i with hj' | hj'
            · exact hnm j hj'
            · obtain rfl : j = i := by omega
              exact h
          rw [← vAt_eq hlt] at hbad hgood
          generalize l[i] = x at *
          have hlt' : (i : Int) < l.length := by omega
          have kA := hbw.alloc hbw.size (.cells #[.string x.name, .int .i64 x.weight] 59)
          have hxb : Blk (wr.alloc (.cells #[.string x.name, .int .i64 x.weight] 59)) wr.heap.size 59 #[.string x.name, .int .i64 x.weight] := Blk.self_ rfl
          simp [go_sem, IntWalk.iteOmega, IntWalk.toNatUp, e0, e16, e17, e18, hlt, hlt', x0, x1]
          refine callE_of (vname_any x.name hNi _) ?_
          rintro _ w3 ⟨rfl, k3⟩
          have hx3 := hxb.keep k3
          have hx3c := hx3.cell
          have hx3l := hx3.lt
          have kw3 := kA.trans (k3.mono kA.size)
          rcases nameE_01 x.name with hn0 | hn0
          · rw [hn0]
            simp [go_sem, IntWalk.iteOmega, IntWalk.toNatUp, e0, e16, e17, e18, hx3c]
            refine callE_of (vfind_any l x.name _ w3 ?_) ?_
            · obtain ⟨A', c', q1, q2, q3⟩ := hs
              exact ⟨A', c', q1, q2.keep kw3, q3⟩
            rintro _ w4 ⟨rfl, k4⟩
            have kw4 := kw3.trans (k4.mono kw3.size)
            by_cases hq : findV x.name l 0 = i
            · have hq' : (findV x.name l 0 != (i : Int)) = false := by simp [hq]
              simp [go_sem, IntWalk.iteOmega, IntWalk.toNatUp, e0, e16, e17, e18, hq']
              refine roundEnd.mk ⟨i + 1, by omega, by simp [go_sem, e0], by simp [go_sem, e16], by simp [go_sem, e17], by simp [go_sem], hgood ⟨hn0, hq⟩, kw4⟩ ?_
              simp [go_sem, intOf]; omega
            · have hq' : (findV x.name l 0 != (i : Int)) = true := by simpa using hq
              have he := hbad fun h => hq h.2
              simp [go_sem, IntWalk.iteOmega, IntWalk.toNatUp, e0, e16, e17, e18, hq', he]
              exact kw4
          · have he := hbad fun h => by rw [hn0] at h; exact absurd h.1 (by decide)
            rw [hn0]
            simp [go_sem, IntWalk.iteOmega, IntWalk.toNatUp, e0, e16, e17, e18, hx3c, he]
            exact kw3
        · obtain rfl : i = l.length := by omega
          simp [go_sem, IntWalk.iteOmega, IntWalk.toNatUp, e0, e16, e17, e18]
          refine W_loop (fun st w2 => ∃ i : Nat, i ≤ l.length ∧ st 36 = .slice A l.length cap ∧ st 37 = .int .i64 l.length ∧ st 38 = .int .i64 i ∧ st 5 = .int .i64 (4611686018427387903 - wSum l i) ∧ wOk l i ∧ Below w.heap.size w w2) (fun st _ => l.length - (intOf (st 38)).toNat) ?_ ?_
          · exact ⟨0, by omega, by simp [go_sem], by simp [go_sem], by simp [go_sem], by simp [go_sem, wSum], fun i hi => by omega, hbw⟩
          · rintro st w2 ⟨i, hi, e36, e37, e38, e5, hwk, hbw⟩
            have hnn := wSum_nn hwk
            by_cases hlt : i < l.length
            · obtain ⟨b, o, rfl, hb, hc⟩ := hrd.cells (by omega)
              obtain ⟨a0, a1⟩ := vdrs_at l i hlt
              have x0 := hc _ _ a0
              have x1 := hc _ _ a1
              rw [← hbw.cell hb] at x0 x1
              rw [← Nat.add_assoc] at x1
              have hbad : ¬ (1 ≤ (vAt l i).weight ∧ (vAt l i).weight ≤ 4611686018427387903 - wSum l i) → checkV l = 51 := fun h => by
                unfold checkV
                rw [if_neg hlen, if_neg (fun h => h hnm), if_pos fun hh => h (hh i hlt)]
              have hgood : 1 ≤ (vAt l i).weight ∧ (vAt l i).weight ≤ 4611686018427387903 - wSum l i → wOk l (i + 1) := fun h j hj => by
                rcases Nat.lt_or_ge j i with hj' | hj'
                · exact hwk j hj'
                · obtain rfl : j = i := by omega
                  exact h
              have hst : wSum l (i + 1) = wSum l i + (vAt l i).weight := rfl
              rw [← vAt_eq hlt] at hbad hgood hst
              generalize l[i] = x at *
              generalize wSum l i = T at *
              have hlt' : (i : Int) < l.length := by omega
              have kA := hbw.alloc hbw.size (.cells #[.string x.name, .int .i64 x.weight] 59)
              by_cases g1 : x.weight < 1
              · have he := hbad (by omega)
                simp [go_sem, IntWalk.iteOmega, IntWalk.toNatUp, e36, e37, e38, e5, hlt, hlt', x0, x1, g1, he]
                exact kA
              · by_cases g2 : 4611686018427387903 - T < x.weight
                · have he := hbad (by omega)
                  simp [go_sem, IntWalk.iteOmega, IntWalk.toNatUp, e36, e37, e38, e5, hlt, hlt', x0, x1, g1, g2, he]
                  exact kA
                · have HK := hgood (by omega)
                  simp [go_sem, IntWalk.iteOmega, IntWalk.toNatUp, e36, e37, e38, e5, hlt, hlt', x0, x1, g1, g2]
                  refine roundEnd.mk ⟨i + 1, by omega, by simp [go_sem, e36], by simp [go_sem, e37], by simp [go_sem], ?_, HK, kA⟩ ?_
                  · rw [hst]; simp [go_sem]; omega
                  · simp [go_sem, intOf]; omega
            · obtain rfl : i = l.length := by omega
              have he : checkV l = 0 := by
                unfold checkV
                rw [if_neg hlen, if_neg (fun h => h hnm), if_neg (fun h => h hwk)]
              simp [go_sem, IntWalk.iteOmega, IntWalk.toNatUp, e36, e37, e38, e5, he]
              exact hbw
end Go.Proofs.YtmcbcoafodmbjaaGreatDoor

/-
  vdr.Total, vdr.At.
-/
namespace Go.Proofs.YtmcbcoafodmbjaaGreatDoor
open Go.RowKit
set_option linter.unusedVariables false
set_option linter.unusedSimpArgs false
set_option maxRecDepth 10000
noncomputable def totalV (l : List Vd) : Int := if checkV l = 0 then wSum l l.length else 0
theorem check0 {l : List Vd} (h : checkV l = 0) : 1 ≤ l.length ∧ l.length ≤ 32 ∧ namesOk l l.length ∧ wOk l l.length := by
  unfold checkV at h
  split at h
  · cases h
  · rename_i h1
    split at h
    · cases h
    · rename_i h2
      split at h
      · cases h
      · rename_i h3
        exact ⟨by omega, by omega, Classical.not_not.1 h2, Classical.not_not.1 h3⟩
theorem Sl_kept {w w' : World} {size n : Nat} {v : Value} {xs : List Value} (h : Sl w size v n xs) (hb : Below w.heap.size w w') : Sl w' size v n xs := by
  obtain ⟨A, c, h1, h2, h3⟩ := h
  exact ⟨A, c, h1, h2.keep hb, h3⟩
set_option maxHeartbeats 3200000 in
theorem vtotal_any (l : List Vd) (vl : Value) (w : World) (hs : Sl w 2 vl l.length (vdrs l)) (hN : ∀ x ∈ l, x.name.size ≤ 9223372036854775807) (hW : ∀ x ∈ l, -9223372036854775808 ≤ x.weight ∧ x.weight ≤ 9223372036854775807) :
    callE Tryz.prog 24 #[vl] w fun v w' => v = .int .i64 (totalV l) ∧ Below w.heap.size w w' := by
  have hchk := vcheck_any l vl w hs hN hW
  obtain ⟨A, cap, rfl, hrd, hA, hc1, hc2⟩ := id hs
  refine calls_E Tryz.func24 rfl rfl rfl (Nat.le_of_ble_eq_true rfl) ?_
  simp [go_sem, IntWalk.iteOmega, IntWalk.toNatUp]
  refine callE_of hchk ?_
  rintro _ w1 ⟨rfl, k1⟩
  by_cases hck : checkV l = 0
  · have hb0 : (checkV l != 0) = false := by simp [hck]
    have he : totalV l = wSum l l.length := by unfold totalV; rw [if_pos hck]
    obtain ⟨q1, q2, q3, q4⟩ := check0 hck
    simp [go_sem, IntWalk.iteOmega, IntWalk.toNatUp, hb0]
    refine W_loop (fun st wr => ∃ (i : Nat), i ≤ l.length ∧ st 3 = .int .i64 (wSum l i) ∧ st 9 = .slice A l.length cap ∧ st 10 = .int .i64 l.length ∧ st 11 = .int .i64 i ∧ Below w.heap.size w wr) (fun st _ => l.length - (intOf (st 11)).toNat) ?_ ?_
    · exact ⟨0, by omega, by simp [go_sem, wSum], by simp [go_sem], by simp [go_sem], by simp [go_sem], k1⟩
    · rintro st wr ⟨i, hi, e3, e9, e10, e11, hbw⟩
      by_cases hlt : i < l.length
      · obtain ⟨b, o, rfl, hb, hc⟩ := hrd.cells (by omega)
        obtain ⟨a0, a1⟩ := vdrs_at l i hlt
        have x0 := hc _ _ a0
        have x1 := hc _ _ a1
        rw [← hbw.cell hb] at x0 x1
        rw [← Nat.add_assoc] at x1
        have hst : wSum l (i + 1) = wSum l i + (vAt l i).weight := rfl
        have n1 := wSum_nn (l := l) (k := i) fun j hj => q4 j (by omega)
        have n2 := wSum_nn (l := l) (k := i + 1) fun j hj => q4 j (by omega)
        rw [← vAt_eq hlt] at hst
        have hlt' : (i : Int) < l.length := by omega
        rw [hst] at n2
        generalize l[i] = x at *
        generalize wSum l i = T at *
        have kA := hbw.alloc hbw.size (.cells #[.string x.name, .int .i64 x.weight] 59)
        simp [go_sem, IntWalk.iteOmega, IntWalk.toNatUp, e3, e9, e10, e11, hlt, hlt', x0, x1]
        refine roundEnd.mk ⟨i + 1, by omega, ?_, by simp [go_sem, e9], by simp [go_sem, e10], by simp [go_sem], kA⟩ ?_
        · rw [hst]; simp [go_sem]
        · simp [go_sem, intOf]; omega
      · obtain rfl : i = l.length := by omega
        simp [go_sem, IntWalk.iteOmega, IntWalk.toNatUp, e3, e9, e10, e11, he]
        exact hbw
  · have hb0 : (checkV l != 0) = true := by simpa using hck
    have he : totalV l = 0 := by unfold totalV; rw [if_neg hck]
    simp [go_sem, IntWalk.iteOmega, IntWalk.toNatUp, hb0, he]
    exact k1
end Go.Proofs.YtmcbcoafodmbjaaGreatDoor
