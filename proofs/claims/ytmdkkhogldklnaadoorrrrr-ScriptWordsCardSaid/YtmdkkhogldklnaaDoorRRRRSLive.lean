/-
  The laws' own example, its parts: forms, numbers' words, Check.
-/
import Derived.Test.YtmdkkhogldklnaaDoorRRRRSBytes2
import Derived.Test.YtmdkkhogldklnaaDoorRRRRSWords2
import Derived.Test.YtmdkkhogldklnaaDoorRRRRSHex2
import Derived.Test.YtmdkkhogldklnaaDoorRRRRShelf
namespace Go.Proofs.YtmdkkhogldklnaaDoorRRRR
open Go.RowKit
open Go.Lib (strCells byteCells decDigits)
set_option linter.unusedVariables false
set_option linter.unusedSimpArgs false
set_option maxRecDepth 10000
theorem noinit_form : Tryd.prog.inits.idxOf? 20 = none := by kernel_rfl
theorem form1 (w : World) : Runs Tryd.prog 20 #[.int .i64 1] w (.tuple #[.string ⟨#[115, 116, 97, 114, 116]⟩, .int .i64 17]) w := by
  refine runs_of_callE ?_
  refine calls_E Tryd.func20 rfl rfl rfl (Nat.le_of_ble_eq_true rfl) ?_
  simp [go_sem, IntWalk.iteOmega, IntWalk.toNatUp]
theorem form2 (w : World) : Runs Tryd.prog 20 #[.int .i64 2] w (.tuple #[.string ⟨#[114, 117, 110]⟩, .int .i64 17]) w := by
  refine runs_of_callE ?_
  refine calls_E Tryd.func20 rfl rfl rfl (Nat.le_of_ble_eq_true rfl) ?_
  simp [go_sem, IntWalk.iteOmega, IntWalk.toNatUp]
theorem form3 (w : World) : Runs Tryd.prog 20 #[.int .i64 3] w (.tuple #[.string ⟨#[116, 105, 99, 107]⟩, .int .i64 21]) w := by
  refine runs_of_callE ?_
  refine calls_E Tryd.func20 rfl rfl rfl (Nat.le_of_ble_eq_true rfl) ?_
  simp [go_sem, IntWalk.iteOmega, IntWalk.toNatUp]
theorem form4 (w : World) : Runs Tryd.prog 20 #[.int .i64 4] w (.tuple #[.string ⟨#[98, 117, 105, 108, 100]⟩, .int .i64 25]) w := by
  refine runs_of_callE ?_
  refine calls_E Tryd.func20 rfl rfl rfl (Nat.le_of_ble_eq_true rfl) ?_
  simp [go_sem, IntWalk.iteOmega, IntWalk.toNatUp]
theorem form1E (w : World) (k : Kont) : callE Tryd.prog 20 #[.int .i64 1] w k = k (.tuple #[.string ⟨#[115, 116, 97, 114, 116]⟩, .int .i64 17]) w := callE_eq noinit_form (form1 w) k
theorem form2E (w : World) (k : Kont) : callE Tryd.prog 20 #[.int .i64 2] w k = k (.tuple #[.string ⟨#[114, 117, 110]⟩, .int .i64 17]) w := callE_eq noinit_form (form2 w) k
theorem form3E (w : World) (k : Kont) : callE Tryd.prog 20 #[.int .i64 3] w k = k (.tuple #[.string ⟨#[116, 105, 99, 107]⟩, .int .i64 21]) w := callE_eq noinit_form (form3 w) k
theorem form4E (w : World) (k : Kont) : callE Tryd.prog 20 #[.int .i64 4] w k = k (.tuple #[.string ⟨#[98, 117, 105, 108, 100]⟩, .int .i64 25]) w := callE_eq noinit_form (form4 w) k
theorem noinit_may : Tryd.prog.inits.idxOf? 29 = none := by kernel_rfl
theorem may_runs {w : World} {g : Nat} {a b c : Int} (h : Blk w g 2 #[.int .i64 a, .int .i64 b, .int .i64 c]) (ha : 0 ≤ a ∧ a ≤ 100) (hb : 0 ≤ b ∧ b ≤ 100) (hc : 0 ≤ c ∧ c ≤ 100) :
    Runs Tryd.prog 29 #[.slice (some ⟨g, 0, none⟩) 3 3] w (.bool true) w := by
  refine runs_of_callE ?_
  have hx := h.cell
  have a1 : ¬ a < 0 := by omega
  have a2 : ¬ 4611686018427387903 < a := by omega
  have b1 : ¬ b < 0 := by omega
  have b2 : ¬ 4611686018427387903 < b := by omega
  have c1 : ¬ c < 0 := by omega
  have c2 : ¬ 4611686018427387903 < c := by omega
  refine calls_E Tryd.func29 rfl rfl rfl (Nat.le_of_ble_eq_true rfl) ?_
  simp [go_sem, IntWalk.iteOmega, IntWalk.toNatUp]
  refine W_rounds [(), (), (), ()] ?_
  simp [go_sem, IntWalk.iteOmega, IntWalk.toNatUp, hx, a1, a2, b1, b2, c1, c2]
theorem noinit_small : Tryd.prog.inits.idxOf? 36 = none := by kernel_rfl
theorem noinit_fu : Tryd.prog.inits.idxOf? 22 = none := by kernel_rfl
theorem noinit_ifu : Tryd.prog.inits.idxOf? 31 = none := by kernel_rfl
theorem noinit_fi : Tryd.prog.inits.idxOf? 30 = none := by kernel_rfl
theorem noinit_num : Tryd.prog.inits.idxOf? 21 = none := by kernel_rfl
theorem small_runs (i : Nat) (h : i < 100) (w : World) : Runs Tryd.prog 36 #[.int .i64 i] w (.string (strOf (decDigits i))) w :=
  (Tryd.internal_strconv_small i h w).mono fun e w' h => h
theorem fi_runs (i : Nat) (h : i < 100) (w : World) : Runs Tryd.prog 30 #[.int .i64 i, .int .i64 10] w (.string (strOf (decDigits i))) w :=
  (Tryd.strconv_FormatInt_10_small i h w).mono fun e w' h => h
theorem num_runs (i : Nat) (h : i < 100) (w : World) : Runs Tryd.prog 21 #[.int .i64 i] w (.string (strOf (decDigits i))) w := by
  refine runs_of_callE ?_
  have r1 := fun w k => callE_eq noinit_fi (fi_runs i h w) k
  refine calls_E Tryd.func21 rfl rfl rfl (Nat.le_of_ble_eq_true rfl) ?_
  simp [go_sem, IntWalk.iteOmega, IntWalk.toNatUp, r1]
theorem ifu_runs (i : Nat) (h : i < 100) (w : World) : Runs Tryd.prog 31 #[.int .u64 i, .int .i64 10] w (.string (strOf (decDigits i))) w := by
  refine runs_of_callE ?_
  have r1 := fun w k => callE_eq noinit_small (small_runs i h w) k
  have q1 : (i : Int) < 100 := by omega
  refine calls_E Tryd.func31 rfl rfl rfl (Nat.le_of_ble_eq_true rfl) ?_
  simp [go_sem, IntWalk.iteOmega, IntWalk.toNatUp, r1, q1]
theorem fu_runs (i : Nat) (h : i < 100) (w : World) : Runs Tryd.prog 22 #[.int .u64 i, .int .i64 10] w (.string (strOf (decDigits i))) w := by
  refine runs_of_callE ?_
  have r1 := fun w k => callE_eq noinit_ifu (ifu_runs i h w) k
  refine calls_E Tryd.func22 rfl rfl rfl (Nat.le_of_ble_eq_true rfl) ?_
  simp [go_sem, IntWalk.iteOmega, IntWalk.toNatUp, r1]
theorem enters_lacks (args : Array Value) (w : World) : (callFunc 28 args).run Tryd.prog w = .ok (.enter 28 args) w :=
  enters_of Tryd.func28 (by kernel_rfl) rfl args w
theorem noinit_lacks : Tryd.prog.inits.idxOf? 28 = none := by kernel_rfl
theorem lacks_runs {w : World} {g : Nat} {has what r : Int} (h : w.cell? ⟨g, 0, none⟩ = some (.int .i64 has)) (hb : bits .and .i64 has what = r) : Runs Tryd.prog 28 #[.int .i64 what, .pointer (some ⟨g, 0, none⟩)] w (.bool (r == 0)) w := by
  refine runs_of_callE ?_
  refine calls_E Tryd.func28 rfl rfl rfl (Nat.le_of_ble_eq_true rfl) ?_
  simp [go_sem, IntWalk.iteOmega, IntWalk.toNatUp, h, hb]
theorem check_tick {w : World} {a : Option Addr} {c : Nat} :
    callE Tryd.prog 19 #[.agg #[.int .i64 3, .int .i64 1, .int .i64 0, .int .i64 30, .slice none 0 0, .slice a 2 c]] w fun v w' => v = .int .i64 0 ∧ Below w.heap.size w w' := by
  have kA := ext_alloc w (.cells #[.int .i64 3, .int .i64 1, .int .i64 0, .int .i64 30, .slice none 0 0, .slice a 2 c] 40)
  have hX : Blk (w.alloc (.cells #[.int .i64 3, .int .i64 1, .int .i64 0, .int .i64 30, .slice none 0 0, .slice a 2 c] 40)) w.heap.size 40 #[.int .i64 3, .int .i64 1, .int .i64 0, .int .i64 30, .slice none 0 0, .slice a 2 c] := Blk.self_ rfl
  refine calls_E Tryd.func19 rfl rfl rfl (Nat.le_of_ble_eq_true rfl) ?_
  simp [go_sem, IntWalk.iteOmega, IntWalk.toNatUp, form3E]
  have hX2 := (hX.more (.cells #[.int .i64 21] 3)).more (.cells #[.int .i64 1, .int .i64 0, .int .i64 30] 2)
  have kB := (kA.alloc kA.size (.cells #[.int .i64 21] 3))
  have kC := kB.alloc kB.size (.cells #[.int .i64 1, .int .i64 0, .int .i64 30] 2)
  have hH : Blk (((w.alloc (.cells #[.int .i64 3, .int .i64 1, .int .i64 0, .int .i64 30, .slice none 0 0, .slice a 2 c] 40)).alloc (.cells #[.int .i64 21] 3)).alloc (.cells #[.int .i64 1, .int .i64 0, .int .i64 30] 2)) (w.heap.size + 1) 3 #[.int .i64 21] := Blk.more (Blk.self_ (by simp)) _
  have hM : Blk (((w.alloc (.cells #[.int .i64 3, .int .i64 1, .int .i64 0, .int .i64 30, .slice none 0 0, .slice a 2 c] 40)).alloc (.cells #[.int .i64 21] 3)).alloc (.cells #[.int .i64 1, .int .i64 0, .int .i64 30] 2)) (w.heap.size + 1 + 1) 2 #[.int .i64 1, .int .i64 0, .int .i64 30] := Blk.self_ (by simp)
  generalize ((w.alloc (.cells #[.int .i64 3, .int .i64 1, .int .i64 0, .int .i64 30, .slice none 0 0, .slice a 2 c] 40)).alloc (.cells #[.int .i64 21] 3)).alloc (.cells #[.int .i64 1, .int .i64 0, .int .i64 30] 2) = W at *
  have r0 := fun k => callE_eq noinit_may (may_runs hM (by omega) (by omega) (by omega)) k
  have hh : W.cell? ⟨w.heap.size + 1, 0, none⟩ = some (.int .i64 21) := hH.cell 0
  have r1 := fun k => callE_eq noinit_lacks (lacks_runs hh (show bits .and .i64 21 1 = 1 by decide +kernel)) k
  have r2 := fun k => callE_eq noinit_lacks (lacks_runs hh (show bits .and .i64 21 2 = 0 by decide +kernel)) k
  have r4 := fun k => callE_eq noinit_lacks (lacks_runs hh (show bits .and .i64 21 4 = 4 by decide +kernel)) k
  have r8 := fun k => callE_eq noinit_lacks (lacks_runs hh (show bits .and .i64 21 8 = 0 by decide +kernel)) k
  have r16 := fun k => callE_eq noinit_lacks (lacks_runs hh (show bits .and .i64 21 16 = 16 by decide +kernel)) k
  simp [go_sem, IntWalk.iteOmega, IntWalk.toNatUp, r0, hX2.cell, enters_lacks, r1, r2, r4, r8, r16]
  exact kC
theorem check_build {w : World} :
    callE Tryd.prog 19 #[.agg #[.int .i64 4, .int .i64 0, .int .i64 0, .int .i64 0, .slice none 0 0, .slice none 0 0]] w fun v w' => v = .int .i64 0 ∧ Below w.heap.size w w' := by
  have kA := ext_alloc w (.cells #[.int .i64 4, .int .i64 0, .int .i64 0, .int .i64 0, .slice none 0 0, .slice none 0 0] 40)
  have hX : Blk (w.alloc (.cells #[.int .i64 4, .int .i64 0, .int .i64 0, .int .i64 0, .slice none 0 0, .slice none 0 0] 40)) w.heap.size 40 #[.int .i64 4, .int .i64 0, .int .i64 0, .int .i64 0, .slice none 0 0, .slice none 0 0] := Blk.self_ rfl
  refine calls_E Tryd.func19 rfl rfl rfl (Nat.le_of_ble_eq_true rfl) ?_
  simp [go_sem, IntWalk.iteOmega, IntWalk.toNatUp, form4E]
  have hX2 := (hX.more (.cells #[.int .i64 25] 3)).more (.cells #[.int .i64 0, .int .i64 0, .int .i64 0] 2)
  have kB := (kA.alloc kA.size (.cells #[.int .i64 25] 3))
  have kC := kB.alloc kB.size (.cells #[.int .i64 0, .int .i64 0, .int .i64 0] 2)
  have hH : Blk (((w.alloc (.cells #[.int .i64 4, .int .i64 0, .int .i64 0, .int .i64 0, .slice none 0 0, .slice none 0 0] 40)).alloc (.cells #[.int .i64 25] 3)).alloc (.cells #[.int .i64 0, .int .i64 0, .int .i64 0] 2)) (w.heap.size + 1) 3 #[.int .i64 25] := Blk.more (Blk.self_ (by simp)) _
  have hM : Blk (((w.alloc (.cells #[.int .i64 4, .int .i64 0, .int .i64 0, .int .i64 0, .slice none 0 0, .slice none 0 0] 40)).alloc (.cells #[.int .i64 25] 3)).alloc (.cells #[.int .i64 0, .int .i64 0, .int .i64 0] 2)) (w.heap.size + 1 + 1) 2 #[.int .i64 0, .int .i64 0, .int .i64 0] := Blk.self_ (by simp)
  generalize ((w.alloc (.cells #[.int .i64 4, .int .i64 0, .int .i64 0, .int .i64 0, .slice none 0 0, .slice none 0 0] 40)).alloc (.cells #[.int .i64 25] 3)).alloc (.cells #[.int .i64 0, .int .i64 0, .int .i64 0] 2) = W at *
  have r0 := fun k => callE_eq noinit_may (may_runs hM (by omega) (by omega) (by omega)) k
  have hh : W.cell? ⟨w.heap.size + 1, 0, none⟩ = some (.int .i64 25) := hH.cell 0
  have r1 := fun k => callE_eq noinit_lacks (lacks_runs hh (show bits .and .i64 25 1 = 1 by decide +kernel)) k
  have r2 := fun k => callE_eq noinit_lacks (lacks_runs hh (show bits .and .i64 25 2 = 0 by decide +kernel)) k
  have r4 := fun k => callE_eq noinit_lacks (lacks_runs hh (show bits .and .i64 25 4 = 0 by decide +kernel)) k
  have r8 := fun k => callE_eq noinit_lacks (lacks_runs hh (show bits .and .i64 25 8 = 8 by decide +kernel)) k
  have r16 := fun k => callE_eq noinit_lacks (lacks_runs hh (show bits .and .i64 25 16 = 16 by decide +kernel)) k
  simp [go_sem, IntWalk.iteOmega, IntWalk.toNatUp, r0, hX2.cell, enters_lacks, r1, r2, r4, r8, r16]
  exact kC
end Go.Proofs.YtmdkkhogldklnaaDoorRRRR
