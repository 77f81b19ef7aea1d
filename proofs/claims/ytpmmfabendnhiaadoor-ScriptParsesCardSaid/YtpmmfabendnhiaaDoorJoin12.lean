/-
  Texts joined: SLive, PForm, PTake.
-/
import Derived.Test.YtpmmfabendnhiaaDoorJoin11
namespace Go.Proofs.YtpmmfabendnhiaaDoor
open Go.RowKit
open Go.Lib (strCells byteCells decDigits)
set_option linter.unusedVariables false
set_option linter.unusedSimpArgs false
set_option maxRecDepth 10000
theorem noinit_form : Tryd.prog.inits.idxOf? 19 = none := by kernel_rfl
theorem form1 (w : World) : Runs Tryd.prog 19 #[.int .i64 1] w (.tuple #[.string ⟨#[115, 116, 97, 114, 116]⟩, .int .i64 17]) w := by
  refine runs_of_callE ?_
  refine calls_E Tryd.func19 rfl rfl rfl (Nat.le_of_ble_eq_true rfl) ?_
  simp [go_sem, IntWalk.iteOmega, IntWalk.toNatUp]
theorem form2 (w : World) : Runs Tryd.prog 19 #[.int .i64 2] w (.tuple #[.string ⟨#[114, 117, 110]⟩, .int .i64 17]) w := by
  refine runs_of_callE ?_
  refine calls_E Tryd.func19 rfl rfl rfl (Nat.le_of_ble_eq_true rfl) ?_
  simp [go_sem, IntWalk.iteOmega, IntWalk.toNatUp]
theorem form3 (w : World) : Runs Tryd.prog 19 #[.int .i64 3] w (.tuple #[.string ⟨#[116, 105, 99, 107]⟩, .int .i64 21]) w := by
  refine runs_of_callE ?_
  refine calls_E Tryd.func19 rfl rfl rfl (Nat.le_of_ble_eq_true rfl) ?_
  simp [go_sem, IntWalk.iteOmega, IntWalk.toNatUp]
theorem form4 (w : World) : Runs Tryd.prog 19 #[.int .i64 4] w (.tuple #[.string ⟨#[98, 117, 105, 108, 100]⟩, .int .i64 25]) w := by
  refine runs_of_callE ?_
  refine calls_E Tryd.func19 rfl rfl rfl (Nat.le_of_ble_eq_true rfl) ?_
  simp [go_sem, IntWalk.iteOmega, IntWalk.toNatUp]
theorem form1E (w : World) (k : Kont) : callE Tryd.prog 19 #[.int .i64 1] w k = k (.tuple #[.string ⟨#[115, 116, 97, 114, 116]⟩, .int .i64 17]) w := callE_eq noinit_form (form1 w) k
theorem form2E (w : World) (k : Kont) : callE Tryd.prog 19 #[.int .i64 2] w k = k (.tuple #[.string ⟨#[114, 117, 110]⟩, .int .i64 17]) w := callE_eq noinit_form (form2 w) k
theorem form3E (w : World) (k : Kont) : callE Tryd.prog 19 #[.int .i64 3] w k = k (.tuple #[.string ⟨#[116, 105, 99, 107]⟩, .int .i64 21]) w := callE_eq noinit_form (form3 w) k
theorem form4E (w : World) (k : Kont) : callE Tryd.prog 19 #[.int .i64 4] w k = k (.tuple #[.string ⟨#[98, 117, 105, 108, 100]⟩, .int .i64 25]) w := callE_eq noinit_form (form4 w) k
theorem noinit_may : Tryd.prog.inits.idxOf? 43 = none := by kernel_rfl
theorem may_runs {w : World} {g : Nat} {a b c : Int} (h : Blk w g 2 #[.int .i64 a, .int .i64 b, .int .i64 c]) (ha : 0 ≤ a ∧ a ≤ 100) (hb : 0 ≤ b ∧ b ≤ 100) (hc : 0 ≤ c ∧ c ≤ 100) :
    Runs Tryd.prog 43 #[.slice (some ⟨g, 0, none⟩) 3 3] w (.bool true) w := by
  refine runs_of_callE ?_
  have hx := h.cell
  have a1 : ¬ a < 0 := by omega
  have a2 : ¬ 4611686018427387903 < a := by omega
  have b1 : ¬ b < 0 := by omega
  have b2 : ¬ 4611686018427387903 < b := by omega
  have c1 : ¬ c < 0 := by omega
  have c2 : ¬ 4611686018427387903 < c := by omega
  refine calls_E Tryd.func43 rfl rfl rfl (Nat.le_of_ble_eq_true rfl) ?_
  simp [go_sem, IntWalk.iteOmega, IntWalk.toNatUp]
  refine W_rounds [(), (), (), ()] ?_
  simp [go_sem, IntWalk.iteOmega, IntWalk.toNatUp, hx, a1, a2, b1, b2, c1, c2]
theorem noinit_small : Tryd.prog.inits.idxOf? 61 = none := by kernel_rfl
theorem noinit_fu : Tryd.prog.inits.idxOf? 22 = none := by kernel_rfl
theorem noinit_ifu : Tryd.prog.inits.idxOf? 45 = none := by kernel_rfl
theorem noinit_fi : Tryd.prog.inits.idxOf? 44 = none := by kernel_rfl
theorem noinit_num : Tryd.prog.inits.idxOf? 20 = none := by kernel_rfl
theorem small_runs (i : Nat) (h : i < 100) (w : World) : Runs Tryd.prog 61 #[.int .i64 i] w (.string (strOf (decDigits i))) w :=
  (Tryd.internal_strconv_small i h w).mono fun e w' h => h
theorem fi_runs (i : Nat) (h : i < 100) (w : World) : Runs Tryd.prog 44 #[.int .i64 i, .int .i64 10] w (.string (strOf (decDigits i))) w :=
  (Tryd.strconv_FormatInt_10_small i h w).mono fun e w' h => h
theorem num_runs (i : Nat) (h : i < 100) (w : World) : Runs Tryd.prog 20 #[.int .i64 i] w (.string (strOf (decDigits i))) w := by
  refine runs_of_callE ?_
  have r1 := fun w k => callE_eq noinit_fi (fi_runs i h w) k
  refine calls_E Tryd.func20 rfl rfl rfl (Nat.le_of_ble_eq_true rfl) ?_
  simp [go_sem, IntWalk.iteOmega, IntWalk.toNatUp, r1]
theorem ifu_runs (i : Nat) (h : i < 100) (w : World) : Runs Tryd.prog 45 #[.int .u64 i, .int .i64 10] w (.string (strOf (decDigits i))) w := by
  refine runs_of_callE ?_
  have r1 := fun w k => callE_eq noinit_small (small_runs i h w) k
  have q1 : (i : Int) < 100 := by omega
  refine calls_E Tryd.func45 rfl rfl rfl (Nat.le_of_ble_eq_true rfl) ?_
  simp [go_sem, IntWalk.iteOmega, IntWalk.toNatUp, r1, q1]
theorem fu_runs (i : Nat) (h : i < 100) (w : World) : Runs Tryd.prog 22 #[.int .u64 i, .int .i64 10] w (.string (strOf (decDigits i))) w := by
  refine runs_of_callE ?_
  have r1 := fun w k => callE_eq noinit_ifu (ifu_runs i h w) k
  refine calls_E Tryd.func22 rfl rfl rfl (Nat.le_of_ble_eq_true rfl) ?_
  simp [go_sem, IntWalk.iteOmega, IntWalk.toNatUp, r1]
theorem enters_lacks (args : Array Value) (w : World) : (callFunc 42 args).run Tryd.prog w = .ok (.enter 42 args) w :=
  enters_of Tryd.func42 (by kernel_rfl) rfl args w
theorem noinit_lacks : Tryd.prog.inits.idxOf? 42 = none := by kernel_rfl
theorem lacks_runs {w : World} {g : Nat} {has what r : Int} (h : w.cell? ⟨g, 0, none⟩ = some (.int .i64 has)) (hb : bits .and .i64 has what = r) : Runs Tryd.prog 42 #[.int .i64 what, .pointer (some ⟨g, 0, none⟩)] w (.bool (r == 0)) w := by
  refine runs_of_callE ?_
  refine calls_E Tryd.func42 rfl rfl rfl (Nat.le_of_ble_eq_true rfl) ?_
  simp [go_sem, IntWalk.iteOmega, IntWalk.toNatUp, h, hb]
theorem check_tick {w : World} {a : Option Addr} {c : Nat} :
    callE Tryd.prog 18 #[.agg #[.int .i64 3, .int .i64 1, .int .i64 0, .int .i64 30, .slice none 0 0, .slice a 2 c]] w fun v w' => v = .int .i64 0 ∧ Below w.heap.size w w' := by
  have kA := ext_alloc w (.cells #[.int .i64 3, .int .i64 1, .int .i64 0, .int .i64 30, .slice none 0 0, .slice a 2 c] 48)
  have hX : Blk (w.alloc (.cells #[.int .i64 3, .int .i64 1, .int .i64 0, .int .i64 30, .slice none 0 0, .slice a 2 c] 48)) w.heap.size 48 #[.int .i64 3, .int .i64 1, .int .i64 0, .int .i64 30, .slice none 0 0, .slice a 2 c] := Blk.self_ rfl
  refine calls_E Tryd.func18 rfl rfl rfl (Nat.le_of_ble_eq_true rfl) ?_
  simp [go_sem, IntWalk.iteOmega, IntWalk.toNatUp, form3E]
  have hX2 := (hX.more (.cells #[.int .i64 21] 3)).more (.cells #[.int .i64 1, .int .i64 0, .int .i64 30] 2)
  have kB := (kA.alloc kA.size (.cells #[.int .i64 21] 3))
  have kC := kB.alloc kB.size (.cells #[.int .i64 1, .int .i64 0, .int .i64 30] 2)
  have hH : Blk (((w.alloc (.cells #[.int .i64 3, .int .i64 1, .int .i64 0, .int .i64 30, .slice none 0 0, .slice a 2 c] 48)).alloc (.cells #[.int .i64 21] 3)).alloc (.cells #[.int .i64 1, .int .i64 0, .int .i64 30] 2)) (w.heap.size + 1) 3 #[.int .i64 21] := Blk.more (Blk.self_ (by simp)) _
  have hM : Blk (((w.alloc (.cells #[.int .i64 3, .int .i64 1, .int .i64 0, .int .i64 30, .slice none 0 0, .slice a 2 c] 48)).alloc (.cells #[.int .i64 21] 3)).alloc (.cells #[.int .i64 1, .int .i64 0, .int .i64 30] 2)) (w.heap.size + 1 + 1) 2 #[.int .i64 1, .int .i64 0, .int .i64 30] := Blk.self_ (by simp)
  generalize ((w.alloc (.cells #[.int .i64 3, .int .i64 1, .int .i64 0, .int .i64 30, .slice none 0 0, .slice a 2 c] 48)).alloc (.cells #[.int .i64 21] 3)).alloc (.cells #[.int .i64 1, .int .i64 0, .int .i64 30] 2) = W at *
  have r0 := fun k => callE_eq noinit_may (may_runs hM (by omega) (by omega) (by omega)) k
  have hh : W.cell? ⟨w.heap.size + 1, 0, none⟩ = some (.int .i64 21) := hH.cell 0
  have r1 := fun k => callE_eq noinit_lacks (lacks_runs hh (show bits .and .i64 21 1 = 1 by decide +kernel)) k
  have r2 := fun k => callE_eq noinit_lacks (lacks_runs hh (show bits .and .i64 21 2 = 0 by decide +kernel)) k
  have r4 := fun k => callE_eq noinit_lacks (lacks_runs hh (show bits .and .i64 21 4 = 4 by decide +kernel)) k
  have r8 := fun k => callE_eq noinit_lacks (lacks_runs hh (show bits .and .i64 21 8 = 0 by decide +kernel)) k
  have r16 := fun k => callE_eq noinit_lacks (lacks_runs hh (show bits .and .i64 21 16 = 16 by decide +kernel)) k
  simp [go_sem, IntWalk.iteOmega, IntWalk.toNatUp, r0, hX2.cell, enters_lacks, r1, r2, r4, r8, r16]
  exact kC
theorem check_build {w : World} :
    callE Tryd.prog 18 #[.agg #[.int .i64 4, .int .i64 0, .int .i64 0, .int .i64 0, .slice none 0 0, .slice none 0 0]] w fun v w' => v = .int .i64 0 ∧ Below w.heap.size w w' := by
  have kA := ext_alloc w (.cells #[.int .i64 4, .int .i64 0, .int .i64 0, .int .i64 0, .slice none 0 0, .slice none 0 0] 48)
  have hX : Blk (w.alloc (.cells #[.int .i64 4, .int .i64 0, .int .i64 0, .int .i64 0, .slice none 0 0, .slice none 0 0] 48)) w.heap.size 48 #[.int .i64 4, .int .i64 0, .int .i64 0, .int .i64 0, .slice none 0 0, .slice none 0 0] := Blk.self_ rfl
  refine calls_E Tryd.func18 rfl rfl rfl (Nat.le_of_ble_eq_true rfl) ?_
  simp [go_sem, IntWalk.iteOmega, IntWalk.toNatUp, form4E]
  have hX2 := (hX.more (.cells #[.int .i64 25] 3)).more (.cells #[.int .i64 0, .int .i64 0, .int .i64 0] 2)
  have kB := (kA.alloc kA.size (.cells #[.int .i64 25] 3))
  have kC := kB.alloc kB.size (.cells #[.int .i64 0, .int .i64 0, .int .i64 0] 2)
  have hH : Blk (((w.alloc (.cells #[.int .i64 4, .int .i64 0, .int .i64 0, .int .i64 0, .slice none 0 0, .slice none 0 0] 48)).alloc (.cells #[.int .i64 25] 3)).alloc (.cells #[.int .i64 0, .int .i64 0, .int .i64 0] 2)) (w.heap.size + 1) 3 #[.int .i64 25] := Blk.more (Blk.self_ (by simp)) _
  have hM : Blk (((w.alloc (.cells #[.int .i64 4, .int .i64 0, .int .i64 0, .int .i64 0, .slice none 0 0, .slice none 0 0] 48)).alloc (.cells #[.int .i64 25] 3)).alloc (.cells #[.int .i64 0, .int .i64 0, .int .i64 0] 2)) (w.heap.size + 1 + 1) 2 #[.int .i64 0, .int .i64 0, .int .i64 0] := Blk.self_ (by simp)
  generalize ((w.alloc (.cells #[.int .i64 4, .int .i64 0, .int .i64 0, .int .i64 0, .slice none 0 0, .slice none 0 0] 48)).alloc (.cells #[.int .i64 25] 3)).alloc (.cells #[.int .i64 0, .int .i64 0, .int .i64 0] 2) = W at *
  have r0 := fun k => callE_eq noinit_may (may_runs hM (by omega) (by omega) (by omega)) k
  have hh : W.cell? ⟨w.heap.size + 1, 0, none⟩ = some (.int .i64 25) := hH.cell 0
  have r1 := fun k => callE_eq noinit_lacks (lacks_runs hh (show bits .and .i64 25 1 = 1 by decide +kernel)) k
  have r2 := fun k => callE_eq noinit_lacks (lacks_runs hh (show bits .and .i64 25 2 = 0 by decide +kernel)) k
  have r4 := fun k => callE_eq noinit_lacks (lacks_runs hh (show bits .and .i64 25 4 = 0 by decide +kernel)) k
  have r8 := fun k => callE_eq noinit_lacks (lacks_runs hh (show bits .and .i64 25 8 = 8 by decide +kernel)) k
  have r16 := fun k => callE_eq noinit_lacks (lacks_runs hh (show bits .and .i64 25 16 = 16 by decide +kernel)) k
  simp [go_sem, IntWalk.iteOmega, IntWalk.toNatUp, r0, hX2.cell, enters_lacks, r1, r2, r4, r8, r16]
  exact kC
end Go.Proofs.YtpmmfabendnhiaaDoor
namespace Go.Proofs.YtpmmfabendnhiaaDoor
open Go.RowKit
open Go.Lib (strCells byteCells decDigits)
set_option linter.unusedVariables false
set_option linter.unusedSimpArgs false
set_option maxRecDepth 10000
def bitsK (k : Nat) : Int := (if hN k then 1 else 0) + (if hT k then 2 else 0) + (if hK k then 4 else 0) + (if hB k then 8 else 0) + (if hD k then 16 else 0)
theorem form_any (k : Nat) (hk : k ≤ 11) (w : World) : Runs Tryd.prog 19 #[.int .i64 k] w (.tuple #[.string (strOf (nameK k)), .int .i64 (bitsK k)]) w := by
  refine runs_of_callE ?_
  rcases (by omega : k = 0 ∨ k = 1 ∨ k = 2 ∨ k = 3 ∨ k = 4 ∨ k = 5 ∨ k = 6 ∨ k = 7 ∨ k = 8 ∨ k = 9 ∨ k = 10 ∨ k = 11) with rfl | rfl | rfl | rfl | rfl | rfl | rfl | rfl | rfl | rfl | rfl | rfl
  all_goals
    refine calls_E Tryd.func19 rfl rfl rfl (Nat.le_of_ble_eq_true rfl) ?_
    simp [go_sem, IntWalk.iteOmega, IntWalk.toNatUp]
    exact ⟨rfl, rfl⟩
theorem formE (k : Nat) (hk : k ≤ 11) (w : World) (K : Kont) : callE Tryd.prog 19 #[.int .i64 k] w K = K (.tuple #[.string (strOf (nameK k)), .int .i64 (bitsK k)]) w := callE_eq noinit_form (form_any k hk w) K
theorem kindV_of {k : Nat} (hk : k ≤ 11) (h0 : k ≠ 0) : kindV (nameK k) = k := by
  have := kind_name ⟨k, by omega⟩
  simpa [h0] using this
theorem kindV_none {w : List UInt8} (h : ∀ k, 1 ≤ k → k ≤ 11 → nameK k ≠ w) : kindV w = 0 := by
  rcases Nat.eq_zero_or_pos (kindV w) with q | q
  · exact q
  · obtain ⟨h1, h2⟩ := kindV_name (w := w) (by omega)
    exact absurd h1 (h _ q h2)
theorem kind_any (x : List UInt8) (w : World) : callE Tryd.prog 24 #[.string (strOf x)] w fun v w' => v = .int .i64 (kindV x) ∧ w' = w := by
  refine calls_E Tryd.func24 rfl rfl rfl (Nat.le_of_ble_eq_true rfl) ?_
  simp [go_sem, IntWalk.iteOmega, IntWalk.toNatUp]
  refine W_loop (fun s wr => ∃ i : Nat, 1 ≤ i ∧ i ≤ 12 ∧ s 0 = .string (strOf x) ∧ s 3 = .int .i64 i ∧ (∀ j, 1 ≤ j → j < i → nameK j ≠ x) ∧ wr = w) (fun s _ => 12 - (intOf (s 3)).toNat) ?_ ?_
  · exact ⟨1, by omega, by omega, by simp [go_sem], by simp [go_sem], fun j h1 h2 => by omega, rfl⟩
  · rintro s wr ⟨i, h1, h2, e0, e3, hn, rfl⟩
    by_cases hlt : i ≤ 11
    · have hlt' : (i : Int) ≤ 11 := by omega
      by_cases hx : nameK i = x
      · have hb : ((strOf (nameK i)).toList == (strOf x).toList) = true := by rw [hx]; simp
        simp [go_sem, IntWalk.iteOmega, IntWalk.toNatUp, e0, e3, hlt', formE i hlt, hb]
        rw [← hx, kindV_of hlt (by omega)]
      · have hb : ((strOf (nameK i)).toList == (strOf x).toList) = false := beq_eq_false_iff_ne.2 fun e => hx (str_ext.1 e)
        simp [go_sem, IntWalk.iteOmega, IntWalk.toNatUp, e0, e3, hlt', formE i hlt, hb]
        refine roundEnd.mk ⟨i + 1, by omega, by omega, by simp [go_sem, e0], by simp [go_sem], fun j g1 g2 => ?_, rfl⟩ ?_
        · rcases (by omega : j < i ∨ j = i) with q | rfl
          · exact hn j g1 q
          · exact hx
        · simp [go_sem, intOf]; omega
    · have hlt' : ¬ (i : Int) ≤ 11 := by omega
      simp [go_sem, IntWalk.iteOmega, IntWalk.toNatUp, e0, e3, hlt']
      rw [kindV_none fun k g1 g2 => hn k g1 (by omega)]
      rfl
end Go.Proofs.YtpmmfabendnhiaaDoor
namespace Go.Proofs.YtpmmfabendnhiaaDoor
open Go.RowKit
open Go.Lib (strCells byteCells decDigits)
set_option linter.unusedVariables false
set_option linter.unusedSimpArgs false
set_option maxRecDepth 10000
/-- A taker: the words that it has still, and whether one was lacking or bad. -/
def TakAt (w : World) (lo tb : Nat) (ws : Wds) (bad : Bool) : Prop := ∃ A c, Blk w tb 77 #[.slice A ws.length c, .bool bad] ∧ Rd w 1 A ws.length (strs ws) ∧ (A = none → ws.length = 0 ∧ c = 0) ∧ ws.length ≤ c ∧ c ≤ 9223372036854775807 ∧ ∀ j, atB ws.length A j → lo ≤ j ∧ j < tb
/-- All but the taker is as it was. -/
abbrev Tk (tb : Nat) (w w' : World) : Prop := Keeps (fun j => j ≠ tb) w w'
theorem word_any {w : World} {lo tb : Nat} {ws : Wds} {bad : Bool} (h : TakAt w lo tb ws bad) :
    callE Tryd.prog 25 #[.pointer (some ⟨tb, 0, none⟩)] w fun u w' => u = .string (strOf (ws.headD [])) ∧ TakAt w' lo tb ws.tail (bad || ws.isEmpty) ∧ Tk tb w w' := by
  obtain ⟨A, c, hb, hrd, hA, hc1, hc2, hat⟩ := h
  have c0 := hb.cell 0
  have c1 := hb.cell 1
  have f0 := hb.frozen 0
  have f1 := hb.frozen 1
  have hlt := hb.lt
  refine calls_E Tryd.func25 rfl rfl rfl (Nat.le_of_ble_eq_true rfl) ?_
  cases ws with
  | nil =>
    simp [go_sem, IntWalk.iteOmega, IntWalk.toNatUp, c0, c1, f0, f1, hlt]
    have hk : Tk tb w (w.setCell ⟨tb, 1, none⟩ (.bool true)) := Keeps.setCell w ⟨tb, 1, none⟩ _ (fun h => h rfl)
    exact ⟨rfl, ⟨A, c, by simpa using Blk_set (o := 1) (v := .bool true) hb, Rd_on hrd hk (fun j h => Nat.ne_of_lt (hat j h).2), hA, hc1, hc2, hat⟩, hk⟩
  | cons x r =>
    have q1 : (((x :: r).length : Int) == 0) = false := by simp; omega
    have q2 : ((r.length : Int) + 1 == 0) = false := by simp; omega
    obtain ⟨g, o, rfl, hg, hcell⟩ := hrd.cells (by simp)
    have x0 := hcell 0 (.string (strOf x)) rfl
    rw [Nat.add_zero] at x0
    have hcr : r.length + 1 ≤ c := hc1
    simp [go_sem, IntWalk.iteOmega, IntWalk.toNatUp, c0, c1, f0, f1, hlt, q1, q2, x0, hcr]
    obtain ⟨A', hA'⟩ : ∃ A' : Option Addr, (if c = 1 then some ⟨g, o, none⟩ else some ⟨g, o + 1, none⟩) = A' := ⟨_, rfl⟩
    have hk : ∀ v, Tk tb w (w.setCell ⟨tb, 0, none⟩ v) := fun v => Keeps.setCell w ⟨tb, 0, none⟩ _ (fun h => h rfl)
    rw [hA']
    have hat' : ∀ j, atB r.length A' j → lo ≤ j ∧ j < tb := by
      rintro j ⟨hp, b, o', e, rfl⟩
      refine hat j ⟨by simp, g, o, rfl, ?_⟩
      rw [← hA'] at e
      split at e <;> (cases e; rfl)
    have hrd' : Rd w 1 A' r.length (strs r) := ⟨by simp [strs], fun hp => by
      rw [if_neg (by omega)] at hA'
      subst hA'
      refine ⟨g, o + 1, rfl, hg, fun j u hu => ?_⟩
      have := hcell (j + 1) u (by simpa [strs] using hu)
      rwa [show o + (j + 1) = o + 1 + j by omega] at this⟩
    refine ⟨⟨A', c - 1, by simpa using Blk_set (o := 0) (v := .slice A' r.length (c - 1)) hb, Rd_on hrd' (hk _) (fun j h => Nat.ne_of_lt (hat' j h).2), fun e => ?_, by omega, by omega, hat'⟩, hk _⟩
    rw [e] at hA'
    split at hA' <;> cases hA'
/-- The number that comes next, if it may be. -/
def numT (ws : Wds) : Option Nat := match ws with
  | [] => none
  | w :: _ => match numV w with
    | some n => if n ≤ maxStake then some n else none
    | none => none
theorem TakAt.keep {w w' : World} {lo tb : Nat} {ws : Wds} {bad : Bool} (h : TakAt w lo tb ws bad) (k : Below w.heap.size w w') : TakAt w' lo tb ws bad := by
  obtain ⟨A, c, hb, hrd, r⟩ := h
  exact ⟨A, c, hb.keep k, hrd.keep k, r⟩
theorem TakAt.fail {w : World} {lo tb : Nat} {ws : Wds} {bad : Bool} (h : TakAt w lo tb ws bad) : TakAt (w.setCell ⟨tb, 1, none⟩ (.bool true)) lo tb ws true ∧ Tk tb w (w.setCell ⟨tb, 1, none⟩ (.bool true)) := by
  obtain ⟨A, c, hb, hrd, hA, hc1, hc2, hat⟩ := h
  have hk : Tk tb w (w.setCell ⟨tb, 1, none⟩ (.bool true)) := Keeps.setCell w ⟨tb, 1, none⟩ _ (fun h => h rfl)
  exact ⟨⟨A, c, by simpa using Blk_set (o := 1) (v := .bool true) hb, Rd_on hrd hk (fun j h => Nat.ne_of_lt (hat j h).2), hA, hc1, hc2, hat⟩, hk⟩
theorem TakAt.blk {w : World} {lo tb : Nat} {ws : Wds} {bad : Bool} (h : TakAt w lo tb ws bad) : ∃ v, Blk w tb 77 #[v, .bool bad] := by
  obtain ⟨A, c, hb, _⟩ := h
  exact ⟨_, hb⟩
theorem tnum_any {w : World} {lo tb : Nat} {ws : Wds} {bad : Bool} (h : TakAt w lo tb ws bad) (hl : ∀ x ∈ ws, x.length ≤ 50000) :
    callE Tryd.prog 26 #[.pointer (some ⟨tb, 0, none⟩)] w fun u w' => u = .int .i64 ((numT ws).getD 0) ∧ TakAt w' lo tb ws.tail (bad || (numT ws).isNone) ∧ Tk tb w w' := by
  have hx : (ws.headD []).length ≤ 50000 := by cases ws with | nil => simp | cons x r => exact hl x List.mem_cons_self
  have hwd := word_any h
  have hT : numT ws = none ∧ ws.isEmpty = true ∧ numV (ws.headD []) = none ∨ ws.isEmpty = false ∧ numT ws = (match numV (ws.headD []) with | some n => if n ≤ maxStake then some n else none | none => none) := by
    cases ws with
    | nil => exact .inl ⟨rfl, rfl, rfl⟩
    | cons x r => exact .inr ⟨rfl, rfl⟩
  generalize ws.headD [] = x at *
  refine calls_E Tryd.func26 rfl rfl rfl (Nat.le_of_ble_eq_true rfl) ?_
  simp [go_sem, IntWalk.iteOmega, IntWalk.toNatUp]
  refine callE_of hwd ?_
  rintro _ w1 ⟨rfl, h1, k1⟩
  simp [go_sem, IntWalk.iteOmega, IntWalk.toNatUp]
  refine callE_of (number_any x hx w1) ?_
  rintro _ w2 ⟨rfl, k2⟩
  have h2 := h1.keep k2
  have k12 : Tk tb w w2 := k1.trans (Keeps.of_ext k2)
  obtain ⟨v, hb⟩ := h2.blk
  have c1 := hb.cell 1
  have f1 := hb.frozen 1
  have hlt := hb.lt
  obtain ⟨h3, k3⟩ := h2.fail
  cases hn : numV x with
  | none =>
    have hT0 : numT ws = none := by rcases hT with ⟨q, _⟩ | ⟨_, q⟩ <;> rw [q]; rw [hn]
    rw [numR_none hn, hT0]
    simp [go_sem, IntWalk.iteOmega, IntWalk.toNatUp, c1, f1, hlt]
    exact ⟨h3, k12.trans k3⟩
  | some n =>
    have hR : numR x = .tuple #[.int .u64 n, .int .i64 0] := by unfold numR; rw [hn]
    rcases hT with ⟨_, _, q⟩ | ⟨he, q⟩
    · rw [hn] at q; cases q
    rw [hn] at q
    simp only at q
    rw [hR]
    by_cases hm : n ≤ maxStake
    · rw [if_pos hm] at q
      have hm' : ¬ (4611686018427387903 : Int) < n := by unfold maxStake at hm; omega
      have f2 : IntKind.i64.wrap (n : Int) = n := IntWalk.i64_in _ (by unfold maxStake at hm; omega)
      rw [q]
      rw [he] at h2
      simp [go_sem, IntWalk.iteOmega, IntWalk.toNatUp, hm', f2]
      exact ⟨by simpa using h2, k12⟩
    · rw [if_neg hm] at q
      have hm' : (4611686018427387903 : Int) < n := by unfold maxStake at hm; omega
      rw [q]
      simp [go_sem, IntWalk.iteOmega, IntWalk.toNatUp, hm', c1, f1, hlt]
      exact ⟨h3, k12.trans k3⟩
theorem own_far' {w w1 w2 : World} {tb : Nat} {u v : Value} {n : Nat} {bad : Bool} {xs : List Value} {w3 : World} (hown : w2.ownsRow w1.heap.size 5 1 u n xs) (k1 : Tk tb w w1) (k2 : Below w1.heap.size w1 w2) (k3 : Tk tb w2 w3) (hb : Blk w2 tb 77 #[v, .bool bad]) : w3.ownsRow w.heap.size 5 1 u n xs :=
  row_keeps (row_low hown k1.size) k3 fun j hj e => row_ne hown hb (by decide) (by rw [hj, e])
theorem tbytes_any {w : World} {lo tb : Nat} {ws : Wds} {bad : Bool} (h : TakAt w lo tb ws bad) (hl : ∀ x ∈ ws, x.length ≤ 50000) :
    callE Tryd.prog 27 #[.pointer (some ⟨tb, 0, none⟩)] w fun u w' => w'.ownsRow w.heap.size 5 1 u (bytesL (ws.headD [])).length (byteCells (bytesL (ws.headD []))) ∧ TakAt w' lo tb ws.tail (bad || (bytesV (ws.headD [])).isNone) ∧ Tk tb w w' := by
  have hx : (ws.headD []).length ≤ 50000 := by cases ws with | nil => simp | cons x r => exact hl x List.mem_cons_self
  have hwd := word_any h
  have hT : ws.isEmpty = true ∧ bytesV (ws.headD []) = none ∨ ws.isEmpty = false := by
    cases ws with
    | nil => exact .inl ⟨rfl, rfl⟩
    | cons x r => exact .inr rfl
  generalize ws.headD [] = x at *
  refine calls_E Tryd.func27 rfl rfl rfl (Nat.le_of_ble_eq_true rfl) ?_
  simp [go_sem, IntWalk.iteOmega, IntWalk.toNatUp]
  refine callE_of hwd ?_
  rintro _ w1 ⟨rfl, h1, k1⟩
  simp [go_sem, IntWalk.iteOmega, IntWalk.toNatUp]
  refine callE_of (bytes_any x hx w1) ?_
  rintro _ w2 ⟨⟨u, rfl, hown⟩, k2⟩
  have h2 := h1.keep k2
  have k12 : Tk tb w w2 := k1.trans (Keeps.of_ext k2)
  obtain ⟨v, hb⟩ := h2.blk
  have c1 := hb.cell 1
  have f1 := hb.frozen 1
  have hlt := hb.lt
  obtain ⟨h3, k3⟩ := h2.fail
  cases hn : bytesV x with
  | none =>
    have hE : bytesE x = 8 := by unfold bytesE; rw [hn]; rfl
    simp [go_sem, IntWalk.iteOmega, IntWalk.toNatUp, hE, c1, f1, hlt]
    refine ⟨own_far' hown k1 k2 k3 hb, by simpa using h3, k12.trans k3⟩
  | some l =>
    have hE : bytesE x = 0 := by unfold bytesE; rw [hn]; rfl
    have he : ws.isEmpty = false := by
      rcases hT with ⟨_, q⟩ | q
      · rw [hn] at q; cases q
      · exact q
    rw [he] at h2
    simp [go_sem, IntWalk.iteOmega, IntWalk.toNatUp, hE]
    refine ⟨row_low hown k1.size, by simpa using h2, k12⟩
end Go.Proofs.YtpmmfabendnhiaaDoor
