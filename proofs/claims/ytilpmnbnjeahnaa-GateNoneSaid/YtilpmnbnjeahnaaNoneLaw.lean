/-
  The law GateNone: a gate that no call made; its walk.
-/
import Derived.Test.YtilpmnbnjeahnaaGEq
namespace Go.Proofs.Ytilpmnbnjeahnaa
open Go.RowKit
set_option linter.unusedVariables false
set_option linter.unusedSimpArgs false
set_option maxRecDepth 10000
def zeroG : Array Value := #[.int .i64 0, .int .i64 0, .int .i64 0, .int .i64 0, .int .i64 0, .slice none 0 0, .map none, .int .i64 0, .int .i64 0, .slice none 0 0]
/-- a gate that no call made -/
def NoneAt (w : World) (p : Option Addr) : Prop := p = none ∨ ∃ q, p = some ⟨q, 0, none⟩ ∧ Blk w q 64 zeroG
theorem NoneAt.keep {w w' : World} {p : Option Addr} (h : NoneAt w p) (k : Below w.heap.size w w') : NoneAt w' p := by
  rcases h with h | ⟨q, h, hb⟩
  · exact .inl h
  · exact .inr ⟨q, h, hb.keep k⟩
@[go_sem] theorem eql_map0 {w : World} : (binOp .eql 61 (.map none) (.map none)).run Try.prog w = .ok (.bool true) w := by
  unfold binOp Op.equal
  rw [show Op.maxDepth = 9999 + 1 from rfl]
  unfold Op.equalIn
  simp [run_underlying und61, Result.andThen]
theorem none0_runs {w : World} {p : Option Addr} (h : NoneAt w p) : Runs Try.prog 33 #[.pointer p] w (.bool true) w := by
  refine runs_of_callE ?_
  rcases h with rfl | ⟨q, rfl, hb⟩
  · refine calls_E Try.func33 rfl rfl rfl (Nat.le_of_ble_eq_true rfl) ?_
    simp [go_sem, IntWalk.iteOmega, IntWalk.toNatUp]
  · have hcell := hb.cell
    simp only [zeroG] at hcell
    refine calls_E Try.func33 rfl rfl rfl (Nat.le_of_ble_eq_true rfl) ?_
    simp [go_sem, IntWalk.iteOmega, IntWalk.toNatUp, hcell]
theorem enter0_runs {w : World} {p : Option Addr} (h : NoneAt w p) (v size : Int) : Runs Try.prog 17 #[.pointer p, .int .i64 v, .int .i64 size] w (.tuple #[.int .i64 0, .int .i64 2]) w := by
  have hno := fun k => callE_eq noinit_none (none0_runs h) k
  refine runs_of_callE ?_
  refine calls_E Try.func17 rfl rfl rfl (Nat.le_of_ble_eq_true rfl) ?_
  simp [go_sem, IntWalk.iteOmega, IntWalk.toNatUp, hno]
theorem leave0_runs {w : World} {p : Option Addr} (h : NoneAt w p) (t : Int) : Runs Try.prog 16 #[.pointer p, .int .i64 t] w (.int .i64 2) w := by
  have hno := fun k => callE_eq noinit_none (none0_runs h) k
  refine runs_of_callE ?_
  refine calls_E Try.func16 rfl rfl rfl (Nat.le_of_ble_eq_true rfl) ?_
  simp [go_sem, IntWalk.iteOmega, IntWalk.toNatUp, hno]
theorem large0_runs {w : World} {p : Option Addr} (h : NoneAt w p) : Runs Try.prog 20 #[.pointer p] w (.int .i64 0) w := by
  have hno := fun k => callE_eq noinit_none (none0_runs h) k
  refine runs_of_callE ?_
  refine calls_E Try.func20 rfl rfl rfl (Nat.le_of_ble_eq_true rfl) ?_
  simp [go_sem, IntWalk.iteOmega, IntWalk.toNatUp, hno]
theorem clone0_runs {w : World} {p : Option Addr} (h : NoneAt w p) : Runs Try.prog 26 #[.pointer p] w (.pointer none) w := by
  have hno := fun k => callE_eq noinit_none (none0_runs h) k
  refine runs_of_callE ?_
  refine calls_E Try.func26 rfl rfl rfl (Nat.le_of_ble_eq_true rfl) ?_
  simp [go_sem, IntWalk.iteOmega, IntWalk.toNatUp, hno]
theorem of0_any {w : World} {p : Option Addr} (h : NoneAt w p) (v : Int) : callE Try.prog 19 #[.pointer p, .int .i64 v] w fun u w' => u = .tuple #[GSt.zero.val, .int .i64 2] ∧ Below w.heap.size w w' := by
  have kA := ext_alloc w (.cells #[.int .i64 0, .int .i64 0, .int .i64 0, .int .i64 0] 44)
  have hno := fun k => callE_eq noinit_none (none0_runs (h.keep kA)) k
  refine calls_E Try.func19 rfl rfl rfl (Nat.le_of_ble_eq_true rfl) ?_
  simp [go_sem, IntWalk.iteOmega, IntWalk.toNatUp, hno, GSt.val, GSt.zero]
  exact kA
theorem noinit_clone : Try.prog.inits.idxOf? 26 = none := by kernel_rfl
def S00 : GS := ⟨0, ⟨0, 0, 0, 0, 0⟩, [], [], 0, 0, fun _ => ⟨0, 0, 0, 0⟩⟩
set_option maxHeartbeats 3200000 in
theorem all0_any {w : World} {p : Option Addr} (h : NoneAt w p) : callE Try.prog 22 #[.pointer p] w fun u w' => u = .func (.func 38) #[] #[.pointer (some ⟨w.heap.size, 0, none⟩), .pointer (some ⟨w.heap.size + 1, 0, none⟩)] ∧
      Blk w' w.heap.size 24 #[.slice none 0 0] ∧ Blk w' (w.heap.size + 1) 81 #[.slice none 0 0] ∧ Below w.heap.size w w' := by
  have k2 : Below w.heap.size w ((w.alloc (.cells #[.slice none 0 0] 24)).alloc (.cells #[.slice none 0 0] 81)) := ext_trans (ext_alloc _ _) (ext_alloc _ _)
  have hl1 : Blk ((w.alloc (.cells #[.slice none 0 0] 24)).alloc (.cells #[.slice none 0 0] 81)) w.heap.size 24 #[.slice none 0 0] := (Blk.self_ rfl).more _
  have hw1 : Blk ((w.alloc (.cells #[.slice none 0 0] 24)).alloc (.cells #[.slice none 0 0] 81)) (w.heap.size + 1) 81 #[.slice none 0 0] := Blk.self_ (by simp)
  have hno := fun k => callE_eq noinit_none (none0_runs (h.keep k2)) k
  have hlc := hl1.cell
  refine calls_E Try.func22 rfl rfl rfl (Nat.le_of_ble_eq_true rfl) ?_
  simp [go_sem, IntWalk.iteOmega, IntWalk.toNatUp, hno, hlc]
  generalize (w.alloc (.cells #[.slice none 0 0] 24)).alloc (.cells #[.slice none 0 0] 81) = W1 at *
  refine W_loop (fun s wr => s 3 = .pointer (some ⟨w.heap.size, 0, none⟩) ∧ s 4 = .pointer (some ⟨w.heap.size + 1, 0, none⟩) ∧ s 17 = .int .i64 0 ∧ s 18 = .int .i64 0 ∧ wr = W1) (fun s _ => 0) ?_ ?_
  · exact ⟨by simp [go_sem], by simp [go_sem], by simp [go_sem], by simp [go_sem], rfl⟩
  · rintro s _ ⟨e3, e4, e17, e18, rfl⟩
    simp [go_sem, IntWalk.iteOmega, IntWalk.toNatUp, e3, e4, e17, e18]
    exact ⟨hl1, hw1, k2⟩
set_option maxHeartbeats 6400000 in
theorem noneLaw_any (v n : Int) (w : World) : callE Try.prog 9 #[.int .i64 v, .int .i64 n] w fun u w' => u = .bool true ∧ Below w.heap.size w w' := by
  have kQ := ext_alloc w (.cells zeroG 64)
  have hQ : Blk (w.alloc (.cells zeroG 64)) w.heap.size 64 zeroG := Blk.self_ rfl
  have kB := ext_alloc (w.alloc (.cells zeroG 64)) (.cells #[.pointer none, .pointer (some ⟨w.heap.size, 0, none⟩)] 32)
  have hB : Blk ((w.alloc (.cells zeroG 64)).alloc (.cells #[.pointer none, .pointer (some ⟨w.heap.size, 0, none⟩)] 32)) (w.heap.size + 1) 32 #[.pointer none, .pointer (some ⟨w.heap.size, 0, none⟩)] := Blk.self_ (by simp)
  have hQ2 := hQ.keep kB
  have kw := ext_trans kQ kB
  simp only [zeroG] at *
  refine calls_E Try.func9 rfl rfl rfl (Nat.le_of_ble_eq_true rfl) ?_
  simp [go_sem, IntWalk.iteOmega, IntWalk.toNatUp]
  generalize ((w.alloc (.cells #[.int .i64 0, .int .i64 0, .int .i64 0, .int .i64 0, .int .i64 0, .slice none 0 0, .map none, .int .i64 0, .int .i64 0, .slice none 0 0] 64)).alloc (.cells #[.pointer none, .pointer (some ⟨w.heap.size, 0, none⟩)] 32)) = W0 at *
  refine W_loop (fun s wr => ∃ i : Nat, i ≤ 2 ∧ s 0 = .int .i64 v ∧ s 1 = .int .i64 n ∧ s 13 = .slice (some ⟨w.heap.size + 1, 0, none⟩) 2 2 ∧ s 14 = .int .i64 2 ∧ s 15 = .int .i64 i ∧
    Blk wr (w.heap.size + 1) 32 #[.pointer none, .pointer (some ⟨w.heap.size, 0, none⟩)] ∧ Blk wr w.heap.size 64 zeroG ∧ Below w.heap.size w wr) (fun s _ => 2 - (intOf (s 15)).toNat) ?_ ?_
  · exact ⟨0, by omega, by simp [go_sem], by simp [go_sem], by simp [go_sem], by simp [go_sem], by simp [go_sem], hB, hQ2, kw⟩
  · rintro s wr ⟨i, hi, e0, e1, e13, e14, e15, hB, hQ, hbw⟩
    by_cases hlt : i < 2
    · have hlt' : (i : Int) < 2 := by omega
      obtain ⟨p, hp, y0⟩ : ∃ p, NoneAt wr p ∧ wr.cell? ⟨w.heap.size + 1, i, none⟩ = some (.pointer p) := by
        rcases (by omega : i = 0 ∨ i = 1) with rfl | rfl
        · exact ⟨none, .inl rfl, by rw [hB.cell]; rfl⟩
        · exact ⟨some ⟨w.heap.size, 0, none⟩, .inr ⟨_, rfl, hQ⟩, by rw [hB.cell]; rfl⟩
      have henter := fun k => callE_eq noinit_enter (enter0_runs hp v n) k
      simp [go_sem, IntWalk.iteOmega, IntWalk.toNatUp, e0, e1, e13, e14, e15, hlt, hlt', y0, henter]
      refine callE_of (of0_any hp v) ?_
      rintro _ w2 ⟨rfl, k2⟩
      have kA := ext_alloc w2 (.cells #[.int .i64 0, .int .i64 0, .int .i64 0, .int .i64 0] 44)
      have kk := ext_trans k2 kA
      have hp2 := hp.keep kk
      have hleave := fun k => callE_eq noinit_leave (leave0_runs hp2 n) k
      have hlarge := fun k => callE_eq noinit_large (large0_runs hp2) k
      have hneq := fun W => run_neq_st GSt.zero W
      simp only [GSt.val, GSt.zero] at hneq
      simp [go_sem, IntWalk.iteOmega, IntWalk.toNatUp, e0, e1, e13, e14, e15, GSt.val, GSt.zero, hneq, hleave, hlarge]
      generalize hW3 : (w2.alloc (.cells #[.int .i64 0, .int .i64 0, .int .i64 0, .int .i64 0] 44)) = w3 at *
      refine callE_of (all0_any hp2) ?_
      rintro _ w4 ⟨rfl, hl4, hw4, k4⟩
      simp [go_sem, IntWalk.iteOmega, IntWalk.toNatUp]
      refine callE_of (told_any S00 none none 0 0 _ _ w4 hl4 hw4 ⟨none, 0, rfl, Rd.nil_ _ _ _, fun _ => ⟨rfl, rfl⟩, by simp [S00], by omega⟩ ⟨none, 0, rfl, Rd.nil_ _ _ _, fun _ => ⟨rfl, rfl⟩, by simp [S00], by omega⟩ (by simp [S00]) 9 (by omega)) ?_
      rintro _ w5 ⟨hr5, k5⟩
      obtain ⟨_, A5, c5, rfl⟩ := own_sl hr5
      have hz : ((prsG S00).take 9).length = 0 := by simp [prsG, S00]
      rw [hz]
      have kk5 := ext_trans kk (ext_trans k4 k5)
      have hp5 := hp.keep kk5
      have hclone := fun k => callE_eq noinit_clone (clone0_runs hp5) k
      simp [go_sem, IntWalk.iteOmega, IntWalk.toNatUp, e0, e1, e13, e14, e15, hclone]
      refine roundEnd.mk ⟨i + 1, by omega, by simp [go_sem, e0], by simp [go_sem, e1], by simp [go_sem, e13], by simp [go_sem, e14], by simp [go_sem], hB.keep kk5, hQ.keep kk5, ext_trans hbw kk5⟩ ?_
      simp [go_sem, intOf]; omega
    · obtain rfl : i = 2 := by omega
      simp [go_sem, IntWalk.iteOmega, IntWalk.toNatUp, e0, e1, e13, e14, e15]
      refine callE_of (begun_any wr) ?_
      rintro _ w2 ⟨rfl, k2⟩
      simp [go_sem, IntWalk.iteOmega, IntWalk.toNatUp]
      exact ext_trans hbw k2
end Go.Proofs.Ytilpmnbnjeahnaa
