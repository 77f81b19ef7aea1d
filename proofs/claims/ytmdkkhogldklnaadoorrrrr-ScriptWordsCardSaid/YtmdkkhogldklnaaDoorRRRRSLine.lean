/-
  The laws' own example: its lines.
-/
import Derived.Test.YtmdkkhogldklnaaDoorRRRRSLive
namespace Go.Proofs.YtmdkkhogldklnaaDoorRRRR
open Go.RowKit
open Go.Lib (strCells byteCells decDigits)
set_option linter.unusedVariables false
set_option linter.unusedSimpArgs false
set_option maxRecDepth 10000
/-- A row begun with one word. -/
theorem own_one {w : World} (t : List UInt8) : (w.alloc (.cells #[.string (strOf t)] 9)).ownsRow w.heap.size 9 1 (.slice (some ⟨w.heap.size, 0, none⟩) 1 1) 1 (strs [t]) :=
  ⟨rfl, .inr ⟨w.heap.size, 1, _, rfl, Nat.le_refl _, heap_alloc_new w _, Nat.le_refl _, by unfold maxLen; omega, by simp, by simp [strs]⟩⟩
theorem own_slice {w : World} {base e n : Nat} {v : Value} {xs : List Value} (h : w.ownsRow base e 1 v n xs) (hn : 0 < n) : ∃ g c, v = .slice (some ⟨g, 0, none⟩) n c ∧ n ≤ c ∧ base ≤ g ∧ g < w.heap.size ∧ ∀ j u, xs[j]? = some u → w.cell? ⟨g, 0 + j, none⟩ = some u := by
  rcases h.2 with ⟨_, h0⟩ | ⟨g, cap, cur, rfl, hb, hg, hnc, _⟩
  · omega
  · refine ⟨g, cap, rfl, hnc, hb, (Array.getElem?_eq_some_iff.1 hg).1, fun j u hu => ?_⟩
    have := h.cells (g := g) rfl j u hu
    rwa [add_none] at this
theorem wordE {w1 w' : World} {v : Value} {n : Nat} {ws : List (List UInt8)} {t : List UInt8} {k : Kont} (hb : Below w1.heap.size w1 w') (own : w'.ownsRow w1.heap.size 9 1 v n (strs ws)) (hn : n ≤ 1000)
    (hk : ∀ v3 w3, w3.ownsRow w1.heap.size 9 1 v3 (n + 1) (strs (ws ++ [t])) → Below w1.heap.size w1 w3 → k v3 w3) :
    resE Tryd.prog (appendR Tryd.prog 31 31 31 v (.slice (some ⟨w'.heap.size, 0, none⟩) 1 1) (w'.alloc (.cells #[.string (strOf t)] 9))) k := by
  have hlt := own.lt
  have hbA := hb.alloc hb.size (.cells #[.string (strOf t)] 9)
  refine appendW (own_keep own (ext_alloc w' _)) (Blk.self_ rfl) hbA.size (by omega) ?_
  intro v3 w3 hown3 g3
  exact hk v3 w3 hown3 (hbA.grown g3 hbA.size (fun k hk => (hlt k hk).1))
theorem join_any {w : World} {base n : Nat} {v : Value} {ws : List (List UInt8)} (own : w.ownsRow base 9 1 v n (strs ws)) (hn : n = ws.length) (hpos : 0 < n) (hl : (Lib.join ws [32]).length ≤ 140737488355328) (hn2 : n ≤ 1000) :
    callE Tryd.prog 23 #[v, .string ⟨#[32]⟩] w fun u w' => u = .string (strOf (Lib.join ws [32])) ∧ Below w.heap.size w w' := by
  obtain ⟨g, c, rfl, hc, _, hlt, hcells⟩ := own_slice own hpos
  subst hn
  have hm : (ws.map strOf).map (·.data.toList) = ws := by rw [List.map_map]; exact (List.map_congr_left fun x _ => by simp [strOf]).trans (List.map_id _)
  have hj := Tryd.strings_Join g 0 c (ws.map strOf) ⟨#[32]⟩ w (fun j x hx => hcells j _ (by
    simp only [strs, List.getElem?_map] at hx ⊢
    cases hq : ws[j]? with
    | none => rw [hq] at hx; cases hx
    | some y => rw [hq] at hx; simp at hx; subst hx; rfl)) hlt (by simp; omega) (by simpa using hc) (by rw [hm]; exact hl)
  rw [hm] at hj
  rw [List.length_map] at hj
  refine hj.mono ?_
  rintro e w' ⟨rfl, hb⟩
  exact ⟨_, rfl, rfl, hb⟩
set_option maxHeartbeats 6400000 in
theorem line_tick {w : World} {b o c : Nat} (hd : ∀ j u, [Value.int .u64 7, Value.int .u64 0][j]? = some u → w.cell? ⟨b, o + j, none⟩ = some u) (hb : b < w.heap.size) :
    callE Tryd.prog 15 #[.agg #[.int .i64 3, .int .i64 1, .int .i64 0, .int .i64 30, .slice none 0 0, .slice (some ⟨b, o, none⟩) 2 c]] w fun v w' => v = .tuple #[.string ⟨#[116, 105, 99, 107, 32, 49, 32, 51, 48, 32, 55, 32, 48]⟩, .int .i64 0] ∧ Below w.heap.size w w' := by
  have kA := ext_alloc w (.cells #[.int .i64 3, .int .i64 1, .int .i64 0, .int .i64 30, .slice none 0 0, .slice (some ⟨b, o, none⟩) 2 c] 40)
  have hX : Blk (w.alloc (.cells #[.int .i64 3, .int .i64 1, .int .i64 0, .int .i64 30, .slice none 0 0, .slice (some ⟨b, o, none⟩) 2 c] 40)) w.heap.size 40 #[.int .i64 3, .int .i64 1, .int .i64 0, .int .i64 30, .slice none 0 0, .slice (some ⟨b, o, none⟩) 2 c] := Blk.self_ rfl
  refine calls_E Tryd.func15 rfl rfl rfl (Nat.le_of_ble_eq_true rfl) ?_
  simp [go_sem, IntWalk.iteOmega, IntWalk.toNatUp]
  generalize w.alloc (.cells #[.int .i64 3, .int .i64 1, .int .i64 0, .int .i64 30, .slice none 0 0, .slice (some ⟨b, o, none⟩) 2 c] 40) = W at *
  refine callE_of check_tick ?_
  rintro _ w1 ⟨rfl, k1⟩
  have hX1 := hX.keep k1
  have kB := kA.trans (k1.mono kA.size)
  have b1 : bits .and .i64 21 1 = 1 := by decide +kernel
  have b2 : bits .and .i64 21 2 = 0 := by decide +kernel
  have b4 : bits .and .i64 21 4 = 4 := by decide +kernel
  have b8 : bits .and .i64 21 8 = 0 := by decide +kernel
  have n1 : ∀ w k, callE Tryd.prog 21 #[.int .i64 1] w k = k (.string (strOf (decDigits 1))) w := fun w k => callE_eq noinit_num (num_runs 1 (by omega) w) k
  have n30 : ∀ w k, callE Tryd.prog 21 #[.int .i64 30] w k = k (.string (strOf (decDigits 30))) w := fun w k => callE_eq noinit_num (num_runs 30 (by omega) w) k
  have n7 : ∀ w k, callE Tryd.prog 22 #[.int .u64 7, .int .i64 10] w k = k (.string (strOf (decDigits 7))) w := fun w k => callE_eq noinit_fu (fu_runs 7 (by omega) w) k
  have n0 : ∀ w k, callE Tryd.prog 22 #[.int .u64 0, .int .i64 10] w k = k (.string (strOf (decDigits 0))) w := fun w k => callE_eq noinit_fu (fu_runs 0 (by omega) w) k
  have ct : (⟨#[116, 105, 99, 107]⟩ : ByteArray) = strOf [116, 105, 99, 107] := rfl
  have hd1 : ∀ j u, [Value.int .u64 7, Value.int .u64 0][j]? = some u → w1.cell? ⟨b, o + j, none⟩ = some u := fun j u h => by rw [kB.cell hb]; exact hd j u h
  have hb1 : b < w1.heap.size := by have := kB.size; omega
  simp [go_sem, IntWalk.iteOmega, IntWalk.toNatUp, hX1.cell, form3E, b1, ct]
  have own2 := own_one (w := w1) [116, 105, 99, 107]
  have kk2 := ext_alloc w1 (.cells #[.string (strOf [116, 105, 99, 107])] 9)
  have hX2 := hX1.below kk2 hX1.lt
  generalize w1.alloc (.cells #[.string (strOf [116, 105, 99, 107])] 9) = w2 at *
  generalize (Value.slice (some ⟨w1.heap.size, 0, none⟩) 1 1) = v2 at *
  simp [go_sem, IntWalk.iteOmega, IntWalk.toNatUp, hX2.cell, n1]
  refine wordE kk2 own2 (by omega) ?_
  intro v3 w3 own3 kk3
  have hX3 := hX1.below kk3 hX1.lt
  simp [go_sem, IntWalk.iteOmega, IntWalk.toNatUp, hX3.cell, b2, b4, n30]
  refine wordE kk3 own3 (by omega) ?_
  intro v4 w4 own4 kk4
  have hX4 := hX1.below kk4 hX1.lt
  have c0 := hd1 0 _ rfl
  rw [← kk4.cell hb1, Nat.add_zero] at c0
  simp [go_sem, IntWalk.iteOmega, IntWalk.toNatUp, hX4.cell, b8]
  refine W_rounds [(), (), ()] ?_
  simp [go_sem, IntWalk.iteOmega, IntWalk.toNatUp, c0, n7]
  refine wordE kk4 own4 (by omega) ?_
  intro v5 w5 own5 kk5
  have c1 := hd1 1 _ rfl
  rw [← kk5.cell hb1] at c1
  simp [go_sem, IntWalk.iteOmega, IntWalk.toNatUp, c1, n0]
  refine wordE kk5 own5 (by omega) ?_
  intro v6 w6 own6 kk6
  simp [go_sem, IntWalk.iteOmega, IntWalk.toNatUp]
  refine callE_of (join_any own6 rfl (by omega) (by decide +kernel) (by omega)) ?_
  rintro _ w7 ⟨rfl, k7⟩
  simp [go_sem, IntWalk.iteOmega, IntWalk.toNatUp]
  exact ⟨congrArg strOf (show Lib.join [[116, 105, 99, 107], decDigits 1, decDigits 30, decDigits 7, decDigits 0] [32] = [116, 105, 99, 107, 32, 49, 32, 51, 48, 32, 55, 32, 48] by decide +kernel), (kB.trans (kk6.mono kB.size)).trans (k7.mono (kB.trans (kk6.mono kB.size)).size)⟩
set_option maxHeartbeats 6400000 in
theorem line_build {w : World} :
    callE Tryd.prog 15 #[.agg #[.int .i64 4, .int .i64 0, .int .i64 0, .int .i64 0, .slice none 0 0, .slice none 0 0]] w fun v w' => v = .tuple #[.string ⟨#[98, 117, 105, 108, 100, 32, 48, 32, 45]⟩, .int .i64 0] ∧ Below w.heap.size w w' := by
  have kA := ext_alloc w (.cells #[.int .i64 4, .int .i64 0, .int .i64 0, .int .i64 0, .slice none 0 0, .slice none 0 0] 40)
  have hX : Blk (w.alloc (.cells #[.int .i64 4, .int .i64 0, .int .i64 0, .int .i64 0, .slice none 0 0, .slice none 0 0] 40)) w.heap.size 40 #[.int .i64 4, .int .i64 0, .int .i64 0, .int .i64 0, .slice none 0 0, .slice none 0 0] := Blk.self_ rfl
  refine calls_E Tryd.func15 rfl rfl rfl (Nat.le_of_ble_eq_true rfl) ?_
  simp [go_sem, IntWalk.iteOmega, IntWalk.toNatUp]
  generalize w.alloc (.cells #[.int .i64 4, .int .i64 0, .int .i64 0, .int .i64 0, .slice none 0 0, .slice none 0 0] 40) = W at *
  refine callE_of check_build ?_
  rintro _ w1 ⟨rfl, k1⟩
  have hX1 := hX.keep k1
  have kB := kA.trans (k1.mono kA.size)
  have b1 : bits .and .i64 25 1 = 1 := by decide +kernel
  have b2 : bits .and .i64 25 2 = 0 := by decide +kernel
  have b4 : bits .and .i64 25 4 = 0 := by decide +kernel
  have b8 : bits .and .i64 25 8 = 8 := by decide +kernel
  have n0 : ∀ w k, callE Tryd.prog 21 #[.int .i64 0] w k = k (.string (strOf (decDigits 0))) w := fun w k => callE_eq noinit_num (num_runs 0 (by omega) w) k
  have ct : (⟨#[98, 117, 105, 108, 100]⟩ : ByteArray) = strOf [98, 117, 105, 108, 100] := rfl
  simp [go_sem, IntWalk.iteOmega, IntWalk.toNatUp, hX1.cell, form4E, b1, ct]
  have own2 := own_one (w := w1) [98, 117, 105, 108, 100]
  have kk2 := ext_alloc w1 (.cells #[.string (strOf [98, 117, 105, 108, 100])] 9)
  have hX2 := hX1.below kk2 hX1.lt
  generalize w1.alloc (.cells #[.string (strOf [98, 117, 105, 108, 100])] 9) = w2 at *
  generalize (Value.slice (some ⟨w1.heap.size, 0, none⟩) 1 1) = v2 at *
  simp [go_sem, IntWalk.iteOmega, IntWalk.toNatUp, hX2.cell, n0]
  refine wordE kk2 own2 (by omega) ?_
  intro v3 w3 own3 kk3
  have hX3 := hX1.below kk3 hX1.lt
  simp [go_sem, IntWalk.iteOmega, IntWalk.toNatUp, hX3.cell, b2, b4, b8]
  refine callE_of (hex_any [] (by simp) _ w3 ⟨none, 0, rfl, ⟨rfl, fun h => by simp at h⟩, fun _ => ⟨rfl, rfl⟩, by simp, by omega⟩) ?_
  rintro _ w4 ⟨rfl, k4⟩
  have kk4 := kk3.trans (k4.mono kk3.size)
  have own4 := own_keep own3 k4
  have hX4 := hX1.below kk4 hX1.lt
  simp [go_sem, IntWalk.iteOmega, IntWalk.toNatUp]
  refine wordE kk4 own4 (by omega) ?_
  intro v5 w5 own5 kk5
  have hX5 := hX1.below kk5 hX1.lt
  simp [go_sem, IntWalk.iteOmega, IntWalk.toNatUp, hX5.cell]
  refine W_rounds [()] ?_
  simp [go_sem, IntWalk.iteOmega, IntWalk.toNatUp]
  refine callE_of (join_any own5 rfl (by omega) (by decide +kernel) (by omega)) ?_
  rintro _ w7 ⟨rfl, k7⟩
  simp [go_sem, IntWalk.iteOmega, IntWalk.toNatUp]
  exact ⟨congrArg strOf (show Lib.join [[98, 117, 105, 108, 100], decDigits 0, hexV []] [32] = [98, 117, 105, 108, 100, 32, 48, 32, 45] by decide +kernel), (kB.trans (kk5.mono kB.size)).trans (k7.mono (kB.trans (kk5.mono kB.size)).size)⟩
end Go.Proofs.YtmdkkhogldklnaaDoorRRRR
