/-
  The laws' own example: a line's move.
-/
import Derived.Test.YtmdkkhogldklnaaDoorRRRRSLine
namespace Go.Proofs.YtmdkkhogldklnaaDoorRRRR
open Go.RowKit
open Go.Lib (strCells byteCells decDigits)
set_option linter.unusedVariables false
set_option linter.unusedSimpArgs false
set_option maxRecDepth 10000
theorem noinit_word : Tryd.prog.inits.idxOf? 25 = none := by kernel_rfl
theorem noinit_kind : Tryd.prog.inits.idxOf? 24 = none := by kernel_rfl
theorem kind_runs (w : World) : Runs Tryd.prog 24 #[.string (strOf [116, 105, 99, 107])] w (.int .i64 3) w := by
  refine runs_of_callE ?_
  have el : (strOf [116, 105, 99, 107]).toList = [116, 105, 99, 107] := by rw [ByteArray.toList_eq]; rfl
  refine calls_E Tryd.func24 rfl rfl rfl (Nat.le_of_ble_eq_true rfl) ?_
  simp [go_sem, IntWalk.iteOmega, IntWalk.toNatUp]
  refine W_rounds [(), (), ()] ?_
  simp [go_sem, IntWalk.iteOmega, IntWalk.toNatUp, form1E, form2E, form3E, el]
theorem word_runs {w : World} {tb g o n c : Nat} {s : ByteArray} (h : Blk w tb 54 #[.slice (some ⟨g, o, none⟩) (n + 1) c, .bool false]) (hx : w.cell? ⟨g, o, none⟩ = some (.string s)) (hc : n + 1 ≤ c) :
    Runs Tryd.prog 25 #[.pointer (some ⟨tb, 0, none⟩)] w (.string s) (w.setCell ⟨tb, 0, none⟩ (.slice (if c = 1 then some ⟨g, o, none⟩ else some ⟨g, o + 1, none⟩) n (c - 1))) := by
  refine runs_of_callE ?_
  have q1 : (((n + 1 : Nat) : Int) == 0) = false := by simp; omega
  have q2 : (((n : Nat) : Int) + 1 == 0) = false := by simp; omega
  refine calls_E Tryd.func25 rfl rfl rfl (Nat.le_of_ble_eq_true rfl) ?_
  simp [go_sem, IntWalk.iteOmega, IntWalk.toNatUp, h.cell, h.frozen, q1, q2, hx]
theorem num_take {w : World} {tb g o n c : Nat} {t : List UInt8} {r : Nat} (h : Blk w tb 54 #[.slice (some ⟨g, o, none⟩) (n + 1) c, .bool false]) (hx : w.cell? ⟨g, o, none⟩ = some (.string (strOf t))) (hc : n + 1 ≤ c) (ht : t.length ≤ 50000) (hr : numV t = some r) (hr2 : r ≤ 100) :
    callE Tryd.prog 26 #[.pointer (some ⟨tb, 0, none⟩)] w fun v w' => v = .int .i64 r ∧ Below w.heap.size (w.setCell ⟨tb, 0, none⟩ (.slice (if c = 1 then some ⟨g, o, none⟩ else some ⟨g, o + 1, none⟩) n (c - 1))) w' := by
  have r1 := fun k => callE_eq noinit_word (word_runs h hx hc) k
  have hsz : (w.setCell ⟨tb, 0, none⟩ (.slice (if c = 1 then some ⟨g, o, none⟩ else some ⟨g, o + 1, none⟩) n (c - 1))).heap.size = w.heap.size := sz_set _ _ _
  refine calls_E Tryd.func26 rfl rfl rfl (Nat.le_of_ble_eq_true rfl) ?_
  simp [go_sem, IntWalk.iteOmega, IntWalk.toNatUp, r1]
  generalize w.setCell ⟨tb, 0, none⟩ (.slice (if c = 1 then some ⟨g, o, none⟩ else some ⟨g, o + 1, none⟩) n (c - 1)) = W at *
  refine callE_of (number_any t ht W) ?_
  rintro _ w1 ⟨rfl, k1⟩
  have hn : numR t = .tuple #[.int .u64 r, .int .i64 0] := by unfold numR; rw [hr]
  have q1 : ¬ (4611686018427387903 : Int) < r := by omega
  have f1 : IntKind.i64.wrap (r : Int) = r := IntWalk.i64_in _ (by omega)
  rw [hsz] at k1
  simp [go_sem, IntWalk.iteOmega, IntWalk.toNatUp, hn, q1, f1]
  exact k1
set_option maxHeartbeats 6400000 in
theorem move_tick {w : World} :
    callE Tryd.prog 16 #[.string ⟨#[116, 105, 99, 107, 32, 49, 32, 51, 48, 32, 55, 32, 48]⟩] w fun v w' => (∃ a c, v = .tuple #[.agg #[.int .i64 3, .int .i64 1, .int .i64 0, .int .i64 30, .slice none 0 0, .slice a 2 c], .int .i64 0]) ∧ Below w.heap.size w w' := by
  have ct : (⟨#[116, 105, 99, 107, 32, 49, 32, 51, 48, 32, 55, 32, 48]⟩ : ByteArray) = strOf [116, 105, 99, 107, 32, 49, 32, 51, 48, 32, 55, 32, 48] := rfl
  have hws : wordsV [116, 105, 99, 107, 32, 49, 32, 51, 48, 32, 55, 32, 48] = [[116, 105, 99, 107], [49], [51, 48], [55], [48]] := by decide +kernel
  refine calls_E Tryd.func16 rfl rfl rfl (Nat.le_of_ble_eq_true rfl) ?_
  simp [go_sem, IntWalk.iteOmega, IntWalk.toNatUp, ct]
  have kR := ext_alloc w (.cells #[.int .i64 0, .int .i64 0, .int .i64 0, .int .i64 0, .slice none 0 0, .slice none 0 0] 40)
  have hR : Blk (w.alloc (.cells #[.int .i64 0, .int .i64 0, .int .i64 0, .int .i64 0, .slice none 0 0, .slice none 0 0] 40)) w.heap.size 40 #[.int .i64 0, .int .i64 0, .int .i64 0, .int .i64 0, .slice none 0 0, .slice none 0 0] := Blk.self_ rfl
  generalize w.alloc (.cells #[.int .i64 0, .int .i64 0, .int .i64 0, .int .i64 0, .slice none 0 0, .slice none 0 0] 40) = w0 at *
  refine callE_of (words_any _ (by simp) w0) ?_
  rintro v1 w1 ⟨o1, k1⟩
  rw [hws] at o1
  have kk1 := kR.trans (k1.mono kR.size)
  have hR1 := hR.keep k1
  obtain ⟨g, c, rfl, hc, hbg, hg, hcells⟩ := own_slice o1 (by simp)
  simp only [List.length_cons, List.length_nil, Nat.zero_add, Nat.reduceAdd] at hc hcells o1
  have hgl : g < w1.heap.size := hg
  have cell_ : ∀ W, Below w1.heap.size w1 W → ∀ (j : Nat) (s : List UInt8), [[116, 105, 99, 107], [49], [51, 48], [55], [48]][j]? = some s → W.cell? ⟨g, j, none⟩ = some (.string (strOf s)) := by
    intro W hW j s hj
    have h1 := hcells j (.string (strOf s)) (by simp only [strs, List.getElem?_map, hj]; rfl)
    rw [hW.cell hgl]; exact h1
  simp [go_sem, IntWalk.iteOmega, IntWalk.toNatUp]
  have kA := ext_alloc w1 (.cells #[.slice (some ⟨g, 0, none⟩) 5 c, .bool false] 54)
  have hT2 : Blk (w1.alloc (.cells #[.slice (some ⟨g, 0, none⟩) 5 c, .bool false] 54)) w1.heap.size 54 #[.slice (some ⟨g, 0, none⟩) 5 c, .bool false] := Blk.self_ rfl
  generalize w1.alloc (.cells #[.slice (some ⟨g, 0, none⟩) 5 c, .bool false] 54) = w2 at *
  have r1 := fun k => callE_eq noinit_word (word_runs hT2 (cell_ w2 kA 0 _ rfl) hc) k
  have rk := fun w k => callE_eq noinit_kind (kind_runs w) k
  rw [if_neg (show ¬ c = 1 by omega)] at r1
  simp [go_sem, IntWalk.iteOmega, IntWalk.toNatUp, r1, rk]
  have hT3 : Blk (w2.setCell ⟨w1.heap.size, 0, none⟩ (.slice (some ⟨g, 1, none⟩) 4 (c - 1))) w1.heap.size 54 #[.slice (some ⟨g, 1, none⟩) 4 (c - 1), .bool false] := Blk_set (o := 0) (v := .slice (some ⟨g, 1, none⟩) 4 (c - 1)) hT2
  have k3 := kA.setCell (p := ⟨w1.heap.size, 0, none⟩) (Nat.le_refl _) (.slice (some ⟨g, 1, none⟩) 4 (c - 1))
  have hs3 : (w2.setCell ⟨w1.heap.size, 0, none⟩ (.slice (some ⟨g, 1, none⟩) 4 (c - 1))).heap.size = w2.heap.size := sz_set _ _ _
  have hlt2 := hT2.lt
  generalize w2.setCell ⟨w1.heap.size, 0, none⟩ (.slice (some ⟨g, 1, none⟩) 4 (c - 1)) = w3 at *
  rw [← hs3]
  have k4 := k3.alloc k3.size (.cells #[.int .i64 3, .int .i64 0, .int .i64 0, .int .i64 0, .slice none 0 0, .slice none 0 0] 40)
  have hT4 := hT3.more (.cells #[.int .i64 3, .int .i64 0, .int .i64 0, .int .i64 0, .slice none 0 0, .slice none 0 0] 40)
  have hM4 : Blk (w3.alloc (.cells #[.int .i64 3, .int .i64 0, .int .i64 0, .int .i64 0, .slice none 0 0, .slice none 0 0] 40)) w3.heap.size 40 #[.int .i64 3, .int .i64 0, .int .i64 0, .int .i64 0, .slice none 0 0, .slice none 0 0] := Blk.self_ rfl
  have hlt3 := hT3.lt
  generalize w3.alloc (.cells #[.int .i64 3, .int .i64 0, .int .i64 0, .int .i64 0, .slice none 0 0, .slice none 0 0] 40) = w4 at *
  have hb1 : bits .and .i64 21 1 = 1 := by decide +kernel
  have hb2 : bits .and .i64 21 2 = 0 := by decide +kernel
  have hb4 : bits .and .i64 21 4 = 4 := by decide +kernel
  have hb8 : bits .and .i64 21 8 = 0 := by decide +kernel
  simp [go_sem, IntWalk.iteOmega, IntWalk.toNatUp, hM4.cell, form3E, hb1]
  generalize w3.heap.size = mb at *
  generalize htb : w1.heap.size = tb at *
  have hne : mb ≠ tb := by omega
  refine callE_of (num_take hT4 (cell_ w4 k4 1 _ rfl) (by omega) (by simp) (show numV [49] = some 1 by decide +kernel) (by omega)) ?_
  rintro _ w5 ⟨rfl, k5⟩
  rw [if_neg (show ¬ c - 1 = 1 by omega)] at k5
  have hT5 : Blk w5 tb 54 #[.slice (some ⟨g, 2, none⟩) 3 (c - 1 - 1), .bool false] := Blk.below (Blk_set (o := 0) (v := .slice (some ⟨g, 2, none⟩) 3 (c - 1 - 1)) hT4) k5 hT4.lt
  have hM5 := (hM4.farCell hne (o := 0) (.slice (some ⟨g, 2, none⟩) 3 (c - 1 - 1))).below k5 hM4.lt
  have kk5 : Below tb w1 w5 := (k4.setCell (p := ⟨tb, 0, none⟩) (Nat.le_refl _) (.slice (some ⟨g, 2, none⟩) 3 (c - 1 - 1))).trans (k5.mono (by have := hT4.lt; omega))
  simp [go_sem, IntWalk.iteOmega, IntWalk.toNatUp, hM5.cell, hM5.frozen]
  have hM6 : Blk (w5.setCell ⟨mb, 1, none⟩ (.int .i64 1)) mb 40 #[.int .i64 3, .int .i64 1, .int .i64 0, .int .i64 0, .slice none 0 0, .slice none 0 0] := Blk_set hM5
  have hT6 := hT5.farCell (Ne.symm hne) (o := 1) (.int .i64 1)
  have kk6 := kk5.setCell (p := ⟨mb, 1, none⟩) (show tb ≤ mb by omega) (.int .i64 1)
  generalize w5.setCell ⟨mb, 1, none⟩ (.int .i64 1) = w6 at *
  simp [go_sem, IntWalk.iteOmega, IntWalk.toNatUp, hM6.cell, hb2, hb4]
  refine callE_of (num_take hT6 (cell_ w6 kk6 2 _ rfl) (by omega) (by simp) (show numV [51, 48] = some 30 by decide +kernel) (by omega)) ?_
  rintro _ w7 ⟨rfl, k7⟩
  rw [if_neg (show ¬ c - 1 - 1 = 1 by omega)] at k7
  have hT7 : Blk w7 tb 54 #[.slice (some ⟨g, 3, none⟩) 2 (c - 1 - 1 - 1), .bool false] := Blk.below (Blk_set (o := 0) (v := .slice (some ⟨g, 3, none⟩) 2 (c - 1 - 1 - 1)) hT6) k7 hT6.lt
  have hM7 := (hM6.farCell hne (o := 0) (.slice (some ⟨g, 3, none⟩) 2 (c - 1 - 1 - 1))).below k7 hM6.lt
  have kk7 : Below tb w1 w7 := (kk6.setCell (p := ⟨tb, 0, none⟩) (Nat.le_refl _) (.slice (some ⟨g, 3, none⟩) 2 (c - 1 - 1 - 1))).trans (k7.mono (by have := hT6.lt; omega))
  simp [go_sem, IntWalk.iteOmega, IntWalk.toNatUp, hM7.cell, hM7.frozen]
  have hM8 : Blk (w7.setCell ⟨mb, 3, none⟩ (.int .i64 30)) mb 40 #[.int .i64 3, .int .i64 1, .int .i64 0, .int .i64 30, .slice none 0 0, .slice none 0 0] := Blk_set hM7
  have hT8 := hT7.farCell (Ne.symm hne) (o := 3) (.int .i64 30)
  have kk8 := kk7.setCell (p := ⟨mb, 3, none⟩) (show tb ≤ mb by omega) (.int .i64 30)
  generalize w7.setCell ⟨mb, 3, none⟩ (.int .i64 30) = w8 at *
  simp [go_sem, IntWalk.iteOmega, IntWalk.toNatUp, hM8.cell, hT8.cell, hb8]
  refine W_rounds [(), (), ()] ?_
  have r9 := fun k => callE_eq noinit_word (word_runs hT8 (cell_ w8 kk8 3 _ rfl) (by omega)) k
  rw [if_neg (show ¬ c - 1 - 1 - 1 = 1 by omega)] at r9
  simp [go_sem, IntWalk.iteOmega, IntWalk.toNatUp, r9]
  have hT9 : Blk (w8.setCell ⟨tb, 0, none⟩ (.slice (some ⟨g, 4, none⟩) 1 (c - 1 - 1 - 1 - 1))) tb 54 #[.slice (some ⟨g, 4, none⟩) 1 (c - 1 - 1 - 1 - 1), .bool false] := Blk_set (o := 0) (v := .slice (some ⟨g, 4, none⟩) 1 (c - 1 - 1 - 1 - 1)) hT8
  have hM9 := hM8.farCell hne (o := 0) (.slice (some ⟨g, 4, none⟩) 1 (c - 1 - 1 - 1 - 1))
  have kk9 := kk8.setCell (p := ⟨tb, 0, none⟩) (Nat.le_refl _) (.slice (some ⟨g, 4, none⟩) 1 (c - 1 - 1 - 1 - 1))
  generalize w8.setCell ⟨tb, 0, none⟩ (.slice (some ⟨g, 4, none⟩) 1 (c - 1 - 1 - 1 - 1)) = w9 at *
  refine callE_of (number_any [55] (by simp) w9) ?_
  rintro _ w10 ⟨rfl, k10⟩
  have n7 : numR [55] = .tuple #[.int .u64 7, .int .i64 0] := by unfold numR; rw [show numV [55] = some 7 by decide +kernel]; rfl
  have hT10 := hT9.keep k10
  have hM10 := hM9.keep k10
  have kk10 := kk9.trans (k10.mono (by have := hT9.lt; omega))
  simp [go_sem, IntWalk.iteOmega, IntWalk.toNatUp, n7, hM10.cell]
  have htl10 := hT10.lt
  have hml10 := hM10.lt
  have hN10 : Blk (w10.alloc (.cells #[.int .u64 7] 27)) w10.heap.size 27 #[.int .u64 7] := Blk.self_ rfl
  have kA10 := ext_alloc w10 (.cells #[.int .u64 7] 27)
  refine appendE w10.heap.size 27 1 8 Tryd.underlying38 el27 (World.ownsRow_nil _ _ _ _) (m := 1) (news := [.int .u64 7]) ⟨rfl, fun _ => ⟨_, 0, rfl, hN10.lt, fun j u hu => by rw [hN10.cell]; simpa using hu⟩⟩ rfl (by unfold maxLen; omega) (by omega) kA10.size ?_
  intro v11 w11 own11 g11 _
  have kg11 : Below w10.heap.size w10 w11 := kA10.grown g11 kA10.size (fun k hk => by cases hk)
  have hT11 := hT10.keep kg11
  have hM11 := hM10.keep kg11
  have kk11 := kk10.trans (kg11.mono (by omega))
  obtain ⟨g1, c1, rfl, hc1, hbg1, hg1, -⟩ := own_slice own11 (by omega)
  simp [go_sem, IntWalk.iteOmega, IntWalk.toNatUp, hM11.cell, hM11.frozen]
  have hM12 : Blk (w11.setCell ⟨mb, 5, none⟩ (.slice (some ⟨g1, 0, none⟩) 1 c1)) mb 40 #[.int .i64 3, .int .i64 1, .int .i64 0, .int .i64 30, .slice none 0 0, .slice (some ⟨g1, 0, none⟩) 1 c1] := Blk_set hM11
  have hT12 := hT11.farCell (Ne.symm hne) (o := 5) (.slice (some ⟨g1, 0, none⟩) 1 c1)
  have kk12 := kk11.setCell (p := ⟨mb, 5, none⟩) (show tb ≤ mb by omega) (.slice (some ⟨g1, 0, none⟩) 1 c1)
  have own12 := ownsRow_setCell_below own11 (a := ⟨mb, 5, none⟩) (show mb < _ by omega) (.slice (some ⟨g1, 0, none⟩) 1 c1)
  have hs12 : (w11.setCell ⟨mb, 5, none⟩ (.slice (some ⟨g1, 0, none⟩) 1 c1)).heap.size = w11.heap.size := sz_set _ _ _
  have hsz11 := kg11.size
  generalize w11.setCell ⟨mb, 5, none⟩ (.slice (some ⟨g1, 0, none⟩) 1 c1) = w12 at *
  have r13 := fun k => callE_eq noinit_word (word_runs (n := 0) hT12 (cell_ w12 kk12 4 _ rfl) (by omega)) k
  generalize hv13 : (Value.slice (if c - 1 - 1 - 1 - 1 = 1 then some (⟨g, 4, none⟩ : Addr) else some ⟨g, 4 + 1, none⟩) 0 (c - 1 - 1 - 1 - 1 - 1)) = v13 at *
  simp [go_sem, IntWalk.iteOmega, IntWalk.toNatUp, r13]
  have hT13 : Blk (w12.setCell ⟨tb, 0, none⟩ v13) tb 54 #[v13, .bool false] := Blk_set (o := 0) (v := v13) hT12
  have hM13 := hM12.farCell hne (o := 0) v13
  have kk13 := kk12.setCell (p := ⟨tb, 0, none⟩) (Nat.le_refl _) v13
  have own13 := ownsRow_setCell_below own12 (a := ⟨tb, 0, none⟩) (show tb < _ by omega) v13
  have hs13 : (w12.setCell ⟨tb, 0, none⟩ v13).heap.size = w12.heap.size := sz_set _ _ _
  generalize w12.setCell ⟨tb, 0, none⟩ v13 = w13 at *
  refine callE_of (number_any [48] (by simp) w13) ?_
  rintro _ w14 ⟨rfl, k14⟩
  have n0 : numR [48] = .tuple #[.int .u64 0, .int .i64 0] := by unfold numR; rw [show numV [48] = some 0 by decide +kernel]; rfl
  have hT14 := hT13.keep k14
  have hM14 := hM13.keep k14
  have kk14 := kk13.trans (k14.mono (by have := hT13.lt; omega))
  have own14 := own_keep own13 k14
  simp [go_sem, IntWalk.iteOmega, IntWalk.toNatUp, n0, hM14.cell]
  have hsz14 := k14.size
  have hN14 : Blk (w14.alloc (.cells #[.int .u64 0] 27)) w14.heap.size 27 #[.int .u64 0] := Blk.self_ rfl
  have kA14 := ext_alloc w14 (.cells #[.int .u64 0] 27)
  refine appendE w10.heap.size 27 1 8 Tryd.underlying38 el27 (own_keep own14 kA14) (m := 1) (news := [.int .u64 0]) ⟨rfl, fun _ => ⟨_, 0, rfl, hN14.lt, fun j u hu => by rw [hN14.cell]; simpa using hu⟩⟩ rfl (by unfold maxLen; omega) (by omega) (by have := kA14.size; omega) ?_
  intro v15 w15 own15 g15 _
  have kg15 : Below w10.heap.size w14 w15 := (kA14.mono (by omega)).grown g15 (by have := kA14.size; omega) (fun k hk => by
    have : g1 = k := Option.some.inj hk
    omega)
  have hT15 := hT14.below kg15 htl10
  have hM15 := hM14.below kg15 hml10
  have kk15 := kk14.trans (kg15.mono (by omega))
  obtain ⟨g2, c2, rfl, hc2, hbg2, hg2, -⟩ := own_slice own15 (by omega)
  simp [go_sem, IntWalk.iteOmega, IntWalk.toNatUp, hM15.cell, hM15.frozen]
  have hM16 : Blk (w15.setCell ⟨mb, 5, none⟩ (.slice (some ⟨g2, 0, none⟩) 2 c2)) mb 40 #[.int .i64 3, .int .i64 1, .int .i64 0, .int .i64 30, .slice none 0 0, .slice (some ⟨g2, 0, none⟩) 2 c2] := Blk_set hM15
  have hT16 := hT15.farCell (Ne.symm hne) (o := 5) (.slice (some ⟨g2, 0, none⟩) 2 c2)
  have kk16 := kk15.setCell (p := ⟨mb, 5, none⟩) (show tb ≤ mb by omega) (.slice (some ⟨g2, 0, none⟩) 2 c2)
  generalize w15.setCell ⟨mb, 5, none⟩ (.slice (some ⟨g2, 0, none⟩) 2 c2) = w16 at *
  simp [go_sem, IntWalk.iteOmega, IntWalk.toNatUp, hM16.cell, hT16.cell, hT15.cell]
  refine callE_of check_tick ?_
  rintro _ w17 ⟨rfl, k17⟩
  have hM17 := hM16.keep k17
  have kk17 := kk16.trans (k17.mono (by have := hT16.lt; omega))
  have hR17 := hR1.below kk17 (by have := hR1.lt; omega)
  have hz : Blk (w17.setRow w.heap.size #[.int .i64 3, .int .i64 1, .int .i64 0, .int .i64 30, .slice none 0 0, .slice (some ⟨g2, 0, none⟩) 2 c2]) w.heap.size 40 #[.int .i64 3, .int .i64 1, .int .i64 0, .int .i64 30, .slice none 0 0, .slice (some ⟨g2, 0, none⟩) 2 c2] := Blk_setRow hR17
  simp [go_sem, IntWalk.iteOmega, IntWalk.toNatUp, hM17.cell, canWrite_all hR17 6 rfl, storeSeg_all hR17, hz.cell]
  have kAll : Below w.heap.size w w17 := kk1.trans (kk17.mono (by have := kk1.size; omega))
  exact below_setRow kAll (Nat.le_refl _) _
end Go.Proofs.YtmdkkhogldklnaaDoorRRRR
