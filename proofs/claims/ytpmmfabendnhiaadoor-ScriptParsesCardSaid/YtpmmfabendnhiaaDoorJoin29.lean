/-
  Texts joined: SMove, PLive, PRLaw.
-/
import Derived.Test.YtpmmfabendnhiaaDoorJoin28
namespace Go.Proofs.YtpmmfabendnhiaaDoor
open Go.RowKit
open Go.Lib (strCells byteCells decDigits)
set_option linter.unusedVariables false
set_option linter.unusedSimpArgs false
set_option maxRecDepth 10000
theorem noinit_word : Tryd.prog.inits.idxOf? 25 = none := by kernel_rfl
theorem noinit_kind : Tryd.prog.inits.idxOf? 24 = none := by kernel_rfl
theorem kind_runs (w : World) : Runs Tryd.prog 24 #[.string (strOf [116, 105, 99, 107])] w (.int .i64 3) w := by
  refine runs_of_callE ?_
  have el : (strOf [116, 105, 99, 107]).toList = [116, 105, 99, 107] := by rw [ByteArray.toList_eq]; rfl
  refine calls_E Tryd.func24 rfl rfl rfl (Nat.le_of_ble_eq_true rfl) ?_
  simp [go_sem, IntWalk.iteOmega, IntWalk.toNatUp]
  refine W_rounds [(), (), ()] ?_
  simp [go_sem, IntWalk.iteOmega, IntWalk.toNatUp, form1E, form2E, form3E, el]
theorem word_runs {w : World} {tb g o n c : Nat} {s : ByteArray} (h : Blk w tb 77 #[.slice (some ⟨g, o, none⟩) (n + 1) c, .bool false]) (hx : w.cell? ⟨g, o, none⟩ = some (.string s)) (hc : n + 1 ≤ c) :
    Runs Tryd.prog 25 #[.pointer (some ⟨tb, 0, none⟩)] w (.string s) (w.setCell ⟨tb, 0, none⟩ (.slice (if c = 1 then some ⟨g, o, none⟩ else some ⟨g, o + 1, none⟩) n (c - 1))) := by
  refine runs_of_callE ?_
  have q1 : (((n + 1 : Nat) : Int) == 0) = false := by simp; omega
  have q2 : (((n : Nat) : Int) + 1 == 0) = false := by simp; omega
  refine calls_E Tryd.func25 rfl rfl rfl (Nat.le_of_ble_eq_true rfl) ?_
  simp [go_sem, IntWalk.iteOmega, IntWalk.toNatUp, h.cell, h.frozen, q1, q2, hx]
theorem num_take {w : World} {tb g o n c : Nat} {t : List UInt8} {r : Nat} (h : Blk w tb 77 #[.slice (some ⟨g, o, none⟩) (n + 1) c, .bool false]) (hx : w.cell? ⟨g, o, none⟩ = some (.string (strOf t))) (hc : n + 1 ≤ c) (ht : t.length ≤ 50000) (hr : numV t = some r) (hr2 : r ≤ 100) :
    callE Tryd.prog 26 #[.pointer (some ⟨tb, 0, none⟩)] w fun v w' => v = .int .i64 r ∧ Below w.heap.size (w.setCell ⟨tb, 0, none⟩ (.slice (if c = 1 then some ⟨g, o, none⟩ else some ⟨g, o + 1, none⟩) n (c - 1))) w' := by
  have r1 := fun k => callE_eq noinit_word (word_runs h hx hc) k
  have hsz : (w.setCell ⟨tb, 0, none⟩ (.slice (if c = 1 then some ⟨g, o, none⟩ else some ⟨g, o + 1, none⟩) n (c - 1))).heap.size = w.heap.size := sz_set _ _ _
  refine calls_E Tryd.func26 rfl rfl rfl (Nat.le_of_ble_eq_true rfl) ?_
  simp [go_sem, IntWalk.iteOmega, IntWalk.toNatUp, r1]
  generalize w.setCell ⟨tb, 0, none⟩ (.slice (if c = 1 then some ⟨g, o, none⟩ else some ⟨g, o + 1, none⟩) n (c - 1)) = W at *
  refine callE_of (number_any t ht W) ?_
  rintro _ w1 ⟨rfl, k1⟩
  have hn : numR t = .tuple #[.int .u64 r, .int .i64 0] := by unfold numR; rw [hr]
  have q1 : ¬ (4611686018427387903 : Int) < r := by omega
  have f1 : IntKind.i64.wrap (r : Int) = r := IntWalk.i64_in _ (by omega)
  rw [hsz] at k1
  simp [go_sem, IntWalk.iteOmega, IntWalk.toNatUp, hn, q1, f1]
  exact k1
set_option maxHeartbeats 6400000 in
theorem move_tick {w : World} :
    callE Tryd.prog 11 #[.string ⟨#[116, 105, 99, 107, 32, 49, 32, 51, 48, 32, 55, 32, 48]⟩] w fun v w' => (∃ a c, v = .tuple #[.agg #[.int .i64 3, .int .i64 1, .int .i64 0, .int .i64 30, .slice none 0 0, .slice a 2 c], .int .i64 0]) ∧ Below w.heap.size w w' := by
  have ct : (⟨#[116, 105, 99, 107, 32, 49, 32, 51, 48, 32, 55, 32, 48]⟩ : ByteArray) = strOf [116, 105, 99, 107, 32, 49, 32, 51, 48, 32, 55, 32, 48] := rfl
  have hws : wordsV [116, 105, 99, 107, 32, 49, 32, 51, 48, 32, 55, 32, 48] = [[116, 105, 99, 107], [49], [51, 48], [55], [48]] := by decide +kernel
  refine calls_E Tryd.func11 rfl rfl rfl (Nat.le_of_ble_eq_true rfl) ?_
  simp [go_sem, IntWalk.iteOmega, IntWalk.toNatUp, ct]
  have kR := ext_alloc w (.cells #[.int .i64 0, .int .i64 0, .int .i64 0, .int .i64 0, .slice none 0 0, .slice none 0 0] 48)
  have hR : Blk (w.alloc (.cells #[.int .i64 0, .int .i64 0, .int .i64 0, .int .i64 0, .slice none 0 0, .slice none 0 0] 48)) w.heap.size 48 #[.int .i64 0, .int .i64 0, .int .i64 0, .int .i64 0, .slice none 0 0, .slice none 0 0] := Blk.self_ rfl
  generalize w.alloc (.cells #[.int .i64 0, .int .i64 0, .int .i64 0, .int .i64 0, .slice none 0 0, .slice none 0 0] 48) = w0 at *
  refine callE_of (words_any _ (by simp) w0) ?_
  rintro v1 w1 ⟨o1, k1⟩
  rw [hws] at o1
  have kk1 := kR.trans (k1.mono kR.size)
  have hR1 := hR.keep k1
  obtain ⟨g, c, rfl, hc, hbg, hg, hcells⟩ := own_slice o1 (by simp)
  simp only [List.length_cons, List.length_nil, Nat.zero_add, Nat.reduceAdd] at hc hcells o1
  have hgl : g < w1.heap.size := hg
  have cell_ : ∀ W, Below w1.heap.size w1 W → ∀ (j : Nat) (s : List UInt8), [[116, 105, 99, 107], [49], [51, 48], [55], [48]][j]? = some s → W.cell? ⟨g, j, none⟩ = some (.string (strOf s)) := by
    intro W hW j s hj
    have h1 := hcells j (.string (strOf s)) (by simp only [strs, List.getElem?_map, hj]; rfl)
    rw [hW.cell hgl]; exact h1
  simp [go_sem, IntWalk.iteOmega, IntWalk.toNatUp]
  have kA := ext_alloc w1 (.cells #[.slice (some ⟨g, 0, none⟩) 5 c, .bool false] 77)
  have hT2 : Blk (w1.alloc (.cells #[.slice (some ⟨g, 0, none⟩) 5 c, .bool false] 77)) w1.heap.size 77 #[.slice (some ⟨g, 0, none⟩) 5 c, .bool false] := Blk.self_ rfl
  generalize w1.alloc (.cells #[.slice (some ⟨g, 0, none⟩) 5 c, .bool false] 77) = w2 at *
  have r1 := fun k => callE_eq noinit_word (word_runs hT2 (cell_ w2 kA 0 _ rfl) hc) k
  have rk := fun w k => callE_eq noinit_kind (kind_runs w) k
  rw [if_neg (show ¬ c = 1 by omega)] at r1
  simp [go_sem, IntWalk.iteOmega, IntWalk.toNatUp, r1, rk]
  have hT3 : Blk (w2.setCell ⟨w1.heap.size, 0, none⟩ (.slice (some ⟨g, 1, none⟩) 4 (c - 1))) w1.heap.size 77 #[.slice (some ⟨g, 1, none⟩) 4 (c - 1), .bool false] := Blk_set (o := 0) (v := .slice (some ⟨g, 1, none⟩) 4 (c - 1)) hT2
  have k3 := kA.setCell (p := ⟨w1.heap.size, 0, none⟩) (Nat.le_refl _) (.slice (some ⟨g, 1, none⟩) 4 (c - 1))
  have hs3 : (w2.setCell ⟨w1.heap.size, 0, none⟩ (.slice (some ⟨g, 1, none⟩) 4 (c - 1))).heap.size = w2.heap.size := sz_set _ _ _
  have hlt2 := hT2.lt
  generalize w2.setCell ⟨w1.heap.size, 0, none⟩ (.slice (some ⟨g, 1, none⟩) 4 (c - 1)) = w3 at *
  rw [← hs3]
  have k4 := k3.alloc k3.size (.cells #[.int .i64 3, .int .i64 0, .int .i64 0, .int .i64 0, .slice none 0 0, .slice none 0 0] 48)
  have hT4 := hT3.more (.cells #[.int .i64 3, .int .i64 0, .int .i64 0, .int .i64 0, .slice none 0 0, .slice none 0 0] 48)
  have hM4 : Blk (w3.alloc (.cells #[.int .i64 3, .int .i64 0, .int .i64 0, .int .i64 0, .slice none 0 0, .slice none 0 0] 48)) w3.heap.size 48 #[.int .i64 3, .int .i64 0, .int .i64 0, .int .i64 0, .slice none 0 0, .slice none 0 0] := Blk.self_ rfl
  have hlt3 := hT3.lt
  generalize w3.alloc (.cells #[.int .i64 3, .int .i64 0, .int .i64 0, .int .i64 0, .slice none 0 0, .slice none 0 0] 48) = w4 at *
  have hb1 : bits .and .i64 21 1 = 1 := by decide +kernel
  have hb2 : bits .and .i64 21 2 = 0 := by decide +kernel
  have hb4 : bits .and .i64 21 4 = 4 := by decide +kernel
  have hb8 : bits .and .i64 21 8 = 0 := by decide +kernel
  simp [go_sem, IntWalk.iteOmega, IntWalk.toNatUp, hM4.cell, form3E, hb1]
  generalize w3.heap.size = mb at *
  generalize htb : w1.heap.size = tb at *
  have hne : mb ≠ tb := by omega
  refine callE_of (num_take hT4 (cell_ w4 k4 1 _ rfl) (by omega) (by simp) (show numV [49] = some 1 by decide +kernel) (by omega)) ?_
  rintro _ w5 ⟨rfl, k5⟩
  rw [if_neg (show ¬ c - 1 = 1 by omega)] at k5
  have hT5 : Blk w5 tb 77 #[.slice (some ⟨g, 2, none⟩) 3 (c - 1 - 1), .bool false] := Blk.below (Blk_set (o := 0) (v := .slice (some ⟨g, 2, none⟩) 3 (c - 1 - 1)) hT4) k5 hT4.lt
  have hM5 := (hM4.farCell hne (o := 0) (.slice (some ⟨g, 2, none⟩) 3 (c - 1 - 1))).below k5 hM4.lt
  have kk5 : Below tb w1 w5 := (k4.setCell (p := ⟨tb, 0, none⟩) (Nat.le_refl _) (.slice (some ⟨g, 2, none⟩) 3 (c - 1 - 1))).trans (k5.mono (by have := hT4.lt; omega))
  simp [go_sem, IntWalk.iteOmega, IntWalk.toNatUp, hM5.cell, hM5.frozen]
  have hM6 : Blk (w5.setCell ⟨mb, 1, none⟩ (.int .i64 1)) mb 48 #[.int .i64 3, .int .i64 1, .int .i64 0, .int .i64 0, .slice none 0 0, .slice none 0 0] := Blk_set hM5
  have hT6 := hT5.farCell (Ne.symm hne) (o := 1) (.int .i64 1)
  have kk6 := kk5.setCell (p := ⟨mb, 1, none⟩) (show tb ≤ mb by omega) (.int .i64 1)
  generalize w5.setCell ⟨mb, 1, none⟩ (.int .i64 1) = w6 at *
  simp [go_sem, IntWalk.iteOmega, IntWalk.toNatUp, hM6.cell, hb2, hb4]
  refine callE_of (num_take hT6 (cell_ w6 kk6 2 _ rfl) (by omega) (by simp) (show numV [51, 48] = some 30 by decide +kernel) (by omega)) ?_
  rintro _ w7 ⟨rfl, k7⟩
  rw [if_neg (show ¬ c - 1 - 1 = 1 by omega)] at k7
  have hT7 : Blk w7 tb 77 #[.slice (some ⟨g, 3, none⟩) 2 (c - 1 - 1 - 1), .bool false] := Blk.below (Blk_set (o := 0) (v := .slice (some ⟨g, 3, none⟩) 2 (c - 1 - 1 - 1)) hT6) k7 hT6.lt
  have hM7 := (hM6.farCell hne (o := 0) (.slice (some ⟨g, 3, none⟩) 2 (c - 1 - 1 - 1))).below k7 hM6.lt
  have kk7 : Below tb w1 w7 := (kk6.setCell (p := ⟨tb, 0, none⟩) (Nat.le_refl _) (.slice (some ⟨g, 3, none⟩) 2 (c - 1 - 1 - 1))).trans (k7.mono (by have := hT6.lt; omega))
  simp [go_sem, IntWalk.iteOmega, IntWalk.toNatUp, hM7.cell, hM7.frozen]
  have hM8 : Blk (w7.setCell ⟨mb, 3, none⟩ (.int .i64 30)) mb 48 #[.int .i64 3, .int .i64 1, .int .i64 0, .int .i64 30, .slice none 0 0, .slice none 0 0] := Blk_set hM7
  have hT8 := hT7.farCell (Ne.symm hne) (o := 3) (.int .i64 30)
  have kk8 := kk7.setCell (p := ⟨mb, 3, none⟩) (show tb ≤ mb by omega) (.int .i64 30)
  generalize w7.setCell ⟨mb, 3, none⟩ (.int .i64 30) = w8 at *
  simp [go_sem, IntWalk.iteOmega, IntWalk.toNatUp, hM8.cell, hT8.cell, hb8]
  refine W_rounds [(), (), ()] ?_
  have r9 := fun k => callE_eq noinit_word (word_runs hT8 (cell_ w8 kk8 3 _ rfl) (by omega)) k
  rw [if_neg (show ¬ c - 1 - 1 - 1 = 1 by omega)] at r9
  simp [go_sem, IntWalk.iteOmega, IntWalk.toNatUp, r9]
  have hT9 : Blk (w8.setCell ⟨tb, 0, none⟩ (.slice (some ⟨g, 4, none⟩) 1 (c - 1 - 1 - 1 - 1))) tb 77 #[.slice (some ⟨g, 4, none⟩) 1 (c - 1 - 1 - 1 - 1), .bool false] := Blk_set (o := 0) (v := .slice (some ⟨g, 4, none⟩) 1 (c - 1 - 1 - 1 - 1)) hT8
  have hM9 := hM8.farCell hne (o := 0) (.slice (some ⟨g, 4, none⟩) 1 (c - 1 - 1 - 1 - 1))
  have kk9 := kk8.setCell (p := ⟨tb, 0, none⟩) (Nat.le_refl _) (.slice (some ⟨g, 4, none⟩) 1 (c - 1 - 1 - 1 - 1))
  generalize w8.setCell ⟨tb, 0, none⟩ (.slice (some ⟨g, 4, none⟩) 1 (c - 1 - 1 - 1 - 1)) = w9 at *
  refine callE_of (number_any [55] (by simp) w9) ?_
  rintro _ w10 ⟨rfl, k10⟩
  have n7 : numR [55] = .tuple #[.int .u64 7, .int .i64 0] := by unfold numR; rw [show numV [55] = some 7 by decide +kernel]; rfl
  have hT10 := hT9.keep k10
  have hM10 := hM9.keep k10
  have kk10 := kk9.trans (k10.mono (by have := hT9.lt; omega))
  simp [go_sem, IntWalk.iteOmega, IntWalk.toNatUp, n7, hM10.cell]
  have htl10 := hT10.lt
  have hml10 := hM10.lt
  have hN10 : Blk (w10.alloc (.cells #[.int .u64 7] 53)) w10.heap.size 53 #[.int .u64 7] := Blk.self_ rfl
  have kA10 := ext_alloc w10 (.cells #[.int .u64 7] 53)
  refine appendE w10.heap.size 53 1 8 Tryd.underlying46 el53 (World.ownsRow_nil _ _ _ _) (m := 1) (news := [.int .u64 7]) ⟨rfl, fun _ => ⟨_, 0, rfl, hN10.lt, fun j u hu => by rw [hN10.cell]; simpa using hu⟩⟩ rfl (by unfold maxLen; omega) (by omega) kA10.size ?_
  intro v11 w11 own11 g11 _
  have kg11 : Below w10.heap.size w10 w11 := kA10.grown g11 kA10.size (fun k hk => by cases hk)
  have hT11 := hT10.keep kg11
  have hM11 := hM10.keep kg11
  have kk11 := kk10.trans (kg11.mono (by omega))
  obtain ⟨g1, c1, rfl, hc1, hbg1, hg1, -⟩ := own_slice own11 (by omega)
  simp [go_sem, IntWalk.iteOmega, IntWalk.toNatUp, hM11.cell, hM11.frozen]
  have hM12 : Blk (w11.setCell ⟨mb, 5, none⟩ (.slice (some ⟨g1, 0, none⟩) 1 c1)) mb 48 #[.int .i64 3, .int .i64 1, .int .i64 0, .int .i64 30, .slice none 0 0, .slice (some ⟨g1, 0, none⟩) 1 c1] := Blk_set hM11
  have hT12 := hT11.farCell (Ne.symm hne) (o := 5) (.slice (some ⟨g1, 0, none⟩) 1 c1)
  have kk12 := kk11.setCell (p := ⟨mb, 5, none⟩) (show tb ≤ mb by omega) (.slice (some ⟨g1, 0, none⟩) 1 c1)
  have own12 := ownsRow_setCell_below own11 (a := ⟨mb, 5, none⟩) (show mb < _ by omega) (.slice (some ⟨g1, 0, none⟩) 1 c1)
  have hs12 : (w11.setCell ⟨mb, 5, none⟩ (.slice (some ⟨g1, 0, none⟩) 1 c1)).heap.size = w11.heap.size := sz_set _ _ _
  have hsz11 := kg11.size
  generalize w11.setCell ⟨mb, 5, none⟩ (.slice (some ⟨g1, 0, none⟩) 1 c1) = w12 at *
  have r13 := fun k => callE_eq noinit_word (word_runs (n := 0) hT12 (cell_ w12 kk12 4 _ rfl) (by omega)) k
  generalize hv13 : (Value.slice (if c - 1 - 1 - 1 - 1 = 1 then some (⟨g, 4, none⟩ : Addr) else some ⟨g, 4 + 1, none⟩) 0 (c - 1 - 1 - 1 - 1 - 1)) = v13 at *
  simp [go_sem, IntWalk.iteOmega, IntWalk.toNatUp, r13]
  have hT13 : Blk (w12.setCell ⟨tb, 0, none⟩ v13) tb 77 #[v13, .bool false] := Blk_set (o := 0) (v := v13) hT12
  have hM13 := hM12.farCell hne (o := 0) v13
  have kk13 := kk12.setCell (p := ⟨tb, 0, none⟩) (Nat.le_refl _) v13
  have own13 := ownsRow_setCell_below own12 (a := ⟨tb, 0, none⟩) (show tb < _ by omega) v13
  have hs13 : (w12.setCell ⟨tb, 0, none⟩ v13).heap.size = w12.heap.size := sz_set _ _ _
  generalize w12.setCell ⟨tb, 0, none⟩ v13 = w13 at *
  refine callE_of (number_any [48] (by simp) w13) ?_
  rintro _ w14 ⟨rfl, k14⟩
  have n0 : numR [48] = .tuple #[.int .u64 0, .int .i64 0] := by unfold numR; rw [show numV [48] = some 0 by decide +kernel]; rfl
  have hT14 := hT13.keep k14
  have hM14 := hM13.keep k14
  have kk14 := kk13.trans (k14.mono (by have := hT13.lt; omega))
  have own14 := own_keep own13 k14
  simp [go_sem, IntWalk.iteOmega, IntWalk.toNatUp, n0, hM14.cell]
  have hsz14 := k14.size
  have hN14 : Blk (w14.alloc (.cells #[.int .u64 0] 53)) w14.heap.size 53 #[.int .u64 0] := Blk.self_ rfl
  have kA14 := ext_alloc w14 (.cells #[.int .u64 0] 53)
  refine appendE w10.heap.size 53 1 8 Tryd.underlying46 el53 (own_keep own14 kA14) (m := 1) (news := [.int .u64 0]) ⟨rfl, fun _ => ⟨_, 0, rfl, hN14.lt, fun j u hu => by rw [hN14.cell]; simpa using hu⟩⟩ rfl (by unfold maxLen; omega) (by omega) (by have := kA14.size; omega) ?_
  intro v15 w15 own15 g15 _
  have kg15 : Below w10.heap.size w14 w15 := (kA14.mono (by omega)).grown g15 (by have := kA14.size; omega) (fun k hk => by
    have : g1 = k := Option.some.inj hk
    omega)
  have hT15 := hT14.below kg15 htl10
  have hM15 := hM14.below kg15 hml10
  have kk15 := kk14.trans (kg15.mono (by omega))
  obtain ⟨g2, c2, rfl, hc2, hbg2, hg2, -⟩ := own_slice own15 (by omega)
  simp [go_sem, IntWalk.iteOmega, IntWalk.toNatUp, hM15.cell, hM15.frozen]
  have hM16 : Blk (w15.setCell ⟨mb, 5, none⟩ (.slice (some ⟨g2, 0, none⟩) 2 c2)) mb 48 #[.int .i64 3, .int .i64 1, .int .i64 0, .int .i64 30, .slice none 0 0, .slice (some ⟨g2, 0, none⟩) 2 c2] := Blk_set hM15
  have hT16 := hT15.farCell (Ne.symm hne) (o := 5) (.slice (some ⟨g2, 0, none⟩) 2 c2)
  have kk16 := kk15.setCell (p := ⟨mb, 5, none⟩) (show tb ≤ mb by omega) (.slice (some ⟨g2, 0, none⟩) 2 c2)
  generalize w15.setCell ⟨mb, 5, none⟩ (.slice (some ⟨g2, 0, none⟩) 2 c2) = w16 at *
  simp [go_sem, IntWalk.iteOmega, IntWalk.toNatUp, hM16.cell, hT16.cell, hT15.cell]
  refine callE_of check_tick ?_
  rintro _ w17 ⟨rfl, k17⟩
  have hM17 := hM16.keep k17
  have kk17 := kk16.trans (k17.mono (by have := hT16.lt; omega))
  have hR17 := hR1.below kk17 (by have := hR1.lt; omega)
  have hz : Blk (w17.setRow w.heap.size #[.int .i64 3, .int .i64 1, .int .i64 0, .int .i64 30, .slice none 0 0, .slice (some ⟨g2, 0, none⟩) 2 c2]) w.heap.size 48 #[.int .i64 3, .int .i64 1, .int .i64 0, .int .i64 30, .slice none 0 0, .slice (some ⟨g2, 0, none⟩) 2 c2] := Blk_setRow hR17
  simp [go_sem, IntWalk.iteOmega, IntWalk.toNatUp, hM17.cell, canWrite_all hR17 6 rfl, storeSeg_all hR17, hz.cell]
  have kAll : Below w.heap.size w w17 := kk1.trans (kk17.mono (by have := kk1.size; omega))
  exact below_setRow kAll (Nat.le_refl _) _
end Go.Proofs.YtpmmfabendnhiaaDoor
namespace Go.Proofs.YtpmmfabendnhiaaDoor
open Go.RowKit
open Go.Lib (strCells byteCells decDigits)
set_option linter.unusedVariables false
set_option linter.unusedSimpArgs false
set_option maxRecDepth 10000
set_option maxHeartbeats 6400000 in
theorem live_any (w : World) : callE Tryd.prog 4 #[] w fun v w' => v = .bool true ∧ Below w.heap.size w w' := by
  refine calls_E Tryd.func4 rfl rfl rfl (Nat.le_of_ble_eq_true rfl) ?_
  simp [go_sem, IntWalk.iteOmega, IntWalk.toNatUp]
  have k1 := ext_alloc w (.cells #[.int .u64 7, .int .u64 0] 53)
  have hD : Blk (w.alloc (.cells #[.int .u64 7, .int .u64 0] 53)) w.heap.size 53 #[.int .u64 7, .int .u64 0] := Blk.self_ rfl
  generalize w.alloc (.cells #[.int .u64 7, .int .u64 0] 53) = w1 at *
  refine callE_of (line_tick (fun j u hu => by rw [hD.cell, Nat.zero_add]; simpa using hu) hD.lt) ?_
  rintro _ w2 ⟨rfl, k2⟩
  have kk := ext_trans k1 k2
  simp [go_sem, IntWalk.iteOmega, IntWalk.toNatUp]
  refine callE_of line_build ?_
  rintro _ w3 ⟨rfl, k3⟩
  have kk := ext_trans kk k3
  simp [go_sem, IntWalk.iteOmega, IntWalk.toNatUp]
  refine callE_of move_tick ?_
  rintro _ w4 ⟨⟨a, c, rfl⟩, k4⟩
  have kk := ext_trans kk k4
  have hM : Blk (w4.alloc (.cells #[.int .i64 3, .int .i64 1, .int .i64 0, .int .i64 30, .slice none 0 0, .slice a 2 c] 48)) w4.heap.size 48 #[.int .i64 3, .int .i64 1, .int .i64 0, .int .i64 30, .slice none 0 0, .slice a 2 c] := Blk.self_ rfl
  have kk := kk.alloc kk.size (.cells #[.int .i64 3, .int .i64 1, .int .i64 0, .int .i64 30, .slice none 0 0, .slice a 2 c] 48)
  simp [go_sem, IntWalk.iteOmega, IntWalk.toNatUp]
  generalize w4.alloc (.cells #[.int .i64 3, .int .i64 1, .int .i64 0, .int .i64 30, .slice none 0 0, .slice a 2 c] 48) = w5 at *
  have ct : (⟨#[97, 32, 32, 98]⟩ : ByteArray) = strOf [97, 32, 32, 98] := rfl
  simp [go_sem, IntWalk.iteOmega, IntWalk.toNatUp, hM.cell, ct]
  refine callE_of (words_any [97, 32, 32, 98] (by simp) w5) ?_
  rintro v6 w6 ⟨o6, k6⟩
  have hws : wordsV [97, 32, 32, 98] = [[97], [], [98]] := by decide +kernel
  rw [hws] at o6
  obtain ⟨g, c6, rfl, -⟩ := own_slice o6 (by simp)
  simp [go_sem, IntWalk.iteOmega, IntWalk.toNatUp]
  exact ext_trans kk k6
end Go.Proofs.YtpmmfabendnhiaaDoor
namespace Go.Proofs.YtpmmfabendnhiaaDoor
open Go.RowKit
open Go.Lib (strCells byteCells decDigits cut)
set_option linter.unusedVariables false
set_option linter.unusedSimpArgs false
set_option maxRecDepth 10000
def MsOk (ms : List Mv) : Prop := ∀ m ∈ ms, m.draws.length ≤ 64
theorem moveV_fits {t : List UInt8} {m : Mv} (h : moveV 4009 t = some m) : m.draws.length ≤ 64 := by
  unfold moveV at h
  split at h
  · cases h
  · split at h
    · cases h
    · split at h
      · split at h
        · rename_i hf
          cases h
          exact hf.2
        · cases h
      · cases h
theorem step_ms {n : Nat} {l : List UInt8} {S S' : PS} {ms ms' : List Mv} (h : stepV n l S ms = some (S', ms')) (hok : MsOk ms) : MsOk ms' := by
  unfold stepV at h
  split at h
  · split at h
    · cases h; exact hok
    · cases h
  · split at h
    · split at h
      · cases h; exact hok
      · cases h
    · split at h
      · rename_i m hm
        split at h
        · cases h
          intro x hx
          rcases List.mem_append.1 hx with hx | hx
          · exact hok x hx
          · rw [List.mem_singleton.1 hx]; exact moveV_fits hm
        · cases h
      · cases h
theorem parseV_ok : ∀ (k : Nat) (t : List UInt8) (S : PS) (ms : List Mv) (n : Nat), t.length ≤ k → S.Ok ms → MsOk ms → ∀ S' ms' j, parseV t S ms n = (some (S', ms'), j) → S'.Ok ms' ∧ MsOk ms' ∧ j = 0 := by
  intro k
  induction k with
  | zero =>
    intro t S ms n hk h1 h2 S' ms' j h
    obtain rfl := List.length_eq_zero_iff.1 (Nat.le_zero.1 hk)
    by_cases hv : S.vs = []
    · rw [parseV_cut (by simp [hv]) (by decide)] at h
      cases h
    · rw [parseV_end hv] at h
      cases h
      exact ⟨h1, h2, rfl⟩
  | succ k ih =>
    intro t S ms n hk h1 h2 S' ms' j h
    by_cases he : t = [] ∧ S.vs ≠ []
    · obtain ⟨rfl, hv⟩ := he
      rw [parseV_end hv] at h
      cases h
      exact ⟨h1, h2, rfl⟩
    · cases hc : (Lib.cut t [10]).2.2 with
      | false => rw [parseV_cut he hc] at h; cases h
      | true =>
        cases hs : stepV n (Lib.cut t [10]).1 S ms with
        | none => rw [parseV_bad he hc hs] at h; cases h
        | some p =>
          obtain ⟨S1, ms1⟩ := p
          rw [parseV_step he hc hs] at h
          exact ih _ _ _ _ (by have := (cut_rest hc).1; omega) (step_ok hs h1) (step_ms hs h2) _ _ _ h
/-- What a text comes to: a plan, moves, a line, an error. -/
def outV (t : List UInt8) : PS × List Mv × Nat × Int := match parseV t PS0 [] 1 with
  | (some (S, ms), _) => (S, ms, 0, 0)
  | (none, k) => (PS0, [], k, 270)
theorem outV_ok (t : List UInt8) : (outV t).1.Ok (outV t).2.1 ∧ MsOk (outV t).2.1 := by
  unfold outV
  split
  · rename_i S ms j h
    have := parseV_ok t.length t PS0 [] 1 (Nat.le_refl _) ⟨by simp [PS0], by simp [PS0], by simp⟩ (fun m hm => by cases hm) S ms j h
    exact ⟨this.1, this.2.1⟩
  · exact ⟨⟨by simp [PS0], by simp [PS0], by simp⟩, fun m hm => by cases hm⟩
theorem RowsAt.low {B B' : Nat} {w : World} {S : PS} {ms : List Mv} {vv vb vf vm : Value} (h : RowsAt B w S ms vv vb vf vm) (hb : B' ≤ B) : RowsAt B' w S ms vv vb vf vm := by
  obtain ⟨xs, h1, h2, h3⟩ := h.moves
  exact ⟨row_low h.vs hb, row_low h.byz hb, row_low h.first hb, xs, h1, row_low h2 hb, fun x hx => (h3 x hx).low hb⟩
theorem PlanPost.out {t : List UInt8} {v : Value} {w' : World} (h : PlanPost t v w') : ∃ A1 c1 A2 c2 A3 c3 A4 c4, v = .tuple #[.agg (planL (outV t).1.c (outV t).1.now (.slice A1 (outV t).1.vs.length c1) (.slice A2 (outV t).1.byz.length c2) (.slice A3 (outV t).1.first.length c3)).toArray, .slice A4 (outV t).2.1.length c4, .int .i64 ((outV t).2.2.1 : Nat), .int .i64 (outV t).2.2.2] ∧ RowsAt 0 w' (outV t).1 (outV t).2.1 (.slice A1 (outV t).1.vs.length c1) (.slice A2 (outV t).1.byz.length c2) (.slice A3 (outV t).1.first.length c3) (.slice A4 (outV t).2.1.length c4) := by
  unfold PlanPost at h
  unfold outV
  split at h
  · rename_i S ms j e
    rw [e]
    obtain ⟨vv, vb, vf, vm, B, rfl, hr⟩ := h
    have hr := hr.low (Nat.zero_le B)
    obtain ⟨-, A1, c1, rfl⟩ := own_sl hr.vs
    obtain ⟨-, A2, c2, rfl⟩ := own_sl hr.byz
    obtain ⟨-, A3, c3, rfl⟩ := own_sl hr.first
    obtain ⟨xs, h1, h2, h3⟩ := hr.moves
    obtain ⟨-, A4, c4, rfl⟩ := own_sl h2
    exact ⟨A1, c1, A2, c2, A3, c3, A4, c4, rfl, hr⟩
  · rename_i k e
    rw [e]
    exact ⟨none, 0, none, 0, none, 0, none, 0, h, RowsAt.none0 w' 0⟩
set_option maxHeartbeats 6400000 in
theorem sparses_any (t : List UInt8) (ht : t.length ≤ 9223372036854775807) (m : Int) (w : World) (h2 : 0 < w.heap.size) (hm : w.cell? ⟨0, 0, none⟩ = some (.int .i64 m)) :
    callE Tryd.prog 3 #[.string (strOf t)] w fun v w' => v = .bool true ∧ Below w.heap.size w w' := by
  refine calls_E Tryd.func3 rfl rfl rfl (Nat.le_of_ble_eq_true rfl) ?_
  simp [go_sem, IntWalk.iteOmega, IntWalk.toNatUp]
  refine callE_of (live_any w) ?_
  rintro _ w1 ⟨rfl, k1⟩
  have hsz : (strOf t).size = t.length := strOf_size t
  by_cases hl : 20000 < t.length
  · have hl' : (20000 : Int) < t.length := by omega
    simp [go_sem, IntWalk.iteOmega, IntWalk.toNatUp, hsz, hl, hl']
    refine callE_of (live_any w1) ?_
    rintro _ w2 ⟨rfl, k2⟩
    simp [go_sem, IntWalk.iteOmega, IntWalk.toNatUp]
    exact ext_trans k1 k2
  · have hl' : ¬ (20000 : Int) < t.length := by omega
    simp [go_sem, IntWalk.iteOmega, IntWalk.toNatUp, hsz, hl, hl']
    refine callE_of (parse_any t (by omega) m w1 (by have := k1.size; omega) (by rw [k1.cell h2]; exact hm)) ?_
    rintro v w2 ⟨hp, k2⟩
    have kk := ext_trans k1 k2
    obtain ⟨A1, c1, A2, c2, A3, c3, A4, c4, rfl, hr1⟩ := hp.out
    have hX1 : (planL (outV t).1.c (outV t).1.now (.slice A1 (outV t).1.vs.length c1) (.slice A2 (outV t).1.byz.length c2) (.slice A3 (outV t).1.first.length c3)).length = 32 := planL_len _ _ _ _ _
    have hX2 : allOne (planL (outV t).1.c (outV t).1.now (.slice A1 (outV t).1.vs.length c1) (.slice A2 (outV t).1.byz.length c2) (.slice A3 (outV t).1.first.length c3)) = true := planL_one rfl rfl rfl
    obtain ⟨X, hX⟩ : ∃ X, planL (outV t).1.c (outV t).1.now (.slice A1 (outV t).1.vs.length c1) (.slice A2 (outV t).1.byz.length c2) (.slice A3 (outV t).1.first.length c3) = X := ⟨_, rfl⟩
    rw [hX] at hX1 hX2 ⊢
    simp [go_sem, IntWalk.iteOmega, IntWalk.toNatUp]
    rw [planZ_lit]
    have hP0 : Blk (w2.alloc (.cells planZ.toArray 39)) w2.heap.size 39 planZ.toArray := Blk.self_ rfl
    have hw0 := canWrite_all hP0 32 rfl
    have hs0 := storeSeg_all hP0 X (by rw [hX1]; rfl)
    rw [setRow_new] at hs0
    have kk1 := kk.alloc kk.size (.cells X.toArray 39)
    have hP1 : Blk (w2.alloc (.cells X.toArray 39)) w2.heap.size 39 X.toArray := Blk.self_ rfl
    have hr2 := hr1.below (ext_alloc w2 (.cells X.toArray 39))
    simp [go_sem, IntWalk.iteOmega, IntWalk.toNatUp, hw0, hs0, hX1, hX2]
    generalize w2.alloc (.cells X.toArray 39) = w3 at *
    refine callE_of (rparse_any t (by omega) w3) ?_
    rintro v4 w4 ⟨hq, k4⟩
    clear hs0 hw0 hP0 hp hr1
    have kk2 := ext_trans kk1 k4
    have hP2 := hP1.keep k4
    have hr3 := hr2.below k4
    obtain ⟨B1, d1, B2, d2, B3, d3, B4, d4, rfl, hq1⟩ := hq.out
    have hY1 : (planL (outV t).1.c (outV t).1.now (.slice B1 (outV t).1.vs.length d1) (.slice B2 (outV t).1.byz.length d2) (.slice B3 (outV t).1.first.length d3)).length = 32 := planL_len _ _ _ _ _
    have hY2 : allOne (planL (outV t).1.c (outV t).1.now (.slice B1 (outV t).1.vs.length d1) (.slice B2 (outV t).1.byz.length d2) (.slice B3 (outV t).1.first.length d3)) = true := planL_one rfl rfl rfl
    obtain ⟨Y, hY⟩ : ∃ Y, planL (outV t).1.c (outV t).1.now (.slice B1 (outV t).1.vs.length d1) (.slice B2 (outV t).1.byz.length d2) (.slice B3 (outV t).1.first.length d3) = Y := ⟨_, rfl⟩
    rw [hY] at hY1 hY2 ⊢
    simp [go_sem, IntWalk.iteOmega, IntWalk.toNatUp]
    rw [planZ_lit]
    have hP0 : Blk (w4.alloc (.cells planZ.toArray 39)) w4.heap.size 39 planZ.toArray := Blk.self_ rfl
    have hw0 := canWrite_all hP0 32 rfl
    have hs0 := storeSeg_all hP0 Y (by rw [hY1]; rfl)
    rw [setRow_new] at hs0
    have k5 := ext_alloc w4 (.cells Y.toArray 39)
    have kk3 := ext_trans kk2 k5
    have hQ1 : Blk (w4.alloc (.cells Y.toArray 39)) w4.heap.size 39 Y.toArray := Blk.self_ rfl
    have hP3 := hP2.keep k5
    have hr4 := hr3.below k5
    have hq4 := hq1.below k5
    have rP := readCells_all hP3 32 (by simp [hX1])
    have rQ := readCells_all hQ1 32 (by simp [hY1])
    have lP := hP3.lt
    have lQ := hQ1.lt
    obtain ⟨hok, hms⟩ := outV_ok t
    have hsp := rsamep_any hr4 hq4 hok.vs (by have := hok.vs; have := hok.byz; omega)
    rw [hX, hY] at hsp
    simp [go_sem, IntWalk.iteOmega, IntWalk.toNatUp, hw0, hs0, hY1, hY2, rP, rQ, lP, lQ]
    refine callE_of hsp ?_
    rintro _ w6 ⟨rfl, k6⟩
    have kk4 := ext_trans kk3 k6
    obtain ⟨xs, a1, a2, a3⟩ := (hr4.below k6).moves
    obtain ⟨ys, b1, b2, b3⟩ := (hq4.below k6).moves
    have hre := requal_any a1 a2 a3 b1 b2 b3 (by have := hok.ms; omega) (fun m hm => by have := hms m hm; omega)
    simp [go_sem, IntWalk.iteOmega, IntWalk.toNatUp]
    refine callE_of hre ?_
    rintro _ w7 ⟨rfl, k7⟩
    simp [go_sem, IntWalk.iteOmega, IntWalk.toNatUp]
    exact ext_trans kk4 k7
theorem sparses_any' (t : ByteArray) (ht : t.size ≤ 9223372036854775807) (w : World) (hm : ∃ m, w.cell? ⟨0, 0, none⟩ = some (.int .i64 m)) :
    callE Tryd.prog 3 #[.string t] w fun v w' => v = .bool true ∧ Below w.heap.size w w' := by
  obtain ⟨m, hm⟩ := hm
  have := sparses_any t.data.toList (by rw [Array.length_toList]; exact ht) m w (block_lt hm) hm
  rw [strOf_self] at this
  exact this
end Go.Proofs.YtpmmfabendnhiaaDoor
