/-
  Texts joined: FInsert, FEqI, FPutI, FPlace, FIndex, FPlaced, FWrong.
-/
import Derived.Test.YtdjcjjodbniebaaGreatDoorJoin16
import Derived.Lib.Overlaps
namespace Go.Proofs.YtdjcjjodbniebaaGreatDoor
open Go.RowKit
set_option linter.unusedVariables false
set_option linter.unusedSimpArgs false
set_option maxRecDepth 10000
def intsK (k : IntKind) (l : List Int) : List Value := l.map (Value.int k)
theorem intsK_length (k : IntKind) (l : List Int) : (intsK k l).length = l.length := by simp [intsK]
theorem one_ints (k : IntKind) (l : List Int) : allOne (intsK k l) = true := allOne_of fun v hv => by
  simp only [intsK, List.mem_map] at hv; obtain ⟨a, _, rfl⟩ := hv; rfl
theorem info64 : (Tryz.prog.info? 3).map (fun i => (i.zero, i.size, i.bytes)) = some (some (.int .i64 0), 1, 8) := by kernel_rfl
theorem sizeof2 (w : World) : (sizeOf 3).run Tryz.prog w = .ok 1 w := by
  exact run_sizeOf_shape (P := Tryz.prog) (w := w) shape3
theorem overlaps_call (w : World) (gx g o lb cb : Nat) (csx cur : Array Value) (hx : Blk w gx 3 csx) (hg : Blk w g 3 cur) (hne : gx ≠ g) (hc : cur.size ≠ 0) :
    (callFunc 124 #[.slice (some ⟨gx, 0, none⟩) 1 1, .slice (some ⟨g, o, none⟩) lb cb]).run Tryz.prog w = .ok (.value (.bool false)) w := by
  rw [run_callFunc_extern Tryz.func124 (by kernel_rfl) (by kernel_rfl) (by kernel_rfl) (e := Extern.SlicesOverlaps.overlaps #[50, 50] #[4]) (by kernel_rfl)]
  have sx : w.shape? gx = some (3, csx.size) := by unfold Blk at hx; simp [World.shape?, hx]
  have sg : w.shape? g = some (3, cur.size) := by unfold Blk at hg; simp [World.shape?, hg]
  rw [Lib.run_overlaps_apart (P := Tryz.prog) w 50 4 3 Tryz.underlying50 1 sizeof2 ⟨gx, 0, none⟩ ⟨g, o, none⟩ 1 1 lb cb hne 3 3 csx.size cur.size sx sg hc (hx.frozen 0) (hx.frozen _)]
  rfl
theorem hgb2 {w w' : World} {g g1 : Nat} {t : TypeId} {cs : Array Value} (h : Blk w g t cs) (hg : w.grownBy w' (some g1)) (hne : g ≠ g1) : Blk w' g t cs := (hg.block _ h.lt (fun e => hne (Option.some.inj e))).trans h
theorem ins_list {C X R : List Value} {i n : Nat} {x : Value} (hC : C.take n = X) (hi : i < n) (hX : X.length = n) : ((((C.take (i + 1) ++ X.drop i ++ R).take i ++ [x]) ++ (C.take (i + 1) ++ X.drop i ++ R).drop (i + 1))).take (n + 1) = X.take i ++ x :: X.drop i := by
  have hl : C.length ≥ n := by have := congrArg List.length hC; rw [List.length_take] at this; omega
  have h1 : (C.take (i + 1)).length = i + 1 := by rw [List.length_take]; omega
  have h2 : (C.take (i + 1) ++ X.drop i ++ R).take i = X.take i := by
    rw [List.append_assoc, List.take_append_of_le_length (by omega), List.take_take, Nat.min_eq_left (by omega), ← hC, List.take_take, Nat.min_eq_left (by omega)]
  have h3 : (C.take (i + 1) ++ X.drop i ++ R).drop (i + 1) = X.drop i ++ R := by
    rw [List.append_assoc]
    exact List.drop_left' h1
  rw [h2, h3]
  have h4 : (X.take i).length = i := by rw [List.length_take]; omega
  have h5 : (X.drop i).length = n - i := by rw [List.length_drop, hX]
  rw [show X.take i ++ [x] ++ (X.drop i ++ R) = (X.take i ++ x :: X.drop i) ++ R by simp]
  exact List.take_left' (by rw [List.length_append, List.length_cons, h4, h5]; omega)
set_option maxHeartbeats 3200000 in
theorem insert_any (xs : List Int) (x : Int) (i : Nat) (hi : i ≤ xs.length) (hlen : xs.length ≤ 1000) (base : Nat) (v : Value) (w : World) (hown : w.ownsRow base 3 1 v xs.length (intsK .i64 xs)) (gx : Nat) (hx : Blk w gx 3 #[.int .i64 x]) (hne : v.ownBlock ≠ some gx) (hbase : base ≤ w.heap.size) :
    callE Tryz.prog 86 #[v, .int .i64 i, .slice (some ⟨gx, 0, none⟩) 1 1] w fun v' w' => w'.ownsRow base 3 1 v' (xs.length + 1) (intsK .i64 (xs.take i ++ x :: xs.drop i)) ∧ w.grownBy w' v.ownBlock ∧ (v'.ownBlock = v.ownBlock ∨ ∃ k, v'.ownBlock = some k ∧ w.heap.size ≤ k) := by
  have hrx : Rd w 1 (some ⟨gx, 0, none⟩) 1 (intsK .i64 [x]) := ⟨rfl, fun _ => ⟨gx, 0, rfl, hx.lt, fun j u hu => by rw [hx.cell, Nat.zero_add, List.getElem?_toArray]; exact hu⟩⟩
  by_cases hend : i = xs.length
  · subst hend
    obtain ⟨hsl, A, c, rfl⟩ := own_sl hown
    obtain ⟨A', c', e, _, hA, hc1, hc2⟩ := hsl
    injection e with e1 _ e3
    subst e1; subst e3
    refine calls_E Tryz.func86 rfl rfl rfl (Nat.le_of_ble_eq_true rfl) ?_
    have h1 : ((xs.length : Nat) : Int) ≤ c := by omega
    simp [go_sem, IntWalk.iteOmega, IntWalk.toNatUp, h1]
    refine appendE base 3 1 8 Tryz.underlying50 el3 hown hrx rfl (by unfold maxLen; omega) (by omega) hbase ?_
    intro v' w' hown' hgr hblk
    simp [go_sem, IntWalk.iteOmega, IntWalk.toNatUp]
    refine ⟨?_, hgr, ?_⟩
    · simp [intsK] at hown' ⊢; exact hown'
    · rcases hblk with h | h
      · exact .inl h
      · exact .inr ⟨_, h, Nat.le_refl _⟩
  · have hown0 := hown
    rcases hown with ⟨hl, (⟨rfl, h0⟩ | ⟨g, cap, cur, rfl, hb, hg, hnc, hm, hs, ht⟩)⟩
    · omega
    have hgb : Blk w g 3 cur := hg
    have hgx : g ≠ gx := fun e => hne (by rw [e]; rfl)
    unfold maxLen at hm
    have h1 : (i : Int) ≤ xs.length := by omega
    have h2 : ((i : Int) == xs.length) = false := beq_eq_false_iff_ne.2 (by omega)
    have h3 : (i : Int) ≤ cap := by omega
    by_cases hroom : cap < xs.length + 1
    · have hroom' : (cap : Int) < xs.length + 1 := by omega
      refine calls_E Tryz.func86 rfl rfl rfl (Nat.le_of_ble_eq_true rfl) ?_
      simp [go_sem, IntWalk.iteOmega, IntWalk.toNatUp, h1, h2, h3, hroom']
      rw [show (xs.length : Int) + 1 - i = ((xs.length + 1 - i : Nat) : Int) by omega]
      refine append_makeE Tryz.underlying50 Tryz.underlying3 info64 rfl hgb (by omega) (by omega) (by omega) (by omega) (by omega) ?_
      intro w1 g1 cur1 cap1 hb1 hg1 hcap hcapm hsz1 htk1 kB1
      rw [show i + (xs.length + 1 - i) = xs.length + 1 by omega] at *
      have n1 : (i : Int) ≤ (xs.length : Int) + 1 := by omega
      have n2 : ¬ i = cap1 := by omega
      have n3 : (i : Int) ≤ cap1 := by omega
      have n4 : ((xs.length + 1 : Nat) : Int) ≤ cap1 := by omega
      have hx1 := hx.keep kB1
      have hx1c := hx1.cell
      have hg1' := hgb.keep kB1
      have hgne : g1 ≠ gx := by have := hx.lt; omega
      have hgne2 : g ≠ g1 := by have := hgb.lt; omega
      simp [go_sem, IntWalk.iteOmega, IntWalk.toNatUp, n1, n2, n3, n4]
      refine copyE Tryz.underlying50 (by kernel_rfl) [.int .i64 x] hb1 (o := i) (by show 1 = min 1 (xs.length + 1 - i); omega) (fun _ => rfl) (fun _ => ⟨_, rfl, fun j u hu => by rw [add_none, hx1c, Nat.zero_add, List.getElem?_toArray]; exact hu⟩) (by simp; omega) rfl ?_
      intro w2 cur2 hb2 hc2 hgr2 hsz2
      have hg2 := hgb2 hg1' hgr2 hgne2
      have kB2 : Below w.heap.size w w2 := kB1.grown hgr2 kB1.size (fun k hk => by injection hk with hk; omega)
      simp [go_sem, IntWalk.iteOmega, IntWalk.toNatUp, n1, n2, n3, n4]
      refine W_tail 8 follows (by kernel_rfl) ?_
      have m1 : (i : Int) + 1 ≤ (xs.length : Int) + 1 := by omega
      have m2 : ¬ i + 1 = cap1 := by omega
      have m3 : (i : Int) + 1 ≤ cap1 := by omega
      have m4 : ¬ i = cap := by omega
      simp [go_sem, IntWalk.iteOmega, IntWalk.toNatUp, m1, m2, m3, m4, h1, h3]
      have hsd : ∀ j u, ((intsK .i64 xs).drop i)[j]? = some u → w2.drew.cell? ⟨g, i + j, none⟩ = some u := fun j u hu => by
        rw [hg2.drew.cell, ← Array.getElem?_toList]
        rw [List.getElem?_drop, ← ht, Nat.mul_one] at hu
        rw [List.getElem?_take] at hu
        split at hu
        · exact hu
        · cases hu
      have hdl : ((intsK .i64 xs).drop i).length = xs.length - i := by rw [List.length_drop, intsK_length]
      have hc2l : cur2.size = cur1.size := by
        have := congrArg List.length hc2
        rw [List.length_append, List.length_append, List.length_take, List.length_drop, Array.length_toList, Array.length_toList] at this
        simp only [List.length_singleton] at this
        omega
      refine copyE Tryz.underlying50 (by kernel_rfl) ((intsK .i64 xs).drop i) hb2.drew (o := i + 1) (by rw [hdl]; show _ = min (xs.length - i) (xs.length - i); omega) (fun _ => rfl) (fun _ => ⟨_, rfl, fun j u hu => by rw [add_none]; exact hsd j u hu⟩) (fun _ => by rw [hdl]; omega) (by rw [intsK, ← List.map_drop]; exact one_ints _ _) ?_
      intro w3 cur3 hb3 hc3 hgr3 hsz3
      have kB3 : Below w.heap.size w w3 := kB2.drew.grown hgr3 kB2.size (fun k hk => by injection hk with hk; omega)
      simp [go_sem, IntWalk.iteOmega, IntWalk.toNatUp]
      refine ⟨⟨by rw [intsK_length]; simp; omega, .inr ⟨g1, cap1, cur3, rfl, by omega, hb3, hcap, by unfold maxLen; exact hcapm, ?_, ?_⟩⟩, ⟨kB3.os, kB3.tape, kB3.output, kB3.size, fun k hk _ => kB3.block k hk⟩, .inr ⟨g1, rfl, by omega⟩⟩
      · have := congrArg List.length hc3
        rw [List.length_append, List.length_append, hdl, List.length_take, List.length_drop, Array.length_toList, Array.length_toList] at this
        omega
      · rw [Nat.mul_one, hc3, hc2]
        have hX : (intsK .i64 xs).length = xs.length := intsK_length _ _
        have hpre : (cur1.toList.take i) = (intsK .i64 xs).take i := by
          rw [htk1, ← ht, Nat.mul_one, List.take_take, Nat.min_eq_left hi]
        have e1 : (cur1.toList.take i ++ [Value.int .i64 x] ++ cur1.toList.drop (i + [Value.int .i64 x].length)).take (i + 1) = (intsK .i64 xs).take i ++ [Value.int .i64 x] := by
          rw [hpre]
          exact List.take_left' (by rw [List.length_append, List.length_take, hX]; simp; omega)
        rw [e1, List.append_assoc, List.append_assoc]
        rw [← List.append_assoc ((intsK .i64 xs).take i), ← List.append_assoc]
        rw [List.take_left' (by rw [List.length_append, List.length_append, List.length_take, hX, hdl]; simp; omega)]
        simp [intsK]
    · have hroom' : ¬ (cap : Int) < xs.length + 1 := by omega
      refine calls_E Tryz.func86 rfl rfl rfl (Nat.le_of_ble_eq_true rfl) ?_
      have hov := overlaps_call w gx g (i + 1) (xs.length - i) (cap - (i + 1)) _ cur hx hgb (fun e => hgx e.symm) (by omega)
      simp [go_sem, IntWalk.iteOmega, IntWalk.toNatUp, h1, h2, h3, hroom', hov]
      refine W_tail 8 follows (by kernel_rfl) ?_
      have m1 : (i : Int) + 1 ≤ (xs.length : Int) + 1 := by omega
      have m2 : ¬ i + 1 = cap := by omega
      have m4 : ¬ i = cap := by omega
      have m5 : (i : Int) ≤ (xs.length : Int) + 1 := by omega
      simp [go_sem, IntWalk.iteOmega, IntWalk.toNatUp, m1, m2, m4, m5, h1, h3]
      have hsd : ∀ j u, ((intsK .i64 xs).drop i)[j]? = some u → w.drew.cell? ⟨g, i + j, none⟩ = some u := fun j u hu => by
        rw [hgb.drew.cell, ← Array.getElem?_toList]
        rw [List.getElem?_drop, ← ht, Nat.mul_one] at hu
        rw [List.getElem?_take] at hu
        split at hu
        · exact hu
        · cases hu
      have hX : (intsK .i64 xs).length = xs.length := intsK_length _ _
      have hdl : ((intsK .i64 xs).drop i).length = xs.length - i := by rw [List.length_drop, hX]
      refine copyE Tryz.underlying50 (by kernel_rfl) ((intsK .i64 xs).drop i) hgb.drew (o := i + 1) (by rw [hdl]; show _ = min (xs.length + 1 - i) (xs.length - i); omega) (fun _ => rfl) (fun _ => ⟨_, rfl, fun j u hu => by rw [add_none]; exact hsd j u hu⟩) (fun _ => by rw [hdl]; omega) (by rw [intsK, ← List.map_drop]; exact one_ints _ _) ?_
      intro w2 cur2 hb2 hc2 hgr2 hsz2
      have hx2 : Blk w2 gx 3 #[.int .i64 x] := (hgr2.block _ hx.lt (fun e => hgx (Option.some.inj e).symm)).trans hx
      have hx2c := hx2.cell
      have hc2l : cur2.size = cur.size := by
        have := congrArg List.length hc2
        rw [List.length_append, List.length_append, hdl, List.length_take, List.length_drop, Array.length_toList, Array.length_toList] at this
        omega
      simp [go_sem, IntWalk.iteOmega, IntWalk.toNatUp, m1, m2, m4, m5, h1, h3]
      refine copyE Tryz.underlying50 (by kernel_rfl) [.int .i64 x] hb2 (o := i) (by show 1 = min 1 (xs.length + 1 - i); omega) (fun _ => rfl) (fun _ => ⟨_, rfl, fun j u hu => by rw [add_none, hx2c, Nat.zero_add, List.getElem?_toArray]; exact hu⟩) (by simp; omega) rfl ?_
      intro w3 cur3 hb3 hc3 hgr3 hsz3
      simp [go_sem, IntWalk.iteOmega, IntWalk.toNatUp]
      refine ⟨⟨by rw [intsK_length]; simp; omega, .inr ⟨g, cap, cur3, rfl, hb, hb3, by omega, by unfold maxLen; exact hm, ?_, ?_⟩⟩, ⟨hgr3.os.trans hgr2.os, hgr3.tape.trans hgr2.tape, hgr3.output.trans hgr2.output, by rw [hsz3, hsz2]; exact Nat.le_refl _, fun k hk hk2 => ?_⟩, .inl rfl⟩
      · have := congrArg List.length hc3
        rw [List.length_append, List.length_append, List.length_take, List.length_drop, Array.length_toList, Array.length_toList] at this
        simp only [List.length_singleton] at this
        omega
      · rw [Nat.mul_one, hc3, hc2, hdl, show i + 1 + (xs.length - i) = xs.length + 1 by omega]
        have := ins_list (C := cur.toList) (X := intsK .i64 xs) (R := cur.toList.drop (xs.length + 1)) (i := i) (n := xs.length) (x := .int .i64 x) (by rw [← ht, Nat.mul_one]) (by omega) hX
        simp only [List.length_singleton] at this ⊢
        rw [this]
        simp [intsK]
      · have hk3 : some k ≠ some g := hk2
        exact (hgr3.block k (by rw [hsz2]; exact hk) hk3).trans (hgr2.block k hk hk3)
theorem noinit_nan1 : Tryz.prog.inits.idxOf? 142 = none := by kernel_rfl
theorem noinit_nan2 : Tryz.prog.inits.idxOf? 123 = none := by kernel_rfl
theorem noinit_less : Tryz.prog.inits.idxOf? 115 = none := by kernel_rfl
theorem nan1_runs (x : Int) (w : World) : Runs Tryz.prog 142 #[.int .i64 x] w (.bool false) w := by
  refine runs_of_callE ?_
  refine calls_E Tryz.func142 rfl rfl rfl (Nat.le_of_ble_eq_true rfl) ?_
  simp [go_sem, IntWalk.iteOmega, IntWalk.toNatUp]
theorem nan2_runs (x : Int) (w : World) : Runs Tryz.prog 123 #[.int .i64 x] w (.bool false) w := by
  refine runs_of_callE ?_
  refine calls_E Tryz.func123 rfl rfl rfl (Nat.le_of_ble_eq_true rfl) ?_
  simp [go_sem, IntWalk.iteOmega, IntWalk.toNatUp]
theorem less_runs (x y : Int) (w : World) : Runs Tryz.prog 115 #[.int .i64 x, .int .i64 y] w (.bool (decide (x < y))) w := by
  refine runs_of_callE ?_
  have r1 := fun x k => callE_eq noinit_nan1 (nan1_runs x w) k
  refine calls_E Tryz.func115 rfl rfl rfl (Nat.le_of_ble_eq_true rfl) ?_
  simp [go_sem, IntWalk.iteOmega, IntWalk.toNatUp, r1]
set_option maxHeartbeats 1600000 in
theorem bsearch_any (xs : List Int) (x : Int) (A : Option Addr) (c : Nat) (w : World) (hs : xs.Pairwise (· < ·)) (hlen : xs.length ≤ 1000) (h : Rd w 1 A xs.length (intsK .i64 xs)) :
    callE Tryz.prog 85 #[.slice A xs.length c, .int .i64 x] w fun r w' => (∃ i : Nat, i ≤ xs.length ∧ r = .tuple #[.int .i64 i, .bool (decide (x ∈ xs))] ∧ (∀ k (hk : k < xs.length), k < i → xs[k] < x) ∧ (∀ k (hk : k < xs.length), i ≤ k → x ≤ xs[k])) ∧ w' = w := by
  have r1 := fun x y k => callE_eq noinit_less (less_runs x y w) k
  have r2 := fun x k => callE_eq noinit_nan2 (nan2_runs x w) k
  refine calls_E Tryz.func85 rfl rfl rfl (Nat.le_of_ble_eq_true rfl) ?_
  simp [go_sem, IntWalk.iteOmega, IntWalk.toNatUp]
  refine W_loop (fun st wr => ∃ i j : Nat, i ≤ j ∧ j ≤ xs.length ∧ st 0 = .slice A xs.length c ∧ st 1 = .int .i64 x ∧ st 6 = .int .i64 xs.length ∧ st 7 = .int .i64 i ∧ st 8 = .int .i64 j ∧ (∀ k (hk : k < xs.length), k < i → xs[k] < x) ∧ (∀ k (hk : k < xs.length), j ≤ k → x ≤ xs[k]) ∧ wr = w) (fun st _ => (intOf (st 8)).toNat - (intOf (st 7)).toNat) ?_ ?_
  · exact ⟨0, xs.length, by omega, by omega, by simp [go_sem], by simp [go_sem], by simp [go_sem], by simp [go_sem], by simp [go_sem], fun k hk h => by omega, fun k hk h => by omega, rfl⟩
  · rintro st wr ⟨i, j, hij, hj, e0, e1, e6, e7, e8, hlo, hhi, rfl⟩
    by_cases hlt : i < j
    · have hlt' : (i : Int) < j := by omega
      obtain ⟨b, o, rfl, hb, hc⟩ := h.cells (by omega)
      have f1 : IntKind.u64.wrap ((i : Int) + j) = (i : Int) + j := by rw [wrap_u64_if, if_pos (by omega)]
      have hm : (i + j) / 2 < xs.length := by omega
      have x0 := hc ((i + j) / 2) (.int .i64 xs[(i + j) / 2]) (by simp [intsK, hm])
      have q1 : (((i : Int) + j) / 2) = (((i + j) / 2 : Nat) : Int) := by omega
      have hmono : ∀ k (hk : k < xs.length) l (hl : l < xs.length), k < l → xs[k] < xs[l] := fun k hk l hl h => List.pairwise_iff_getElem.1 hs k l hk hl h
      by_cases hx : xs[(i + j) / 2] < x
      · simp [go_sem, IntWalk.iteOmega, IntWalk.toNatUp, e0, e1, e6, e7, e8, hlt, hlt', f1, x0, r1, hx]
        refine roundEnd.mk ⟨(i + j) / 2 + 1, j, by omega, hj, by simp [go_sem, e0], by simp [go_sem, e1], by simp [go_sem, e6], ?_, by simp [go_sem, e8], fun k hk h => ?_, hhi, rfl⟩ ?_
        · simp [go_sem]
        · by_cases hk2 : k = (i + j) / 2
          · subst hk2; exact hx
          · have := hmono k hk ((i + j) / 2) hm (by omega); omega
        · simp [go_sem, intOf, e7, e8]; omega
      · simp [go_sem, IntWalk.iteOmega, IntWalk.toNatUp, e0, e1, e6, e7, e8, hlt, hlt', f1, x0, r1, hx]
        refine roundEnd.mk ⟨i, (i + j) / 2, by omega, by omega, by simp [go_sem, e0], by simp [go_sem, e1], by simp [go_sem, e6], by simp [go_sem, e7], ?_, hlo, fun k hk h => ?_, rfl⟩ ?_
        · simp [go_sem]
        · by_cases hk2 : k = (i + j) / 2
          · subst hk2; omega
          · have := hmono ((i + j) / 2) hm k hk (by omega); omega
        · simp [go_sem, intOf, e7, e8]; omega
    · obtain rfl : i = j := by omega
      by_cases hin : i < xs.length
      · obtain ⟨b, o, rfl, hb, hc⟩ := h.cells (by omega)
        have x0 := hc i (.int .i64 xs[i]) (by simp [intsK, hin])
        have hin' : (i : Int) < xs.length := by omega
        by_cases hx : xs[i] = x
        · have e : decide (x ∈ xs) = true := by simp only [decide_eq_true_eq]; rw [← hx]; exact List.getElem_mem hin
          simp [go_sem, IntWalk.iteOmega, IntWalk.toNatUp, e0, e1, e6, e7, e8, hin, hin', x0, hx, e]
          exact ⟨i, hj, rfl, hlo, hhi⟩
        · have hx' : (xs[i] == x) = false := by simpa using hx
          have e : decide (x ∈ xs) = false := by
            simp only [decide_eq_false_iff_not]
            intro hmem
            obtain ⟨k, hk, hkx⟩ := List.getElem_of_mem hmem
            rcases Nat.lt_trichotomy k i with h1 | h1 | h1
            · have := hlo k hk h1; omega
            · subst h1; exact hx hkx
            · have h2 := List.pairwise_iff_getElem.1 hs i k hin hk h1
              have h3 := hhi i hin (Nat.le_refl _)
              omega
          simp [go_sem, IntWalk.iteOmega, IntWalk.toNatUp, e0, e1, e6, e7, e8, hin, hin', x0, hx', r2, e]
          exact ⟨i, hj, rfl, hlo, hhi⟩
      · have hin' : ¬ (i : Int) < xs.length := by omega
        have e : decide (x ∈ xs) = false := by
          simp only [decide_eq_false_iff_not]
          intro hmem
          obtain ⟨k, hk, hkx⟩ := List.getElem_of_mem hmem
          have := hlo k hk (by omega)
          omega
        simp [go_sem, IntWalk.iteOmega, IntWalk.toNatUp, e0, e1, e6, e7, e8, hin, hin', e]
        exact ⟨i, hj, rfl, hlo, hhi⟩
def putL : List Int → Int → List Int
  | [], n => [n]
  | x :: xs, n => if n < x then n :: x :: xs else if n = x then x :: xs else x :: putL xs n
theorem putL_mem : ∀ (xs : List Int) (n : Int), xs.Pairwise (· < ·) → n ∈ xs → putL xs n = xs
  | [], n, _, h => by simp at h
  | x :: xs, n, hs, h => by
    rw [List.pairwise_cons] at hs
    unfold putL
    by_cases h1 : n = x
    · subst h1; simp
    · have hm : n ∈ xs := by simpa [h1] using h
      have := hs.1 n hm
      rw [if_neg (by omega), if_neg h1, putL_mem xs n hs.2 hm]
theorem putL_at : ∀ (xs : List Int) (n : Int) (i : Nat), i ≤ xs.length → n ∉ xs → (∀ k (hk : k < xs.length), k < i → xs[k] < n) → (∀ k (hk : k < xs.length), i ≤ k → n ≤ xs[k]) → xs.take i ++ n :: xs.drop i = putL xs n
  | [], n, i, hi, _, _, _ => by simp [putL]
  | x :: xs, n, 0, _, hm, _, h2 => by
    have h := h2 0 (by simp) (Nat.le_refl _)
    have hne : n ≠ x := fun e => hm (by simp [e])
    simp at h
    unfold putL
    rw [if_pos (by omega)]
    rfl
  | x :: xs, n, i + 1, hi, hm, h1, h2 => by
    have h := h1 0 (by simp) (by omega)
    simp at h
    have hne : n ≠ x := fun e => hm (by simp [e])
    unfold putL
    rw [if_neg (by omega), if_neg hne, ← putL_at xs n i (by simpa using hi) (fun h => hm (by simp [h])) (fun k hk hki => by have := h1 (k + 1) (by simpa using hk) (by omega); simpa using this) (fun k hk hki => by have := h2 (k + 1) (by simpa using hk) (by omega); simpa using this)]
    rfl
set_option maxHeartbeats 1600000 in
theorem fput_any (xs : List Int) (x : Int) (base : Nat) (v : Value) (w : World) (hs : xs.Pairwise (· < ·)) (hlen : xs.length ≤ 1000) (hown : w.ownsRow base 3 1 v xs.length (intsK .i64 xs)) (hbase : base ≤ w.heap.size) :
    callE Tryz.prog 47 #[v, .int .i64 x] w fun r w' => w'.ownsRow base 3 1 r (putL xs x).length (intsK .i64 (putL xs x)) ∧ w.grownBy w' v.ownBlock ∧ (r.ownBlock = v.ownBlock ∨ ∃ k, r.ownBlock = some k ∧ w.heap.size ≤ k) := by
  obtain ⟨hsl, A, c, rfl⟩ := own_sl hown
  have hr := Rd.of_own hown
  refine calls_E Tryz.func47 rfl rfl rfl (Nat.le_of_ble_eq_true rfl) ?_
  simp [go_sem, IntWalk.iteOmega, IntWalk.toNatUp]
  refine callE_of (bsearch_any xs x A c w hs hlen hr) ?_
  rintro _ w1 ⟨⟨i, hi, rfl, hlo, hhi⟩, rfl⟩
  by_cases hm : x ∈ xs
  · have e := putL_mem xs x hs hm
    have hd : decide (x ∈ xs) = true := by simpa using hm
    simp [go_sem, IntWalk.iteOmega, IntWalk.toNatUp, hd]
    rw [e]
    exact ⟨hown, World.grownBy.refl w1 _⟩
  · have e := putL_at xs x i hi hm hlo hhi
    have hd : decide (x ∈ xs) = false := by simpa using hm
    simp [go_sem, IntWalk.iteOmega, IntWalk.toNatUp, hd]
    have kA := ext_alloc w1 (.cells #[.int .i64 x] 3)
    have hne : (Value.slice A xs.length c).ownBlock ≠ some w1.heap.size := fun e => by have := (hown.lt _ e).2; omega
    refine callE_of (insert_any xs x i hi hlen base (.slice A xs.length c) (w1.alloc (.cells #[.int .i64 x] 3)) (own_keep hown kA) w1.heap.size (Blk.self_ rfl) hne (Nat.le_trans hbase kA.size)) ?_
    rintro v' w2 ⟨ho, hg, hown'⟩
    have hl : xs.length + 1 = (putL xs x).length := by rw [← e]; simp; omega
    rw [e, hl] at ho
    simp [go_sem, IntWalk.iteOmega, IntWalk.toNatUp]
    refine ⟨ho, ?_, ?_⟩
    · exact ⟨hg.os.trans kA.os, hg.tape.trans kA.tape, hg.output.trans kA.output, Nat.le_trans kA.size hg.size, fun g hgl hn => (hg.block g (Nat.lt_of_lt_of_le hgl kA.size) hn).trans (kA.block g hgl)⟩
    · rcases hown' with h | ⟨k, h1, h2⟩
      · exact .inl h
      · exact .inr ⟨k, h1, Nat.le_trans kA.size h2⟩
def tcell (t : List UInt8 × Value) : List Value := bl t.1 ++ [t.2]
set_option maxHeartbeats 1600000 in
theorem place1_any {w : World} {p : Nat} {id a : List UInt8} {fv : Value} (hp : Blk w p 27 (bl id).toArray) (hid : id.length = 32) (ha : a.length = 32) :
    callE Tryz.prog 84 #[.agg (tcell (a, fv)).toArray, .pointer (some ⟨p, 0, none⟩)] w fun r w' => r = .bool (decide (a = id)) ∧ Below w.heap.size w w' := by
  have kA := ext_alloc w (.cells (tcell (a, fv)).toArray 97)
  have hT : Blk (w.alloc (.cells (tcell (a, fv)).toArray 97)) w.heap.size 97 (tcell (a, fv)).toArray := Blk.self_ rfl
  have hP := hp.keep kA
  have la : (bl a).length = 32 := by rw [bl_length]; exact ha
  have li : (bl id).length = 32 := by rw [bl_length]; exact hid
  have x1 := readCells_blk hT 32 0 0 (bl a) la (fun j v hj => by
    have : (tcell (a, fv))[j]? = some v := by unfold tcell; rw [List.getElem?_append_left (List.getElem?_eq_some_iff.1 hj).1]; exact hj
    simpa using this)
  have x2 := readCells_all hP 32 (by simpa using li)
  have hq := fun W => id_eq a id ha hid W
  have e : (a == id) = decide (a = id) := by rw [Bool.eq_iff_iff]; simp
  refine calls_E Tryz.func84 rfl rfl rfl (Nat.le_of_ble_eq_true rfl) ?_
  simp [go_sem, IntWalk.iteOmega, IntWalk.toNatUp, x1, x2, hq, e]
  exact kA
def flatT (ts : List (List UInt8 × Value)) : List Value := ts.flatMap tcell
theorem tcell_len {t : List UInt8 × Value} (h : t.1.length = 32) : (tcell t).length = 33 := by simp [tcell, bl, h]
theorem flatT_at : ∀ (xs : List (List UInt8 × Value)) (hok : ∀ x ∈ xs, x.1.length = 32) (i : Nat) (x : List UInt8 × Value), xs[i]? = some x → ∀ j v, (tcell x)[j]? = some v → (flatT xs)[33 * i + j]? = some v
  | [], _, i, x, h, _, _, _ => by simp at h
  | y :: ys, hok, 0, x, h, j, v, hj => by
    simp at h
    subst h
    show ((tcell y) ++ flatT ys)[33 * 0 + j]? = some v
    rw [Nat.mul_zero, Nat.zero_add, List.getElem?_append_left (List.getElem?_eq_some_iff.1 hj).1]
    exact hj
  | y :: ys, hok, i + 1, x, h, j, v, hj => by
    have hl : (tcell y).length = 33 := tcell_len (hok y (by simp))
    show ((tcell y) ++ flatT ys)[33 * (i + 1) + j]? = some v
    rw [List.getElem?_append_right (by omega), hl, show 33 * (i + 1) + j - 33 = 33 * i + j by omega]
    exact flatT_at ys (fun x hx => hok x (by simp [hx])) i x (by simpa using h) j v hj
set_option maxHeartbeats 1600000 in
theorem indexT_any {w : World} {p : Nat} {id : List UInt8} {A : Option Addr} {c : Nat} {ts : List (List UInt8 × Value)} (hp : Blk w p 27 (bl id).toArray) (hid : id.length = 32) (ht : ∀ t ∈ ts, t.1.length = 32) (hr : Rd w 33 A ts.length (flatT ts)) (hlen : ts.length ≤ 100000) :
    callE Tryz.prog 83 #[.slice A ts.length c, .func (.func 84) #[] #[.pointer (some ⟨p, 0, none⟩)]] w fun r w' => ((∃ k : Nat, ∃ hk : k < ts.length, r = .int .i64 k ∧ ts[k].1 = id ∧ ∀ m (hm : m < ts.length), m < k → ts[m].1 ≠ id) ∨ (r = .int .i64 (-1) ∧ ∀ m (hm : m < ts.length), ts[m].1 ≠ id)) ∧ Below w.heap.size w w' := by
  refine calls_E Tryz.func83 rfl rfl rfl (Nat.le_of_ble_eq_true rfl) ?_
  simp [go_sem, IntWalk.iteOmega, IntWalk.toNatUp]
  refine W_loop (fun st wr => ∃ i : Nat, i ≤ ts.length ∧ st 0 = .slice A ts.length c ∧ st 1 = .func (.func 84) #[] #[.pointer (some ⟨p, 0, none⟩)] ∧ st 7 = .int .i64 ts.length ∧ st 8 = .int .i64 i ∧ (∀ m (hm : m < ts.length), m < i → ts[m].1 ≠ id) ∧ Below w.heap.size w wr) (fun st _ => ts.length - (intOf (st 8)).toNat) ?_ ?_
  · exact ⟨0, by omega, by simp [go_sem], by simp [go_sem], by simp [go_sem], by simp [go_sem], fun m hm h => by omega, Below.refl _ _⟩
  · rintro st wr ⟨i, hi, e0, e1, e7, e8, hno, hB⟩
    by_cases hlt : i < ts.length
    · have hlt' : (i : Int) < ts.length := by omega
      obtain ⟨b, o, rfl, hb, hc⟩ := (hr.keep hB).cells (by omega)
      have hx := List.getElem?_eq_getElem hlt
      have ra : readCells wr ⟨b, o + i * 33, none⟩ 0 33 = some (tcell ts[i]) := readCells_cells 33 0 _ (tcell_len (ht _ (List.getElem_mem hlt))) (fun j v hj => by rw [show o + i * 33 + 0 + j = o + (33 * i + j) by omega]; exact hc _ _ (flatT_at ts ht i _ hx j v hj))
      simp [go_sem, IntWalk.iteOmega, IntWalk.toNatUp, e0, e1, e7, e8, hlt, hlt', ra]
      refine callE_of (place1_any (fv := ts[i].2) (hp.keep hB) hid (ht _ (List.getElem_mem hlt))) ?_
      rintro _ w4 ⟨rfl, k4⟩
      have k5 := hB.trans (k4.mono hB.size)
      by_cases hx : ts[i].1 = id
      · simp [go_sem, IntWalk.iteOmega, IntWalk.toNatUp, hx]
        exact ⟨⟨i, rfl, ⟨hlt, hx⟩, hno⟩, k5⟩
      · simp [go_sem, IntWalk.iteOmega, IntWalk.toNatUp, e0, e1, e7, e8, hx]
        refine roundEnd.mk ⟨i + 1, by omega, by simp [go_sem, e0], by simp [go_sem, e1], by simp [go_sem, e7], by simp [go_sem], fun m hm h => ?_, k5⟩ ?_
        · by_cases hmi : m = i
          · subst hmi; exact hx
          · exact hno m hm (by omega)
        · simp [go_sem, intOf, e8]; omega
    · have hlt' : ¬ (i : Int) < ts.length := by omega
      simp [go_sem, IntWalk.iteOmega, IntWalk.toNatUp, e0, e1, e7, e8, hlt']
      exact ⟨fun m hm => hno m hm (by omega), hB⟩
set_option maxHeartbeats 1600000 in
theorem fplace_any {w : World} {f : Nat} {cs : Array Value} {id : List UInt8} {A : Option Addr} {c : Nat} {ts : List (List UInt8 × Value)} (hf : Blk w f 72 cs) (h34 : cs[34]? = some (.slice A ts.length c)) (hid : id.length = 32) (ht : ∀ t ∈ ts, t.1.length = 32) (hr : Rd w 33 A ts.length (flatT ts)) (hlen : ts.length ≤ 100000) :
    callE Tryz.prog 46 #[.pointer (some ⟨f, 0, none⟩), .agg (bl id).toArray] w fun r w' => ((∃ k : Nat, ∃ hk : k < ts.length, r = .int .i64 k ∧ ts[k].1 = id ∧ ∀ m (hm : m < ts.length), m < k → ts[m].1 ≠ id) ∨ (r = .int .i64 (-1) ∧ ∀ m (hm : m < ts.length), ts[m].1 ≠ id)) ∧ Below w.heap.size w w' := by
  have kA := ext_alloc w (.cells (bl id).toArray 27)
  have hI : Blk (w.alloc (.cells (bl id).toArray 27)) w.heap.size 27 (bl id).toArray := Blk.self_ rfl
  have hfA := hf.keep kA
  refine calls_E Tryz.func46 rfl rfl rfl (Nat.le_of_ble_eq_true rfl) ?_
  generalize hW : w.alloc (.cells (bl id).toArray 27) = w2 at *
  simp [go_sem, IntWalk.iteOmega, IntWalk.toNatUp, hfA.cell, h34, hW]
  refine callE_of (indexT_any hI hid ht (hr.keep kA) hlen) ?_
  rintro r w3 ⟨h, k3⟩
  simp [go_sem, IntWalk.iteOmega, IntWalk.toNatUp]
  exact ⟨by simpa using h, kA.trans (k3.mono kA.size)⟩
def wrongI (v : Int) : Bool := decide (v < 0 ∨ 32 ≤ v)
theorem noinit_target1 : Tryz.prog.inits.idxOf? 44 = none := by kernel_rfl
theorem target1_runs (v : Int) (w : World) : Runs Tryz.prog 44 #[.int .i64 v] w (.bool (wrongI v)) w := by
  refine runs_of_callE ?_
  refine calls_E Tryz.func44 rfl rfl rfl (Nat.le_of_ble_eq_true rfl) ?_
  by_cases h1 : v < 0
  · have e : wrongI v = true := by simp [wrongI, h1]
    simp [go_sem, IntWalk.iteOmega, IntWalk.toNatUp, h1, e]
  · by_cases h2 : 32 ≤ v
    · have e : wrongI v = true := by simp [wrongI, h2]
      simp [go_sem, IntWalk.iteOmega, IntWalk.toNatUp, h1, h2, e]
    · have e : wrongI v = false := by simp [wrongI]; omega
      simp [go_sem, IntWalk.iteOmega, IntWalk.toNatUp, h1, h2, e]
set_option maxHeartbeats 1600000 in
theorem indexW_any {w : World} {A : Option Addr} {c : Nat} {xs : List Int} (hr : Rd w 1 A xs.length (intsK .i64 xs)) (hlen : xs.length ≤ 100000) :
    callE Tryz.prog 82 #[.slice A xs.length c, .func (.func 44) #[] #[]] w fun r w' => ((∃ k : Nat, r = .int .i64 k ∧ xs.any wrongI = true) ∨ (r = .int .i64 (-1) ∧ xs.any wrongI = false)) ∧ w' = w := by
  have r1 := fun v k => callE_eq noinit_target1 (target1_runs v w) k
  refine calls_E Tryz.func82 rfl rfl rfl (Nat.le_of_ble_eq_true rfl) ?_
  simp [go_sem, IntWalk.iteOmega, IntWalk.toNatUp]
  refine W_loop (fun st wr => ∃ i : Nat, i ≤ xs.length ∧ st 0 = .slice A xs.length c ∧ st 1 = .func (.func 44) #[] #[] ∧ st 7 = .int .i64 xs.length ∧ st 8 = .int .i64 i ∧ (∀ m (hm : m < xs.length), m < i → wrongI xs[m] = false) ∧ wr = w) (fun st _ => xs.length - (intOf (st 8)).toNat) ?_ ?_
  · exact ⟨0, by omega, by simp [go_sem], by simp [go_sem], by simp [go_sem], by simp [go_sem], fun m hm h => by omega, rfl⟩
  · rintro st wr ⟨i, hi, e0, e1, e7, e8, hno, rfl⟩
    by_cases hlt : i < xs.length
    · have hlt' : (i : Int) < xs.length := by omega
      obtain ⟨b, o, rfl, hb, hc⟩ := hr.cells (by omega)
      have x0 := hc i (.int .i64 xs[i]) (by simp [intsK, hlt])
      by_cases hx : wrongI xs[i] = true
      · have ea : xs.any wrongI = true := List.any_eq_true.2 ⟨_, List.getElem_mem hlt, hx⟩
        simp [go_sem, IntWalk.iteOmega, IntWalk.toNatUp, e0, e1, e7, e8, hlt, hlt', x0, r1, hx, ea]
        exact ⟨i, rfl⟩
      · have hx' : wrongI xs[i] = false := by simpa using hx
        simp [go_sem, IntWalk.iteOmega, IntWalk.toNatUp, e0, e1, e7, e8, hlt, hlt', x0, r1, hx']
        refine roundEnd.mk ⟨i + 1, by omega, by simp [go_sem, e0], by simp [go_sem, e1], by simp [go_sem, e7], by simp [go_sem], fun m hm h => ?_, rfl⟩ ?_
        · by_cases hmi : m = i
          · subst hmi; exact hx'
          · exact hno m hm (by omega)
        · simp [go_sem, intOf, e8]; omega
    · have hlt' : ¬ (i : Int) < xs.length := by omega
      have ea : xs.any wrongI = false := by
        rw [List.any_eq_false]
        intro x hx
        obtain ⟨k, hk, rfl⟩ := List.getElem_of_mem hx
        simp [hno k hk (by omega)]
      simp [go_sem, IntWalk.iteOmega, IntWalk.toNatUp, e0, e1, e7, e8, hlt', ea]
theorem containsW_any {w : World} {A : Option Addr} {c : Nat} {xs : List Int} (hr : Rd w 1 A xs.length (intsK .i64 xs)) (hlen : xs.length ≤ 100000) :
    callE Tryz.prog 45 #[.slice A xs.length c, .func (.func 44) #[] #[]] w fun r w' => r = .bool (xs.any wrongI) ∧ w' = w := by
  refine calls_E Tryz.func45 rfl rfl rfl (Nat.le_of_ble_eq_true rfl) ?_
  simp [go_sem, IntWalk.iteOmega, IntWalk.toNatUp]
  refine callE_of (indexW_any hr hlen) ?_
  rintro _ w1 ⟨⟨k, rfl, e⟩ | ⟨rfl, e⟩, rfl⟩
  · simp [go_sem, IntWalk.iteOmega, IntWalk.toNatUp, e]
  · simp [go_sem, IntWalk.iteOmega, IntWalk.toNatUp, e]
end Go.Proofs.YtdjcjjodbniebaaGreatDoor
