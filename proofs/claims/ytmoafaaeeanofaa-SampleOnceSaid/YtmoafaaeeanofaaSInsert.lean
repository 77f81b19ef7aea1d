/-
  slices.Insert of one number into a slice of the call's own.
-/
import Derived.Test.YtmoafaaeeanofaaSEqual
import Derived.Test.YtmoafaaeeanofaaCopy
import Derived.Lib.Overlaps
namespace Go.Proofs.Ytmoafaaeeanofaa
open Go.RowKit
set_option linter.unusedVariables false
set_option linter.unusedSimpArgs false
set_option maxRecDepth 10000
theorem intsK_length (k : IntKind) (l : List Int) : (intsK k l).length = l.length := by simp [intsK]
theorem one_ints (k : IntKind) (l : List Int) : allOne (intsK k l) = true := allOne_of fun v hv => by
  simp only [intsK, List.mem_map] at hv; obtain ⟨a, _, rfl⟩ := hv; rfl
theorem info64 : (Try.prog.info? 2).map (fun i => (i.zero, i.size, i.bytes)) = some (some (.int .i64 0), 1, 8) := by kernel_rfl
theorem sizeof2 (w : World) : (sizeOf 2).run Try.prog w = .ok 1 w := by
  exact run_sizeOf_shape (P := Try.prog) (w := w) shape2
theorem overlaps_call (w : World) (gx g o lb cb : Nat) (csx cur : Array Value) (hx : Blk w gx 2 csx) (hg : Blk w g 2 cur) (hne : gx ≠ g) (hc : cur.size ≠ 0) :
    (callFunc 39 #[.slice (some ⟨gx, 0, none⟩) 1 1, .slice (some ⟨g, o, none⟩) lb cb]).run Try.prog w = .ok (.value (.bool false)) w := by
  rw [run_callFunc_extern Try.func39 (by kernel_rfl) (by kernel_rfl) (by kernel_rfl) (e := Extern.SlicesOverlaps.overlaps #[22, 22] #[4]) (by kernel_rfl)]
  have sx : w.shape? gx = some (2, csx.size) := by unfold Blk at hx; simp [World.shape?, hx]
  have sg : w.shape? g = some (2, cur.size) := by unfold Blk at hg; simp [World.shape?, hg]
  rw [Lib.run_overlaps_apart (P := Try.prog) w 22 4 2 Try.underlying22 1 sizeof2 ⟨gx, 0, none⟩ ⟨g, o, none⟩ 1 1 lb cb hne 2 2 csx.size cur.size sx sg hc (hx.frozen 0) (hx.frozen _)]
  rfl
theorem hgb2 {w w' : World} {g g1 : Nat} {t : TypeId} {cs : Array Value} (h : Blk w g t cs) (hg : w.grownBy w' (some g1)) (hne : g ≠ g1) : Blk w' g t cs := (hg.block _ h.lt (fun e => hne (Option.some.inj e))).trans h
/-- a row's first part, one put in, the rest -/
theorem ins_list {C X R : List Value} {i n : Nat} {x : Value} (hC : C.take n = X) (hi : i < n) (hX : X.length = n) : ((((C.take (i + 1) ++ X.drop i ++ R).take i ++ [x]) ++ (C.take (i + 1) ++ X.drop i ++ R).drop (i + 1))).take (n + 1) = X.take i ++ x :: X.drop i := by
  have hl : C.length ≥ n := by have := congrArg List.length hC; rw [List.length_take] at this; omega
  have h1 : (C.take (i + 1)).length = i + 1 := by rw [List.length_take]; omega
  have h2 : (C.take (i + 1) ++ X.drop i ++ R).take i = X.take i := by
    rw [List.append_assoc, List.take_append_of_le_length (by omega), List.take_take, Nat.min_eq_left (by omega), ← hC, List.take_take, Nat.min_eq_left (by omega)]
  have h3 : (C.take (i + 1) ++ X.drop i ++ R).drop (i + 1) = X.drop i ++ R := by
    rw [List.append_assoc]
    exact List.drop_left' h1
  rw [h2, h3]
  have h4 : (X.take i).length = i := by rw [List.length_take]; omega
  have h5 : (X.drop i).length = n - i := by rw [List.length_drop, hX]
  rw [show X.take i ++ [x] ++ (X.drop i ++ R) = (X.take i ++ x :: X.drop i) ++ R by simp]
  exact List.take_left' (by rw [List.length_append, List.length_cons, h4, h5]; omega)
set_option maxHeartbeats 3200000 in
theorem insert_any (xs : List Int) (x : Int) (i : Nat) (hi : i ≤ xs.length) (hlen : xs.length ≤ 1000) (base : Nat) (v : Value) (w : World) (hown : w.ownsRow base 2 1 v xs.length (intsK .i64 xs)) (gx : Nat) (hx : Blk w gx 2 #[.int .i64 x]) (hne : v.ownBlock ≠ some gx) (hbase : base ≤ w.heap.size) :
    callE Try.prog 33 #[v, .int .i64 i, .slice (some ⟨gx, 0, none⟩) 1 1] w fun v' w' => w'.ownsRow base 2 1 v' (xs.length + 1) (intsK .i64 (xs.take i ++ x :: xs.drop i)) ∧ w.grownBy w' v.ownBlock ∧ (v'.ownBlock = v.ownBlock ∨ ∃ k, v'.ownBlock = some k ∧ w.heap.size ≤ k) := by
  have hrx : Rd w 1 (some ⟨gx, 0, none⟩) 1 (intsK .i64 [x]) := ⟨rfl, fun _ => ⟨gx, 0, rfl, hx.lt, fun j u hu => by rw [hx.cell, Nat.zero_add, List.getElem?_toArray]; exact hu⟩⟩
  by_cases hend : i = xs.length
  · subst hend
    obtain ⟨hsl, A, c, rfl⟩ := own_sl hown
    obtain ⟨A', c', e, _, hA, hc1, hc2⟩ := hsl
    injection e with e1 _ e3
    subst e1; subst e3
    refine calls_E Try.func33 rfl rfl rfl (Nat.le_of_ble_eq_true rfl) ?_
    have h1 : ((xs.length : Nat) : Int) ≤ c := by omega
    simp [go_sem, IntWalk.iteOmega, IntWalk.toNatUp, h1]
    refine appendE base 2 1 8 Try.underlying22 el2 hown hrx rfl (by unfold maxLen; omega) (by omega) hbase ?_
    intro v' w' hown' hgr hblk
    simp [go_sem, IntWalk.iteOmega, IntWalk.toNatUp]
    refine ⟨?_, hgr, ?_⟩
    · simp [intsK] at hown' ⊢; exact hown'
    · rcases hblk with h | h
      · exact .inl h
      · exact .inr ⟨_, h, Nat.le_refl _⟩
  · have hown0 := hown
    rcases hown with ⟨hl, (⟨rfl, h0⟩ | ⟨g, cap, cur, rfl, hb, hg, hnc, hm, hs, ht⟩)⟩
    · omega
    have hgb : Blk w g 2 cur := hg
    have hgx : g ≠ gx := fun e => hne (by rw [e]; rfl)
    unfold maxLen at hm
    have h1 : (i : Int) ≤ xs.length := by omega
    have h2 : ((i : Int) == xs.length) = false := beq_eq_false_iff_ne.2 (by omega)
    have h3 : (i : Int) ≤ cap := by omega
    by_cases hroom : cap < xs.length + 1
    · have hroom' : (cap : Int) < xs.length + 1 := by omega
      refine calls_E Try.func33 rfl rfl rfl (Nat.le_of_ble_eq_true rfl) ?_
      simp [go_sem, IntWalk.iteOmega, IntWalk.toNatUp, h1, h2, h3, hroom']
      rw [show (xs.length : Int) + 1 - i = ((xs.length + 1 - i : Nat) : Int) by omega]
      refine append_makeE Try.underlying22 Try.underlying3 info64 rfl hgb (by omega) (by omega) (by omega) (by omega) (by omega) ?_
      intro w1 g1 cur1 cap1 hb1 hg1 hcap hcapm hsz1 htk1 kB1
      rw [show i + (xs.length + 1 - i) = xs.length + 1 by omega] at *
      have n1 : (i : Int) ≤ (xs.length : Int) + 1 := by omega
      have n2 : ¬ i = cap1 := by omega
      have n3 : (i : Int) ≤ cap1 := by omega
      have n4 : ((xs.length + 1 : Nat) : Int) ≤ cap1 := by omega
      have hx1 := hx.keep kB1
      have hx1c := hx1.cell
      have hg1' := hgb.keep kB1
      have hgne : g1 ≠ gx := by have := hx.lt; omega
      have hgne2 : g ≠ g1 := by have := hgb.lt; omega
      simp [go_sem, IntWalk.iteOmega, IntWalk.toNatUp, n1, n2, n3, n4]
      refine copyE Try.underlying22 (by kernel_rfl) [.int .i64 x] hb1 (o := i) (by show 1 = min 1 (xs.length + 1 - i); omega) (fun _ => rfl) (fun _ => ⟨_, rfl, fun j u hu => by rw [add_none, hx1c, Nat.zero_add, List.getElem?_toArray]; exact hu⟩) (by simp; omega) rfl ?_
      intro w2 cur2 hb2 hc2 hgr2 hsz2
      have hg2 := hgb2 hg1' hgr2 hgne2
      have kB2 : Below w.heap.size w w2 := kB1.grown hgr2 kB1.size (fun k hk => by injection hk with hk; omega)
      simp [go_sem, IntWalk.iteOmega, IntWalk.toNatUp, n1, n2, n3, n4]
      refine W_tail 8 follows (by kernel_rfl) ?_
      have m1 : (i : Int) + 1 ≤ (xs.length : Int) + 1 := by omega
      have m2 : ¬ i + 1 = cap1 := by omega
      have m3 : (i : Int) + 1 ≤ cap1 := by omega
      have m4 : ¬ i = cap := by omega
      simp [go_sem, IntWalk.iteOmega, IntWalk.toNatUp, m1, m2, m3, m4, h1, h3]
      have hsd : ∀ j u, ((intsK .i64 xs).drop i)[j]? = some u → w2.drew.cell? ⟨g, i + j, none⟩ = some u := fun j u hu => by
        rw [hg2.drew.cell, ← Array.getElem?_toList]
        rw [List.getElem?_drop, ← ht, Nat.mul_one] at hu
        rw [List.getElem?_take] at hu
        split at hu
        · exact hu
        · cases hu
      have hdl : ((intsK .i64 xs).drop i).length = xs.length - i := by rw [List.length_drop, intsK_length]
      have hc2l : cur2.size = cur1.size := by
        have := congrArg List.length hc2
        rw [List.length_append, List.length_append, List.length_take, List.length_drop, Array.length_toList, Array.length_toList] at this
        simp only [List.length_singleton] at this
        omega
      refine copyE Try.underlying22 (by kernel_rfl) ((intsK .i64 xs).drop i) hb2.drew (o := i + 1) (by rw [hdl]; show _ = min (xs.length - i) (xs.length - i); omega) (fun _ => rfl) (fun _ => ⟨_, rfl, fun j u hu => by rw [add_none]; exact hsd j u hu⟩) (fun _ => by rw [hdl]; omega) (by rw [intsK, ← List.map_drop]; exact one_ints _ _) ?_
      intro w3 cur3 hb3 hc3 hgr3 hsz3
      have kB3 : Below w.heap.size w w3 := kB2.drew.grown hgr3 kB2.size (fun k hk => by injection hk with hk; omega)
      simp [go_sem, IntWalk.iteOmega, IntWalk.toNatUp]
      refine ⟨⟨by rw [intsK_length]; simp; omega, .inr ⟨g1, cap1, cur3, rfl, by omega, hb3, hcap, by unfold maxLen; exact hcapm, ?_, ?_⟩⟩, ⟨kB3.os, kB3.tape, kB3.output, kB3.size, fun k hk _ => kB3.block k hk⟩, .inr ⟨g1, rfl, by omega⟩⟩
      · have := congrArg List.length hc3
        rw [List.length_append, List.length_append, hdl, List.length_take, List.length_drop, Array.length_toList, Array.length_toList] at this
        omega
      · rw [Nat.mul_one, hc3, hc2]
        have hX : (intsK .i64 xs).length = xs.length := intsK_length _ _
        have hpre : (cur1.toList.take i) = (intsK .i64 xs).take i := by
          rw [htk1, ← ht, Nat.mul_one, List.take_take, Nat.min_eq_left hi]
        have e1 : (cur1.toList.take i ++ [Value.int .i64 x] ++ cur1.toList.drop (i + [Value.int .i64 x].length)).take (i + 1) = (intsK .i64 xs).take i ++ [Value.int .i64 x] := by
          rw [hpre]
          exact List.take_left' (by rw [List.length_append, List.length_take, hX]; simp; omega)
        rw [e1, List.append_assoc, List.append_assoc]
        rw [← List.append_assoc ((intsK .i64 xs).take i), ← List.append_assoc]
        rw [List.take_left' (by rw [List.length_append, List.length_append, List.length_take, hX, hdl]; simp; omega)]
        simp [intsK]
    · have hroom' : ¬ (cap : Int) < xs.length + 1 := by omega
      refine calls_E Try.func33 rfl rfl rfl (Nat.le_of_ble_eq_true rfl) ?_
      have hov := overlaps_call w gx g (i + 1) (xs.length - i) (cap - (i + 1)) _ cur hx hgb (fun e => hgx e.symm) (by omega)
      simp [go_sem, IntWalk.iteOmega, IntWalk.toNatUp, h1, h2, h3, hroom', hov]
      refine W_tail 8 follows (by kernel_rfl) ?_
      have m1 : (i : Int) + 1 ≤ (xs.length : Int) + 1 := by omega
      have m2 : ¬ i + 1 = cap := by omega
      have m4 : ¬ i = cap := by omega
      have m5 : (i : Int) ≤ (xs.length : Int) + 1 := by omega
      simp [go_sem, IntWalk.iteOmega, IntWalk.toNatUp, m1, m2, m4, m5, h1, h3]
      have hsd : ∀ j u, ((intsK .i64 xs).drop i)[j]? = some u → w.drew.cell? ⟨g, i + j, none⟩ = some u := fun j u hu => by
        rw [hgb.drew.cell, ← Array.getElem?_toList]
        rw [List.getElem?_drop, ← ht, Nat.mul_one] at hu
        rw [List.getElem?_take] at hu
        split at hu
        · exact hu
        · cases hu
      have hX : (intsK .i64 xs).length = xs.length := intsK_length _ _
      have hdl : ((intsK .i64 xs).drop i).length = xs.length - i := by rw [List.length_drop, hX]
      refine copyE Try.underlying22 (by kernel_rfl) ((intsK .i64 xs).drop i) hgb.drew (o := i + 1) (by rw [hdl]; show _ = min (xs.length + 1 - i) (xs.length - i); omega) (fun _ => rfl) (fun _ => ⟨_, rfl, fun j u hu => by rw [add_none]; exact hsd j u hu⟩) (fun _ => by rw [hdl]; omega) (by rw [intsK, ← List.map_drop]; exact one_ints _ _) ?_
      intro w2 cur2 hb2 hc2 hgr2 hsz2
      have hx2 : Blk w2 gx 2 #[.int .i64 x] := (hgr2.block _ hx.lt (fun e => hgx (Option.some.inj e).symm)).trans hx
      have hx2c := hx2.cell
      have hc2l : cur2.size = cur.size := by
        have := congrArg List.length hc2
        rw [List.length_append, List.length_append, hdl, List.length_take, List.length_drop, Array.length_toList, Array.length_toList] at this
        omega
      simp [go_sem, IntWalk.iteOmega, IntWalk.toNatUp, m1, m2, m4, m5, h1, h3]
      refine copyE Try.underlying22 (by kernel_rfl) [.int .i64 x] hb2 (o := i) (by show 1 = min 1 (xs.length + 1 - i); omega) (fun _ => rfl) (fun _ => ⟨_, rfl, fun j u hu => by rw [add_none, hx2c, Nat.zero_add, List.getElem?_toArray]; exact hu⟩) (by simp; omega) rfl ?_
      intro w3 cur3 hb3 hc3 hgr3 hsz3
      simp [go_sem, IntWalk.iteOmega, IntWalk.toNatUp]
      refine ⟨⟨by rw [intsK_length]; simp; omega, .inr ⟨g, cap, cur3, rfl, hb, hb3, by omega, by unfold maxLen; exact hm, ?_, ?_⟩⟩, ⟨hgr3.os.trans hgr2.os, hgr3.tape.trans hgr2.tape, hgr3.output.trans hgr2.output, by rw [hsz3, hsz2]; exact Nat.le_refl _, fun k hk hk2 => ?_⟩, .inl rfl⟩
      · have := congrArg List.length hc3
        rw [List.length_append, List.length_append, List.length_take, List.length_drop, Array.length_toList, Array.length_toList] at this
        simp only [List.length_singleton] at this
        omega
      · rw [Nat.mul_one, hc3, hc2, hdl, show i + 1 + (xs.length - i) = xs.length + 1 by omega]
        have := ins_list (C := cur.toList) (X := intsK .i64 xs) (R := cur.toList.drop (xs.length + 1)) (i := i) (n := xs.length) (x := .int .i64 x) (by rw [← ht, Nat.mul_one]) (by omega) hX
        simp only [List.length_singleton] at this ⊢
        rw [this]
        simp [intsK]
      · have hk3 : some k ≠ some g := hk2
        exact (hgr3.block k (by rw [hsz2]; exact hk) hk3).trans (hgr2.block k hk hk3)
end Go.Proofs.Ytmoafaaeeanofaa
