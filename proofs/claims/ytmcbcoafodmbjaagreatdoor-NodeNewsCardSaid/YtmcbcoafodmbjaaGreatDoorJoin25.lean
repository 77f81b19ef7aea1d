/-
  Texts joined: GNew, NParams, Make.
-/
import Derived.Test.YtmcbcoafodmbjaaGreatDoorJoin24

/-
  gate.New: what it makes.
-/
namespace Go.Proofs.YtmcbcoafodmbjaaGreatDoor
open Go.RowKit
set_option linter.unusedVariables false
set_option linter.unusedSimpArgs false
set_option maxRecDepth 10000
@[go_sem] theorem make_map {P : Program} {w : World} (t : TypeId) : (Instr.makeMap t none).run P w = .ok (.map (some w.heap.size)) (w.alloc (.map #[] 0)) := by simp [Instr.makeMap, Result.andThen]
theorem Sl_keep {w w' : World} {size n : Nat} {v : Value} {xs : List Value} (h : Sl w size v n xs) (hb : Below w.heap.size w w') : Sl w' size v n xs := by
  obtain ⟨A, c, h1, h2, h3⟩ := h
  exact ⟨A, c, h1, h2.keep hb, h3⟩
def sharesTo (own : Int) (l : List Int) (k : Nat) : List Int := (List.range k).map fun v => shareOf own l (v : Nat)
theorem sharesTo_succ (own : Int) (l : List Int) (k : Nat) : sharesTo own l (k + 1) = sharesTo own l k ++ [shareOf own l (k : Nat)] := by simp [sharesTo, List.range_succ]
def GS.new (c : GCfg) (l : List Int) : GS := { n := l.length, cap := l.length, cfg := c, share := sharesTo c.own l l.length, l := [], last := 0, free := c.large, st := fun _ => ⟨0, 0, 0, 0⟩ }
theorem und62 : Tryz.prog.underlying 208 = some (.slice 168) := by kernel_rfl
theorem und24 : Tryz.prog.underlying 94 = some (.slice 2) := by kernel_rfl
def zeros4 (n : Nat) : Array Value := madeCells (Value.cells (.agg #[.int .i64 0, .int .i64 0, .int .i64 0, .int .i64 0])) (n * 4)
theorem zeros4_size (n : Nat) : (zeros4 n).size = 4 * n := by unfold zeros4; rw [size_madeCells]; omega
theorem zeros4_at (n i : Nat) (h : i < 4 * n) : (zeros4 n)[i]? = some (.int .i64 0) := by
  have h4 : i % 4 < 4 := Nat.mod_lt _ (by omega)
  simp only [zeros4, madeCells, Value.cells, Array.getElem?_map]
  rw [Array.getElem?_range, if_pos (by omega)]
  simp only [Option.map_some]
  congr 1
  show #[Value.int .i64 0, .int .i64 0, .int .i64 0, .int .i64 0][i % 4]! = _
  have : i % 4 = 0 ∨ i % 4 = 1 ∨ i % 4 = 2 ∨ i % 4 = 3 := by omega
  rcases this with e | e | e | e <;> rw [e] <;> rfl
theorem info44 : (Tryz.prog.info? 168).map (fun i => (i.zero, i.size, i.bytes)) = some (some (.agg #[.int .i64 0, .int .i64 0, .int .i64 0, .int .i64 0]), 4, 32) := by kernel_rfl
theorem make62 (n : Nat) (hn : n ≤ 32) (W : World) : (Instr.makeSlice 208 (.int .i64 n) (.int .i64 n)).run Tryz.prog W = .ok (.slice (some ⟨W.heap.size, 0, none⟩) n n) (W.alloc (.cells (zeros4 n) 168)) := by
  obtain ⟨i, h1, h2⟩ := Option.map_eq_some_iff.1 info44
  injection h2 with e1 h3
  injection h3 with e2 e3
  have := run_make (P := Tryz.prog) W 208 168 i _ und62 h1 e1 .i64 .i64 n n (by omega) (by omega) (by rw [e3]; omega) (by omega)
  rw [this, e2, Int.toNat_natCast]
  rfl
def newK (vl : Value) (cp S1 S2 S7 : Value) (c : GCfg) (n B : Nat) (w1 W' : World) : Prop := S1 = vl ∧ S2 = cp ∧ ∃ g m b : Nat, S7 = .pointer (some ⟨g, 0, none⟩) ∧ B ≤ g ∧ B ≤ m ∧ B ≤ b ∧
  Blk W' g 210 (gcells { cap := n, n := n, cfg := c, share := [], l := [], last := 0, free := c.large, st := fun _ => ⟨0, 0, 0, 0⟩ } (.slice none 0 0) m b) ∧ Mp W' m .i64 [] ∧ Blk W' b 168 (zeros4 n) ∧ Below w1.heap.size w1 W'
theorem own_ne {w : World} {B n g : Nat} {v : Value} {xs : List Value} {t : TypeId} {ds : Array Value} (h : w.ownsRow B 2 1 v n xs) (hg : Blk w g t ds) (ht : 2 ≠ t) : some g ≠ v.ownBlock := by
  rcases h.2 with ⟨rfl, _⟩ | ⟨k, cap, cur, rfl, _, hk, _⟩
  · simp [Value.ownBlock]
  · intro e
    simp only [Value.ownBlock, Option.some.injEq] at e
    exact Blk_ne (t := 2) (cs := cur) hk hg ht e.symm
theorem own_ne_map {w : World} {B n r : Nat} {v : Value} {xs : List Value} {k : IntKind} {L : List (Int × Value)} (h : w.ownsRow B 2 1 v n xs) (hm : Mp w r k L) : some r ≠ v.ownBlock := by
  rcases h.2 with ⟨rfl, _⟩ | ⟨k', cap, cur, rfl, _, hk, _⟩
  · simp [Value.ownBlock]
  · intro e
    simp only [Value.ownBlock, Option.some.injEq] at e
    exact Blk_ne_map (t := 2) (cs := cur) hk hm e.symm
set_option maxHeartbeats 3200000 in
theorem new_any (c : GCfg) (l : List Int) (vl : Value) (w : World) (hs : Sl w 1 vl l.length (ints .i64 l)) (hc : cfgOk c) (hk : okW l = true) :
    callE Tryz.prog 28 #[c.val, vl] w fun u w' => ∃ g, u = .tuple #[.pointer (some ⟨g, 0, none⟩), .int .i64 0] ∧ GateIn w' w.heap.size g (GS.new c l) ∧ Below w.heap.size w w' := by
  have hw := okW_of hk
  have hp := okW_pos hk
  have hB0 := ext_alloc w (.cells #[.int .i64 c.large, .int .i64 c.each, .int .i64 c.own, .int .i64 c.many, .int .i64 c.size] 25)
  have hb0 : Blk (w.alloc (.cells #[.int .i64 c.large, .int .i64 c.each, .int .i64 c.own, .int .i64 c.many, .int .i64 c.size] 25)) w.heap.size 25 #[.int .i64 c.large, .int .i64 c.each, .int .i64 c.own, .int .i64 c.many, .int .i64 c.size] := Blk.self_ rfl
  have hchk := check_any c (w.alloc (.cells #[.int .i64 c.large, .int .i64 c.each, .int .i64 c.own, .int .i64 c.many, .int .i64 c.size] 25))
  have he : cfgE c = 0 := if_pos hc
  have he' : (cfgE c == 0) = true := by rw [he]; rfl
  unfold GCfg.val at hchk ⊢
  refine calls_E Tryz.func28 rfl rfl rfl (Nat.le_of_ble_eq_true rfl) ?_
  simp [go_sem, IntWalk.iteOmega, IntWalk.toNatUp]
  refine callE_of hchk ?_
  rintro _ w1 ⟨rfl, hB1⟩
  have hBw1 := ext_trans hB0 hB1
  have hs1 : Sl w1 1 vl l.length (ints .i64 l) := Sl_keep hs hBw1
  have hb1 := hb0.keep hB1
  have hb1c := hb1.cell
  have hb1l := hb1.lt
  have hsum : ∀ k, callE Tryz.prog 79 #[vl] w1 k = k (.int .i64 (if okW l then sumW l else -1)) w1 := fun k => callE_eq noinit_gsum (gsum_runs l vl w1 hs1) k
  rw [hk, if_pos rfl] at hsum
  have hn32 : l.length ≤ 32 := hw.2.1
  simp [go_sem, IntWalk.iteOmega, IntWalk.toNatUp, he, he', hsum, show ¬ sumW l < 0 by omega]
  have hmk := make62 l.length hn32
  obtain ⟨A, cap, rfl, hrd, hA, hc1, hc2⟩ := id hs1
  refine W_fork (.pure 2 (.pure 4 (.pure 5 (.alt 0 (.alt 1 (.alt 3 (.alt 6 (.pure 7 (.alt 8 (.pure 9 (.done)) (.no))) (.no)) (.alt 6 (.alt 3 (.pure 7 (.alt 8 (.pure 9 (.done)) (.no))) (.no)) (.no))) (.alt 3 (.alt 1 (.alt 6 (.pure 7 (.alt 8 (.pure 9 (.done)) (.no))) (.no)) (.alt 6 (.alt 1 (.pure 7 (.alt 8 (.pure 9 (.done)) (.no))) (.no)) (.no))) (.alt 6 (.alt 1 (.alt 3 (.pure 7 (.alt 8 (.pure 9 (.done)) (.no))) (.no)) (.alt 3 (.alt 1 (.pure 7 (.alt 8 (.pure 9 (.done)) (.no))) (.no)) (.no))) (.no)))) (.alt 1 (.alt 0 (.alt 3 (.alt 6 (.pure 7 (.alt 8 (.pure 9 (.done)) (.no))) (.no)) (.alt 6 (.alt 3 (.pure 7 (.alt 8 (.pure 9 (.done)) (.no))) (.no)) (.no))) (.alt 3 (.alt 0 (.alt 6 (.pure 7 (.alt 8 (.pure 9 (.done)) (.no))) (.no)) (.alt 6 (.alt 0 (.pure 7 (.alt 8 (.pure 9 (.done)) (.no))) (.no)) (.no))) (.alt 6 (.alt 0 (.alt 3 (.pure 7 (.alt 8 (.pure 9 (.done)) (.no))) (.no)) (.alt 3 (.alt 0 (.pure 7 (.alt 8 (.pure 9 (.done)) (.no))) (.no)) (.no))) (.no)))) (.alt 3 (.alt 0 (.alt 1 (.alt 6 (.pure 7 (.alt 8 (.pure 9 (.done)) (.no))) (.no)) (.alt 6 (.alt 1 (.pure 7 (.alt 8 (.pure 9 (.done)) (.no))) (.no)) (.no))) (.alt 1 (.alt 0 (.alt 6 (.pure 7 (.alt 8 (.pure 9 (.done)) (.no))) (.no)) (.alt 6 (.alt 0 (.pure 7 (.alt 8 (.pure 9 (.done)) (.no))) (.no)) (.no))) (.alt 6 (.alt 0 (.alt 1 (.pure 7 (.alt 8 (.pure 9 (.done)) (.no))) (.no)) (.alt 1 (.alt 0 (.pure 7 (.alt 8 (.pure 9 (.done)) (.no))) (.no)) (.no))) (.no)))) (.alt 6 (.alt 0 (.alt 1 (.alt 3 (.pure 7 (.alt 8 (.pure 9 (.done)) (.no))) (.no)) (.alt 3 (.alt 1 (.pure 7 (.alt 8 (.pure 9 (.done)) (.no))) (.no)) (.no))) (.alt 1 (.alt 0 (.alt 3 (.pure 7 (.alt 8 (.pure 9 (.done)) (.no))) (.no)) (.alt 3 (.alt 0 (.pure 7 (.alt 8 (.pure 9 (.done)) (.no))) (.no)) (.no))) (.alt 3 (.alt 0 (.alt 1 (.pure 7 (.alt 8 (.pure 9 (.done)) (.no))) (.no)) (.alt 1 (.alt 0 (.pure 7 (.alt 8 (.pure 9 (.done)) (.no))) (.no)) (.no))) (.no)))) (.no)))))))) follows (by kernel_rfl) (fun s' W' => newK (.slice A l.length cap) (.pointer (some ⟨w.heap.size, 0, none⟩)) (s' 1) (s' 2) (s' 7) c l.length w.heap.size w1 W') ?_ ?_
  · have cA := (hb1.more (.map #[] 0)).cell
    have cB := (hb1.more (.cells (zeros4 l.length) 168)).cell
    have cAB := ((hb1.more (.map #[] 0)).more (.cells (zeros4 l.length) 168)).cell
    have cBA := ((hb1.more (.cells (zeros4 l.length) 168)).more (.map #[] 0)).cell
    have kk := hBw1.size
    have n1 : newK (.slice A l.length cap) (.pointer (some ⟨w.heap.size, 0, none⟩)) (.slice A l.length cap) (.pointer (some ⟨w.heap.size, 0, none⟩)) (.pointer (some ⟨w1.heap.size + 1 + 1, 0, none⟩)) c l.length w.heap.size w1
        (((w1.alloc (.map #[] 0)).alloc (.cells (zeros4 l.length) 168)).alloc (.cells #[.int .i64 c.large, .int .i64 c.each, .int .i64 c.own, .int .i64 c.many, .int .i64 c.size, .slice none 0 0, .map (some w1.heap.size), .int .i64 0, .int .i64 c.large, .slice (some ⟨w1.heap.size + 1, 0, none⟩) l.length l.length] 210)).drew := by
      refine ⟨rfl, rfl, _, w1.heap.size, w1.heap.size + 1, rfl, by omega, by omega, by omega, (Blk.self_ (by simp)).drew, ((Mp_made w1 .i64).keep (ext_trans (ext_alloc _ _) (ext_alloc _ _))).keep (ext_drew _), ((Blk.self_ (by simp)).more _).drew, (((ext_trans (ext_trans (ext_alloc _ _) (ext_alloc _ _)) (ext_alloc _ _))).drew)⟩
    have n2 : newK (.slice A l.length cap) (.pointer (some ⟨w.heap.size, 0, none⟩)) (.slice A l.length cap) (.pointer (some ⟨w.heap.size, 0, none⟩)) (.pointer (some ⟨w1.heap.size + 1 + 1, 0, none⟩)) c l.length w.heap.size w1
        (((w1.alloc (.cells (zeros4 l.length) 168)).alloc (.map #[] 0)).alloc (.cells #[.int .i64 c.large, .int .i64 c.each, .int .i64 c.own, .int .i64 c.many, .int .i64 c.size, .slice none 0 0, .map (some (w1.heap.size + 1)), .int .i64 0, .int .i64 c.large, .slice (some ⟨w1.heap.size, 0, none⟩) l.length l.length] 210)).drew := by
      refine ⟨rfl, rfl, _, w1.heap.size + 1, w1.heap.size, rfl, by omega, by omega, by omega, (Blk.self_ (by simp)).drew, ?_, (((Blk.self_ (by simp)).more _).more _).drew, (((ext_trans (ext_trans (ext_alloc _ _) (ext_alloc _ _)) (ext_alloc _ _))).drew)⟩
      have := Mp_made (w1.alloc (.cells (zeros4 l.length) 168)) .i64
      rw [show (w1.alloc (.cells (zeros4 l.length) 168)).heap.size = w1.heap.size + 1 by simp] at this
      exact (this.keep (ext_alloc _ _)).keep (ext_drew _)
    simp [go_sem, IntWalk.iteOmega, IntWalk.toNatUp, hmk, hb1c, cA, cB, cAB, cBA]
    exact ⟨n1, n2⟩
  · rintro s W2 ⟨e1, e2, g, m, b, e7, hgB, hmB, hbB, hg, hmp, hb, hBW2⟩
    have hBW := hBw1.trans (hBW2.mono hBw1.size)
    simp [go_sem, IntWalk.iteOmega, IntWalk.toNatUp, e1, e2, e7]
    refine W_loop (fun s wr => ∃ (i : Nat) (sv : Value), i ≤ l.length ∧ s 1 = .slice A l.length cap ∧ s 2 = .pointer (some ⟨w.heap.size, 0, none⟩) ∧ s 7 = .pointer (some ⟨g, 0, none⟩) ∧ s 29 = .int .i64 l.length ∧ s 30 = .int .i64 i ∧
      Blk wr g 210 (gcells (GS.new c l) sv m b) ∧ wr.ownsRow w.heap.size 2 1 sv i (ints .i64 (sharesTo c.own l i)) ∧ Mp wr m .i64 [] ∧ Blk wr b 168 (zeros4 l.length) ∧ Blk wr w.heap.size 25 #[.int .i64 c.large, .int .i64 c.each, .int .i64 c.own, .int .i64 c.many, .int .i64 c.size] ∧ Sl wr 1 (.slice A l.length cap) l.length (ints .i64 l) ∧ Below w.heap.size w wr) (fun s _ => l.length - (intOf (s 30)).toNat) ?_ ?_
    · exact ⟨0, .slice none 0 0, by omega, by simp [go_sem, e1], by simp [go_sem, e2], by simp [go_sem, e7], by simp [go_sem], by simp [go_sem], hg, World.ownsRow_nil _ _ _ _, hmp, hb, hb1.keep hBW2, Sl_keep hs1 hBW2, hBW⟩
    · rintro s wr ⟨i, sv, hi, k1, k2, k7, k29, k30, hg, hown, hmp, hb, hcb, hsl, hbw⟩
      by_cases hlt : i < l.length
      · have hcbc := hcb.cell
        have hcbl := hcb.lt
        simp [go_sem, IntWalk.iteOmega, IntWalk.toNatUp, k1, k2, k7, k29, k30, hlt, hcbc]
        refine callE_of (gshare_any c.own i l _ wr hsl) ?_
        rintro _ w3 ⟨rfl, hB3⟩
        have hg3 := hg.keep hB3
        have hgc3 := hg3.cell
        have hgl3 := hg3.lt
        simp only [gcells] at hgc3
        generalize hx : shareOf c.own l i = x at *
        generalize shareE c.own l i = xe at *
        simp [go_sem, IntWalk.iteOmega, IntWalk.toNatUp, k1, k2, k7, k29, k30, hgc3]
        have hown3 := own_far hown fun k cs hk => hB3.block _ (Blk.lt (t := 2) hk)
        have hNew : Blk (w3.alloc (.cells #[.int .i64 x] 2)) w3.heap.size 2 #[.int .i64 x] := Blk.self_ rfl
        have kN := ext_alloc w3 (.cells #[.int .i64 x] 2)
        have hB4 := ext_trans hB3 kN
        have hown4 := own_far hown3 fun k cs hk => kN.block _ (Blk.lt (t := 2) hk)
        have hbase : w.heap.size ≤ (w3.alloc (.cells #[.int .i64 x] 2)).heap.size := Nat.le_trans hbw.size hB4.size
        have hRd : Rd (w3.alloc (.cells #[.int .i64 x] 2)) 1 (some ⟨w3.heap.size, 0, none⟩) 1 [.int .i64 x] := ⟨by simp, fun _ => ⟨_, 0, rfl, hNew.lt, fun j u hu => by rw [hNew.cell]; simpa using hu⟩⟩
        refine appendE w.heap.size 2 1 8 und24 el2 hown4 hRd rfl (by unfold maxLen; omega) (by omega) hbase ?_
        intro v' w5 hown5 hgr5 hor
        have hg5 : Blk w5 g 210 (gcells (GS.new c l) sv m b) := Blk_farh (hg.keep hB4) (hgr5.block _ (hg.keep hB4).lt (own_ne hown4 (hg.keep hB4) (by decide)))
        have hmp5 : Mp w5 m .i64 [] := Mp_far (hmp.keep hB4) (hgr5.block _ (hmp.keep hB4).lt (own_ne_map hown4 (hmp.keep hB4)))
        have hb5 : Blk w5 b 168 (zeros4 l.length) := Blk_farh (hb.keep hB4) (hgr5.block _ (hb.keep hB4).lt (own_ne hown4 (hb.keep hB4) (by decide)))
        have hcb5 := Blk_farh (hcb.keep hB4) (hgr5.block _ (hcb.keep hB4).lt (own_ne hown4 (hcb.keep hB4) (by decide)))
        have hbw5 : Below w.heap.size w w5 := (hbw.trans (hB4.mono hbw.size)).grown hgr5 hbase fun k hk => (hown4.lt k hk).1
        have hgc5 := hg5.cell
        have hgf5 := hg5.frozen
        have hgl5 := hg5.lt
        simp only [gcells] at hgc5
        have hone : v'.oneCell' = true := by
          rcases hown5.2 with ⟨rfl, _⟩ | ⟨k, cp, cur, rfl, _⟩ <;> rfl
        simp [go_sem, IntWalk.iteOmega, IntWalk.toNatUp, k1, k2, k7, k29, k30, hgc5, hgf5, hone]
        have hg6 : Blk (w5.setCell ⟨g, 5, none⟩ v') g 210 (gcells (GS.new c l) v' m b) := Blk_set (o := 5) (v := v') hg5
        have f6 : ∀ k, k ≠ g → (w5.setCell ⟨g, 5, none⟩ v').heap[k]? = w5.heap[k]? := fun k hk => Below.heap_setCell _ _ _ _ hk
        have hown6 := own_far (w' := w5.setCell ⟨g, 5, none⟩ v') hown5 fun k cs hk => f6 _ (Blk_ne (t := 2) hk hg5 (by decide))
        have hsl6 : Sl (w5.setCell ⟨g, 5, none⟩ v') 1 (.slice A l.length cap) l.length (ints .i64 l) := Sl_keep hs (hbw5.setCell hgB _)
        refine roundEnd.mk ⟨i + 1, v', by omega, by simp [go_sem, k1], by simp [go_sem, k2], by simp [go_sem, k7], by simp [go_sem, k29], by simp [go_sem], hg6, ?_, Mp_far hmp5 (f6 _ fun e => Blk_ne_map hg5 hmp5 e.symm), Blk_farh hb5 (f6 _ (Blk_ne hb5 hg5 (by decide))), Blk_farh hcb5 (f6 _ (Blk_ne hcb5 hg5 (by decide))), hsl6, hbw5.setCell hgB _⟩ ?_
        · rw [sharesTo_succ, hx]; simpa [ints] using hown6
        · simp [go_sem, intOf]; omega
      · obtain rfl : i = l.length := by omega
        simp [go_sem, IntWalk.iteOmega, IntWalk.toNatUp, k1, k2, k7, k29, k30]
        refine ⟨⟨sv, m, b, hgB, hmB, hbB, hg, hown, hmp, ⟨_, hb, Nat.le_of_eq (zeros4_size _).symm, fun u hu => ?_⟩, hn32⟩, hbw⟩
        have hz := fun i h => zeros4_at l.length i h
        have hu' : u < l.length := hu
        exact ⟨hz _ (by omega), hz _ (by omega), hz _ (by omega), hz _ (by omega)⟩
end Go.Proofs.YtmcbcoafodmbjaaGreatDoor
namespace Go.Proofs.YtmcbcoafodmbjaaGreatDoor
open Go.RowKit
set_option linter.unusedVariables false
set_option linter.unusedSimpArgs false
set_option maxRecDepth 10000
def parOk (k a b t : Int) : Prop := 1 ≤ k ∧ k ≤ 64 ∧ 1 ≤ a ∧ a ≤ b ∧ b ≤ k ∧ k < 2 * a ∧ 1 ≤ t ∧ t ≤ 1000
instance (k a b t : Int) : Decidable (parOk k a b t) := by unfold parOk; infer_instance
set_option maxHeartbeats 3200000 in
theorem params_any (k a b t : Int) (w : World) : callE Tryz.prog 35 #[.agg #[.int .i64 k, .int .i64 a, .int .i64 b, .int .i64 t]] w fun u w' => u = .int .i64 (if parOk k a b t then 0 else 170) ∧ Below w.heap.size w w' := by
  obtain ⟨E, hE⟩ : ∃ E : Int, (if parOk k a b t then 0 else 170) = E := ⟨_, rfl⟩
  rw [hE]
  refine calls_E Tryz.func35 rfl rfl rfl (Nat.le_of_ble_eq_true rfl) ?_
  by_cases h1 : k < 1
  · simp [go_sem, IntWalk.iteOmega, IntWalk.toNatUp, h1]
    exact ⟨by rw [← hE, if_neg (by unfold parOk; omega)], ext_alloc _ _⟩
  by_cases h2 : 64 < k
  · simp [go_sem, IntWalk.iteOmega, IntWalk.toNatUp, h1, h2]
    exact ⟨by rw [← hE, if_neg (by unfold parOk; omega)], ext_alloc _ _⟩
  have hq : k.tdiv 2 = k / 2 := Int.tdiv_eq_ediv_of_nonneg (by omega)
  simp [go_sem, IntWalk.iteOmega, IntWalk.toNatUp, h1, h2, hq]
  repeat' (split <;> simp [go_sem, IntWalk.iteOmega, IntWalk.toNatUp, *])
  all_goals exact ⟨by rw [← hE]; first | rw [if_neg (by unfold parOk; omega)] | rw [if_pos (by unfold parOk; omega)], ext_alloc _ _⟩
set_option maxHeartbeats 3200000 in
theorem rparams_any (k a b t : Int) (w : World) : callE Tryz.prog 39 #[.agg #[.int .i64 k, .int .i64 a, .int .i64 b, .int .i64 t]] w fun u w' => u = .int .i64 (if parOk k a b t then 0 else 170) ∧ Below w.heap.size w w' := by
  obtain ⟨E, hE⟩ : ∃ E : Int, (if parOk k a b t then 0 else 170) = E := ⟨_, rfl⟩
  rw [hE]
  refine calls_E Tryz.func39 rfl rfl rfl (Nat.le_of_ble_eq_true rfl) ?_
  simp [go_sem, IntWalk.iteOmega, IntWalk.toNatUp]
  repeat' (split <;> simp [go_sem, IntWalk.iteOmega, IntWalk.toNatUp, *])
  all_goals exact ⟨by rw [← hE]; first | rw [if_neg (by unfold parOk; omega)] | rw [if_pos (by unfold parOk; omega)], ext_alloc _ _⟩
def ruleOk (f m x h q : Int) : Prop := 1 ≤ m ∧ m ≤ f ∧ f ≤ x ∧ x ≤ 1099511627776 ∧ 0 ≤ h ∧ h ≤ 1048576 ∧ 1 ≤ q ∧ q ≤ 64
instance (f m x h q : Int) : Decidable (ruleOk f m x h q) := by unfold ruleOk; infer_instance
theorem in_runs (a n b : Int) (hab : a ≤ b) (r : Bool) (hr : r = decide (a ≤ n ∧ n ≤ b)) (w : World) : Runs Tryz.prog 130 #[.int .i64 a, .int .i64 n, .int .i64 b] w (.bool r) w := by
  subst hr
  refine runs_of_callE ?_
  refine calls_E Tryz.func130 rfl rfl rfl (Nat.le_of_ble_eq_true rfl) ?_
  simp [go_sem, IntWalk.iteOmega, IntWalk.toNatUp]
  refine callE_of (R := fun v w' => v = .int .i64 (max a (min n b)) ∧ w' = w) ?_ ?_
  · refine calls_E Tryz.func196 rfl rfl rfl (Nat.le_of_ble_eq_true rfl) ?_
    simp [go_sem, IntWalk.iteOmega, IntWalk.toNatUp]
    all_goals (by_cases h1 : b < n <;> by_cases h2 : a < (if b < n then b else n) <;> simp [go_sem, IntWalk.iteOmega, IntWalk.toNatUp, h1, h2] <;> omega)
  · rintro _ _ ⟨rfl, rfl⟩
    simp [go_sem, IntWalk.iteOmega, IntWalk.toNatUp]
    rw [Bool.eq_iff_iff]
    first | (simp; omega) | simp
    skip
theorem noinit_in : Tryz.prog.inits.idxOf? 130 = none := by kernel_rfl
set_option maxHeartbeats 3200000 in
theorem mcheck_any (f m x h q : Int) (w : World) : callE Tryz.prog 94 #[.agg #[.int .i64 f, .int .i64 m, .int .i64 x, .int .i64 h, .int .i64 q]] w fun u w' => u = .int .i64 (if ruleOk f m x h q then 0 else 130) ∧ Below w.heap.size w w' := by
  obtain ⟨E, hE⟩ : ∃ E : Int, (if ruleOk f m x h q then 0 else 130) = E := ⟨_, rfl⟩
  rw [hE]
  have i1 := fun r hr w k => callE_eq noinit_in (in_runs 0 h 1048576 (by omega) r hr w) k
  have i2 := fun r hr w k => callE_eq noinit_in (in_runs 1 q 64 (by omega) r hr w) k
  refine calls_E Tryz.func94 rfl rfl rfl (Nat.le_of_ble_eq_true rfl) ?_
  by_cases g1 : 0 ≤ h ∧ h ≤ 1048576
  · by_cases g2 : 1 ≤ q ∧ q ≤ 64
    · simp [go_sem, IntWalk.iteOmega, IntWalk.toNatUp, i1 true (by simp [g1]), i2 true (by simp [g2])]
      repeat' (split <;> simp [go_sem, IntWalk.iteOmega, IntWalk.toNatUp, *, i1 true (by simp [g1]), i2 true (by simp [g2])])
      all_goals exact ⟨by rw [← hE]; first | rw [if_neg (by unfold ruleOk; omega)] | rw [if_pos (by unfold ruleOk; omega)], ext_alloc _ _⟩
    · simp [go_sem, IntWalk.iteOmega, IntWalk.toNatUp, i1 true (by simp [g1]), i2 false (by simp [g2])]
      repeat' (split <;> simp [go_sem, IntWalk.iteOmega, IntWalk.toNatUp, *, i1 true (by simp [g1]), i2 false (by simp [g2])])
      all_goals exact ⟨by rw [← hE, if_neg (by unfold ruleOk; omega)], ext_alloc _ _⟩
  · simp [go_sem, IntWalk.iteOmega, IntWalk.toNatUp, i1 false (by simp [g1])]
    repeat' (split <;> simp [go_sem, IntWalk.iteOmega, IntWalk.toNatUp, *, i1 false (by simp [g1])])
    all_goals exact ⟨by rw [← hE, if_neg (by unfold ruleOk; omega)], ext_alloc _ _⟩
set_option maxHeartbeats 3200000 in
theorem rmcheck_any (f m x h q : Int) (w : World) : callE Tryz.prog 96 #[.agg #[.int .i64 f, .int .i64 m, .int .i64 x, .int .i64 h, .int .i64 q]] w fun u w' => u = .int .i64 (if ruleOk f m x h q then 0 else 130) ∧ Below w.heap.size w w' := by
  obtain ⟨E, hE⟩ : ∃ E : Int, (if ruleOk f m x h q then 0 else 130) = E := ⟨_, rfl⟩
  rw [hE]
  refine calls_E Tryz.func96 rfl rfl rfl (Nat.le_of_ble_eq_true rfl) ?_
  simp [go_sem, IntWalk.iteOmega, IntWalk.toNatUp]
  repeat' (split <;> simp [go_sem, IntWalk.iteOmega, IntWalk.toNatUp, *])
  all_goals exact ⟨by rw [← hE]; first | rw [if_neg (by unfold ruleOk; omega)] | rw [if_pos (by unfold ruleOk; omega)], ext_alloc _ _⟩
def benchOk (f l o n d : Int) : Prop := 1 ≤ f ∧ f ≤ 1000 ∧ 0 ≤ l ∧ l ≤ 1099511627776 ∧ 1 ≤ o ∧ o ≤ 1099511627776 ∧ 1 ≤ d ∧ 0 ≤ n ∧ n ≤ d
instance (f l o n d : Int) : Decidable (benchOk f l o n d) := by unfold benchOk; infer_instance
set_option maxHeartbeats 3200000 in
theorem bncheck_any (f l o n d : Int) (w : World) : callE Tryz.prog 95 #[.agg #[.int .i64 f, .int .i64 l, .int .i64 o, .int .i64 n, .int .i64 d]] w fun u w' => u = .int .i64 (if benchOk f l o n d then 0 else 150) ∧ Below w.heap.size w w' := by
  obtain ⟨E, hE⟩ : ∃ E : Int, (if benchOk f l o n d then 0 else 150) = E := ⟨_, rfl⟩
  rw [hE]
  refine calls_E Tryz.func95 rfl rfl rfl (Nat.le_of_ble_eq_true rfl) ?_
  simp [go_sem, IntWalk.iteOmega, IntWalk.toNatUp]
  repeat' (split <;> simp [go_sem, IntWalk.iteOmega, IntWalk.toNatUp, *])
  all_goals exact ⟨by rw [← hE]; first | rw [if_neg (by unfold benchOk; omega)] | rw [if_pos (by unfold benchOk; omega)], ext_alloc _ _⟩
theorem rin_runs (n b : Int) (r : Bool) (hr : r = decide (0 ≤ n ∧ n ≤ b)) (w : World) : Runs Tryz.prog 142 #[.int .i64 n, .int .i64 b] w (.bool r) w := by
  subst hr
  refine runs_of_callE ?_
  refine calls_E Tryz.func142 rfl rfl rfl (Nat.le_of_ble_eq_true rfl) ?_
  by_cases h : 0 ≤ n <;> by_cases h2 : n ≤ b <;> simp [go_sem, IntWalk.iteOmega, IntWalk.toNatUp, h, h2]
theorem noinit_rin : Tryz.prog.inits.idxOf? 142 = none := by kernel_rfl
set_option maxHeartbeats 3200000 in
theorem rbncheck_any (f l o n d : Int) (w : World) : callE Tryz.prog 97 #[.agg #[.int .i64 f, .int .i64 l, .int .i64 o, .int .i64 n, .int .i64 d]] w fun u w' => u = .int .i64 (if benchOk f l o n d then 0 else 150) ∧ Below w.heap.size w w' := by
  obtain ⟨E, hE⟩ : ∃ E : Int, (if benchOk f l o n d then 0 else 150) = E := ⟨_, rfl⟩
  rw [hE]
  have i1 := fun r hr w k => callE_eq noinit_rin (rin_runs l 1099511627776 r hr w) k
  have i2 := fun r hr w k => callE_eq noinit_rin (rin_runs n d r hr w) k
  refine calls_E Tryz.func97 rfl rfl rfl (Nat.le_of_ble_eq_true rfl) ?_
  by_cases g1 : 0 ≤ l ∧ l ≤ 1099511627776
  · by_cases g2 : 0 ≤ n ∧ n ≤ d
    · simp [go_sem, IntWalk.iteOmega, IntWalk.toNatUp, i1 true (by simp [g1]), i2 true (by simp [g2])]
      repeat' (split <;> simp [go_sem, IntWalk.iteOmega, IntWalk.toNatUp, *, i1 true (by simp [g1]), i2 true (by simp [g2])])
      all_goals exact ⟨by rw [← hE]; first | rw [if_neg (by unfold benchOk; omega)] | rw [if_pos (by unfold benchOk; omega)], ext_alloc _ _⟩
    · simp [go_sem, IntWalk.iteOmega, IntWalk.toNatUp, i1 true (by simp [g1]), i2 false (by simp [g2])]
      repeat' (split <;> simp [go_sem, IntWalk.iteOmega, IntWalk.toNatUp, *, i1 true (by simp [g1]), i2 false (by simp [g2])])
      all_goals exact ⟨by rw [← hE, if_neg (by unfold benchOk; omega)], ext_alloc _ _⟩
  · simp [go_sem, IntWalk.iteOmega, IntWalk.toNatUp, i1 false (by simp [g1])]
    repeat' (split <;> simp [go_sem, IntWalk.iteOmega, IntWalk.toNatUp, *, i1 false (by simp [g1])])
    all_goals exact ⟨by rw [← hE, if_neg (by unfold benchOk; omega)], ext_alloc _ _⟩
end Go.Proofs.YtmcbcoafodmbjaaGreatDoor
namespace Go.Proofs.YtmcbcoafodmbjaaGreatDoor
open Go.RowKit
set_option linter.unusedVariables false
theorem run_make1 {P : Program} {t e : TypeId} {z : Value} {bytes : Nat} (ht : P.underlying t = some (.slice e)) (hi : (P.info? e).map (fun i => (i.zero, i.size, i.bytes)) = some (some z, 1, bytes)) (hz : z.cells = #[z]) (n : Nat) (hn : n ≤ 9223372036854775807) (hb : n * bytes ≤ 281474976710656) (W : World) :
    (Instr.makeSlice t (.int .i64 n) (.int .i64 n)).run P W = .ok (.slice (some ⟨W.heap.size, 0, none⟩) n n) (W.alloc (.cells (Array.replicate n z) e)) := by
  obtain ⟨i, h1, h2⟩ := Option.map_eq_some_iff.1 hi
  injection h2 with e1 h3
  injection h3 with e2 e3
  have := run_make (P := P) W t e i _ ht h1 e1 .i64 .i64 n n (by omega) (by omega) (by rw [e3, ← Int.natCast_mul, Nat.mul_comm]; omega) (by omega)
  rw [this, e2, Int.toNat_natCast]
  have hm : madeCells z.cells (n * 1) = Array.replicate n z := by
    apply Array.ext_getElem?
    intro j
    rw [hz, Nat.mul_one]
    unfold madeCells
    rw [Array.getElem?_map, Array.getElem?_range, Array.getElem?_replicate]
    by_cases hj : j < n
    · rw [if_pos hj, if_pos hj]
      simp only [Option.map_some]
      congr 1
      have : j % (#[z] : Array Value).size = 0 := Nat.mod_one j
      rw [this]
      rfl
    · rw [if_neg hj, if_neg hj]; rfl
  rw [hm]
theorem own_sl {w : World} {base : Nat} {e : TypeId} {size n : Nat} {v : Value} {xs : List Value} (h : w.ownsRow base e size v n xs) : Sl w size v n xs ∧ ∃ A c, v = .slice A n c := by
  have h0 := h
  rcases h.2 with ⟨rfl, rfl⟩ | ⟨g, cap, cur, rfl, hb, hg, hnc, hm, _⟩
  · exact ⟨⟨none, 0, rfl, Rd.of_own h0, fun _ => ⟨rfl, rfl⟩, by omega, by omega⟩, _, _, rfl⟩
  · exact ⟨⟨_, cap, rfl, Rd.of_own h0, (fun h => nomatch h), hnc, by unfold maxLen at hm; exact hm⟩, _, _, rfl⟩
end Go.Proofs.YtmcbcoafodmbjaaGreatDoor
