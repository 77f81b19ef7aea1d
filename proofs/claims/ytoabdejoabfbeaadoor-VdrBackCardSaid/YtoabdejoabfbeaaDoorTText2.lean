/-
  A set's text: the program's walk.
-/
import Derived.Test.YtoabdejoabfbeaaDoorTText
namespace Go.Proofs.YtoabdejoabfbeaaDoor
open Go.RowKit
open Go.Lib (decDigits strCells byteCells)
set_option linter.unusedVariables false
set_option linter.unusedSimpArgs false
set_option maxRecDepth 10000
theorem own_keep {w w' : World} {base e size n : Nat} {v : Value} {xs : List Value} (h : w.ownsRow base e size v n xs) (hb : Below w.heap.size w w') : w'.ownsRow base e size v n xs := by
  refine ⟨h.1, ?_⟩
  rcases h.2 with hn | ⟨g, cap, cur, hv, hbb, hg, rest⟩
  · exact .inl hn
  · exact .inr ⟨g, cap, cur, hv, hbb, by rw [hb.block g (by have := (Array.getElem?_eq_some_iff.1 hg).1; omega)]; exact hg, rest⟩
theorem Blk_farh {w w' : World} {r : Nat} {t : TypeId} {cs : Array Value} (h : Blk w r t cs) (hk : w'.heap[r]? = w.heap[r]?) : Blk w' r t cs := hk.trans h
set_option maxHeartbeats 3200000 in
theorem vtext_any (l : List Vd) (vl : Value) (w : World) (hs : Sl w 2 vl l.length (vdrs l)) (hN : ∀ x ∈ l, x.name.size ≤ 100000) (hW : ∀ x ∈ l, -9223372036854775808 ≤ x.weight ∧ x.weight ≤ 9223372036854775807)
    (htab : Lib.TabBelow Tryd.prog w.heap.size w "internal/strconv.uint64pow10" .u64 Lib.pow10Tab) :
    callE Tryd.prog 7 #[vl] w fun v w' => v = .tuple #[.string (strOf (textV l)), .int .i64 (checkV l)] ∧ Below w.heap.size w w' := by
  have hchk := vcheck_any l vl w hs (fun x hx => by have := hN x hx; omega) hW
  obtain ⟨A, cap, rfl, hrd, hA, hc1, hc2⟩ := id hs
  refine calls_E Tryd.func7 rfl rfl rfl (Nat.le_of_ble_eq_true rfl) ?_
  simp [go_sem, IntWalk.iteOmega, IntWalk.toNatUp]
  refine callE_of hchk ?_
  rintro _ w1 ⟨rfl, k1⟩
  by_cases hck : checkV l = 0
  · have hb0 : (checkV l != 0) = false := by simp [hck]
    have he : textV l = textTo l l.length := by unfold textV; rw [if_pos hck]
    obtain ⟨q1, q2, q3, q4⟩ := check0 hck
    have hW' : ∀ i, (h : i < l.length) → 0 ≤ (l[i]).weight ∧ (l[i]).weight ≤ 9223372036854775807 := fun i h => by
      have h1 := (q4 i h).1
      rw [← vAt_eq h] at h1
      exact ⟨by omega, (hW _ (List.getElem_mem h)).2⟩
    have htl := textTo_len hW' hN
    have hlen1 : ∀ (a : List UInt8) (x : Vd), (a ++ lineV x).length = a.length + (x.name.data.toList.length + 1 + (decDigits x.weight.toNat).length + 1) := fun a x => by simp [lineV]; omega
    simp [go_sem, IntWalk.iteOmega, IntWalk.toNatUp, hb0]
    refine W_loop (fun st wr => ∃ (i : Nat) (v : Value), i ≤ l.length ∧ st 13 = .slice A l.length cap ∧ st 14 = .int .i64 l.length ∧ st 15 = .int .i64 i ∧ st 5 = v ∧ wr.ownsRow w.heap.size 5 1 v (textTo l i).length (byteCells (textTo l i)) ∧ Below w.heap.size w wr) (fun st _ => l.length - (intOf (st 15)).toNat) ?_ ?_
    · exact ⟨0, .slice none 0 0, by omega, by simp [go_sem], by simp [go_sem], by simp [go_sem], by simp [go_sem], by simpa [textTo, byteCells] using World.ownsRow_nil _ _ _ _, k1⟩
    · rintro st wr ⟨i, v, hi, e13, e14, e15, e5, hown, hbw⟩
      by_cases hlt : i < l.length
      · obtain ⟨b, o, rfl, hb, hc⟩ := hrd.cells (by omega)
        obtain ⟨a0, a1⟩ := vdrs_at l i hlt
        have x0 := hc _ _ a0
        have x1 := hc _ _ a1
        rw [← hbw.cell hb] at x0 x1
        rw [← Nat.add_assoc] at x1
        have hst := textTo_succ hlt
        have hl1 := htl (i + 1) (by omega)
        have hw' := hW' i hlt
        have hn' := hN _ (List.getElem_mem hlt)
        have hlt' : (i : Int) < l.length := by omega
        rw [hst, List.length_append] at hl1
        generalize l[i] = x at *
        generalize textTo l i = T at *
        obtain ⟨N, m, rfl⟩ : ∃ (N : List UInt8) (m : Nat), x = ⟨strOf N, (m : Int)⟩ := ⟨x.name.data.toList, x.weight.toNat, by
          rw [strOf_self, Int.toNat_of_nonneg hw'.1]⟩
        have hln : lineV ⟨strOf N, (m : Int)⟩ = ((N ++ [32]) ++ decDigits m) ++ [10] := by simp [lineV, strOf]
        have hll : (lineV ⟨strOf N, (m : Int)⟩).length = N.length + 1 + (decDigits m).length + 1 := by rw [hln]; simp; omega
        rw [hll] at hl1
        simp only [strOf_size] at hn' x0 x1
        simp [go_sem, IntWalk.iteOmega, IntWalk.toNatUp, e13, e14, e15, e5, hlt, hlt', x0, x1]
        have kA := ext_alloc wr (.cells #[.string (strOf N), .int .i64 (m : Int)] 32)
        have hX : Blk (wr.alloc (.cells #[.string (strOf N), .int .i64 (m : Int)] 32)) wr.heap.size 32 #[.string (strOf N), .int .i64 (m : Int)] := Blk.self_ rfl
        have hown1 := own_keep hown kA
        have hlt1 := fun k hk => (hown.lt k hk)
        have hbA := hbw.alloc hbw.size (.cells #[.string (strOf N), .int .i64 (m : Int)] 32)
        generalize hW1 : wr.alloc (.cells #[.string (strOf N), .int .i64 (m : Int)] 32) = W1 at *
        refine appendSE w.heap.size hown1 N (by omega) hbA.size ?_
        intro v2 W2 hown2 g2
        have hb2 := hbA.grown g2 hbA.size (fun k hk => (hlt1 k hk).1)
        have hX2 : Blk W2 wr.heap.size 32 #[.string (strOf N), .int .i64 (m : Int)] := Blk_farh hX (g2.block _ hX.lt (fun e => by have := (hlt1 _ e.symm).2; omega))
        simp [go_sem, IntWalk.iteOmega, IntWalk.toNatUp, e13, e14, e15, e5]
        have u2 := hown2.lt
        have hb2' := hb2.alloc hb2.size (.cells #[.int .u8 32] 5)
        refine append1E (own_keep hown2 (ext_alloc W2 _)) hb2'.size 32 (Blk.self_ rfl) (by omega) ?_
        intro v3 W3 hown3 g3
        have hb3 := hb2'.grown g3 hb2'.size (fun k hk => (u2 k hk).1)
        have hX3 : Blk W3 wr.heap.size 32 #[.string (strOf N), .int .i64 (m : Int)] := by
          by_cases hq : some wr.heap.size = v2.ownBlock
          · exfalso
            rcases hown2.2 with ⟨e, _⟩ | ⟨g, cap, cur, hv, _, hg, _⟩
            · rw [e] at hq; cases hq
            · rw [hv] at hq
              have hq' : wr.heap.size = g := by simpa [Value.ownBlock] using hq
              subst hq'
              have := hX2.symm.trans hg
              simp at this
          · exact Blk_farh (hX2.keep (ext_alloc W2 _)) (g3.block _ (by have := hX2.lt; simp; omega) hq)
        have hc3 := hX3.cell
        have h31 : W3.cell? ⟨wr.heap.size, 1, none⟩ = some (.int .i64 (m : Int)) := by rw [hc3]; rfl
        obtain ⟨-, A3, c3, rfl⟩ := own_sl hown3
        simp [go_sem, IntWalk.iteOmega, IntWalk.toNatUp, e13, e14, e15, e5, h31]
        refine callE_of (appendInt_any w.heap.size _ m (by have h : (m : Int) ≤ 9223372036854775807 := hw'.2; omega) _ _ W3 hown3 hb3.size (by omega) (htab.on hb3)) ?_
        rintro v4 W4 ⟨hown4, k4⟩
        have hb4 := hb3.trans k4
        have u4 := hown4.lt
        simp [go_sem, IntWalk.iteOmega, IntWalk.toNatUp, e13, e14, e15, e5]
        have hb4' := hb4.alloc hb4.size (.cells #[.int .u8 10] 5)
        refine append1E (own_keep hown4 (ext_alloc W4 _)) hb4'.size 10 (Blk.self_ rfl) (by omega) ?_
        intro v5 W5 hown5 g5
        have hb5 := hb4'.grown g5 hb4'.size (fun k hk => (u4 k hk).1)
        simp [go_sem, IntWalk.iteOmega, IntWalk.toNatUp, e13, e14, e15, e5]
        refine roundEnd.mk ⟨i + 1, v5, by omega, by simp [go_sem, e13], by simp [go_sem, e14], by simp [go_sem], by simp [go_sem], ?_, hb5⟩ ?_
        · rw [hst, hln, List.length_append]
          rw [← List.append_assoc, ← List.append_assoc, ← List.append_assoc]
          have : T.length + (N ++ [32] ++ decDigits m ++ [10]).length = T.length + N.length + 1 + (decDigits m).length + 1 := by simp; omega
          rw [this]
          simpa using hown5
        · simp [go_sem, intOf]; omega
      · obtain rfl : i = l.length := by omega
        obtain ⟨⟨A2', c2', e2', hrd2, _⟩, A2, c2, rfl⟩ := own_sl hown
        injection e2' with e21 _ e22
        subst e21 e22
        have hpos : 0 < (textTo l l.length).length := by
          have := textTo_succ (l := l) (i := l.length - 1) (by omega)
          rw [show l.length - 1 + 1 = l.length by omega] at this
          rw [this, hlen1]
          omega
        simp [go_sem, IntWalk.iteOmega, IntWalk.toNatUp, e13, e14, e15, e5]
        refine stringE _ hrd2 hpos ?_
        simp [go_sem, IntWalk.iteOmega, IntWalk.toNatUp, e13, e14, e15, e5, he, hck]
        exact hbw
  · have hb0 : (checkV l != 0) = true := by simpa using hck
    have he : textV l = [] := by unfold textV; rw [if_neg hck]
    simp [go_sem, IntWalk.iteOmega, IntWalk.toNatUp, hb0, he]
    exact ⟨rfl, k1⟩
end Go.Proofs.YtoabdejoabfbeaaDoor
