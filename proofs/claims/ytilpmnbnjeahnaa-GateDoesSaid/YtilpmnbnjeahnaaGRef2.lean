/-
  The reference's gate: New, Leave.
-/
import Derived.Test.YtilpmnbnjeahnaaGRef
namespace Go.Proofs.Ytilpmnbnjeahnaa
open Go.RowKit
set_option linter.unusedVariables false
set_option linter.unusedSimpArgs false
set_option maxRecDepth 10000
theorem oneI (k : IntKind) (l : List Int) : allOne (ints k l) = true := allOne_of fun v hv => by
  obtain ⟨x, _, rfl⟩ := List.mem_map.1 hv; rfl
def rnewK (w0 : World) (B : Nat → Prop) (n0 : Nat) (c : GCfg) (l : List Int) (s : Slots) (w' : World) : Prop := ∃ r, s 4 = .pointer (some ⟨r, 0, none⟩) ∧ s 5 = .int .i64 0 ∧ RefIn w' B n0 r l (GS.new c l) ∧ Below n0 w0 w'
/-- what New's last line makes -/
theorem rnewK_of {w0 w' : World} {B : Nat → Prop} {n0 d : Nat} {c : GCfg} {l : List Int} {s : Slots} {v : Value} (hB : ∀ j, B j → j < n0) (hd : n0 ≤ d) (hD : Blk w' d 2 (Array.replicate l.length (.int .i64 0))) (hv : w'.ownsRow n0 2 1 v l.length (ints .i64 l)) (hne : v.ownBlock ≠ some d) (hb : Below n0 w0 w') (hn : n0 ≤ w'.heap.size)
    (h4 : s 4 = .pointer (some ⟨w'.heap.size, 0, none⟩)) (h5 : s 5 = .int .i64 0) :
    rnewK w0 B n0 c l s (w'.alloc (.cells #[.int .i64 c.large, .int .i64 c.each, .int .i64 c.own, .int .i64 c.many, .int .i64 c.size, v, .slice none 0 0, .int .i64 0, .slice (some ⟨d, 0, none⟩) l.length l.length] 92)) := by
  have kA := ext_alloc w' (.cells #[.int .i64 c.large, .int .i64 c.each, .int .i64 c.own, .int .i64 c.many, .int .i64 c.size, v, .slice none 0 0, .int .i64 0, .slice (some ⟨d, 0, none⟩) l.length l.length] 92)
  refine ⟨w'.heap.size, h4, h5, ⟨v, .slice none 0 0, d, hn, hd, fun h => by have := hB _ h; omega, fun h => by have := hB _ h; omega, Blk.self_ rfl, row_below hv kA, fun j hj h => by have := hB _ h; have := (hv.lt j hj).1; omega, World.ownsRow_nil _ _ _ _, fun j hj => by simp [Value.ownBlock] at hj, ?_, hne⟩, hb.trans (kA.mono hn)⟩
  rw [dropsOf_new, iblk_rep]
  exact hD.keep kA
theorem rowOne {w : World} {B e n : Nat} {v : Value} {xs : List Value} {size : Nat} (h : w.ownsRow B e size v n xs) : v.oneCell' = true := by
  obtain ⟨_, A, c, rfl⟩ := own_sl h
  rfl
set_option maxHeartbeats 6400000 in
theorem rNew_any (c : GCfg) (l : List Int) (vl : Value) (w : World) (hs : Sl w 1 vl l.length (ints .i64 l)) (hc : cfgOk c) (hk : okW l = true) (B : Nat → Prop) (hB : ∀ j, B j → j < w.heap.size) :
    callE Try.prog 23 #[c.val, vl] w fun u w' => ∃ r, u = .tuple #[.pointer (some ⟨r, 0, none⟩), .int .i64 0] ∧ RefIn w' B w.heap.size r l (GS.new c l) ∧ Below w.heap.size w w' := by
  obtain ⟨A, cp, rfl, hrd0, _, _, _⟩ := id hs
  have h32 := (okW_of hk).2.1
  have he : cfgE c = 0 := if_pos hc
  have k0 := ext_alloc w (.cells #[.int .i64 c.large, .int .i64 c.each, .int .i64 c.own, .int .i64 c.many, .int .i64 c.size] 23)
  have hb0 : Blk (w.alloc (.cells #[.int .i64 c.large, .int .i64 c.each, .int .i64 c.own, .int .i64 c.many, .int .i64 c.size] 23)) w.heap.size 23 #[.int .i64 c.large, .int .i64 c.each, .int .i64 c.own, .int .i64 c.many, .int .i64 c.size] := Blk.self_ rfl
  have hchk := rcheck_any c (w.alloc (.cells #[.int .i64 c.large, .int .i64 c.each, .int .i64 c.own, .int .i64 c.many, .int .i64 c.size] 23))
  rw [he] at hchk
  unfold GCfg.val at hchk ⊢
  refine calls_E Try.func23 rfl rfl rfl (Nat.le_of_ble_eq_true rfl) ?_
  simp [go_sem, IntWalk.iteOmega, IntWalk.toNatUp]
  refine callE_of hchk ?_
  rintro _ w1 ⟨rfl, k1⟩
  have kw := ext_trans k0 k1
  have hb1 := hb0.keep k1
  have hrs := fun k => callE_eq noinit_rsum (rsum_runs l _ w1 (Sl_on hs kw)) k
  rw [hk] at hrs
  simp [go_sem, IntWalk.iteOmega, IntWalk.toNatUp, hrs]
  have kd := (ext_drew w1)
  have kwd := kw.trans (kd.mono kw.size)
  have hbd := (hb1.keep kd)
  have hbdc := hbd.cell
  have hsd := Sl_on hs kwd
  have hrd := hrd0.keep kwd
  have hsz : w.heap.size ≤ w1.drew.heap.size := kwd.size
  have hmk := fun W => run_make1 (W := W) Try.underlying24 info2z rfl l.length (by omega) (by omega)
  have hbz := hbd.lt
  refine W_fork (.pure 1 (.pure 3 (.pure 4 (.alt 0 (.alt 2 (.alt 5 (.pure 6 (.alt 7 (.pure 8 (.pure 9 (.done))) (.no))) (.no)) (.alt 5 (.alt 2 (.pure 6 (.alt 7 (.pure 8 (.pure 9 (.done))) (.no))) (.no)) (.no))) (.alt 2 (.alt 0 (.alt 5 (.pure 6 (.alt 7 (.pure 8 (.pure 9 (.done))) (.no))) (.no)) (.alt 5 (.alt 0 (.pure 6 (.alt 7 (.pure 8 (.pure 9 (.done))) (.no))) (.no)) (.no))) (.alt 5 (.alt 0 (.alt 2 (.pure 6 (.alt 7 (.pure 8 (.pure 9 (.done))) (.no))) (.no)) (.alt 2 (.alt 0 (.pure 6 (.alt 7 (.pure 8 (.pure 9 (.done))) (.no))) (.no)) (.no))) (.no))))))) follows (by kernel_rfl) (rnewK w B w.heap.size c l) ?_ ?_
  · generalize w1.drew = w2 at *
    have kM := ext_alloc w2 (.cells (Array.replicate l.length (.int .i64 0)) 2)
    have hMb := (hbd.keep kM).cell
    simp [go_sem, IntWalk.iteOmega, IntWalk.toNatUp, hbdc, hmk, hMb]
    and_intros <;>
    first
    | (refine appendE w.heap.size 2 1 8 Try.underlying24 el2 (World.ownsRow_nil _ _ _ _) hrd (oneI _ _) (by unfold maxLen; omega) (by omega) hsz ?_
       intro v3 w3 hr3 hg3 hbk3
       have k3 := (Below.refl w2.heap.size w2).grown hg3 (Nat.le_refl _) (fun k hk => by cases hk)
       have kw3 := kwd.trans (k3.mono hsz)
       have hbc3 := (hbd.keep k3).cell
       have hsz3 := k3.size
       rw [Nat.zero_add, List.nil_append] at hr3
       obtain ⟨_, A3, c3, rfl⟩ := own_sl hr3
       have kM3 := ext_alloc w3 (.cells (Array.replicate l.length (.int .i64 0)) 2)
       have hbc4 := ((hbd.keep k3).keep kM3).cell
       have hD3 : Blk (w3.alloc (.cells (Array.replicate l.length (.int .i64 0)) 2)) w3.heap.size 2 (Array.replicate l.length (.int .i64 0)) := Blk.self_ rfl
       have hne3 : (Value.slice A3 l.length c3).ownBlock ≠ some w3.heap.size := fun e => by have := (hr3.lt _ e).2; omega
       simp [go_sem, IntWalk.iteOmega, IntWalk.toNatUp, hbc3, hbc4, hmk]
       have fin : ∀ s : Slots, s 4 = .pointer (some ⟨w3.heap.size + 1, 0, none⟩) → s 5 = .int .i64 0 → rnewK w B w.heap.size c l s _ := fun s h4 h5 => rnewK_of hB (by omega) hD3 (row_below hr3 kM3) hne3 (kw3.trans (kM3.mono kw3.size)) (by rw [World.size_alloc]; omega) (by rw [World.size_alloc]; exact h4) h5
       and_intros <;> (refine fin _ ?_ ?_ <;> simp [go_sem, IntWalk.iteOmega, IntWalk.toNatUp]))
    | (refine appendE w.heap.size 2 1 8 Try.underlying24 el2 (World.ownsRow_nil _ _ _ _) (hrd.keep kM) (oneI _ _) (by unfold maxLen; omega) (by omega) (Nat.le_trans hsz kM.size) ?_
       intro v3 w3 hr3 hg3 hbk3
       have k3 := (Below.refl (w2.alloc (.cells (Array.replicate l.length (.int .i64 0)) 2)).heap.size (w2.alloc (.cells (Array.replicate l.length (.int .i64 0)) 2))).grown hg3 (Nat.le_refl _) (fun k hk => by cases hk)
       have kM3 := ext_trans kM k3
       have kw3 := kwd.trans (kM3.mono hsz)
       have hbc3 := (hbd.keep kM3).cell
       have hsz3 := k3.size
       rw [World.size_alloc] at hsz3
       rw [Nat.zero_add, List.nil_append] at hr3
       obtain ⟨_, A3, c3, rfl⟩ := own_sl hr3
       have hD3 : Blk w3 w2.heap.size 2 (Array.replicate l.length (.int .i64 0)) := (Blk.self_ rfl : Blk (w2.alloc (.cells (Array.replicate l.length (.int .i64 0)) 2)) w2.heap.size 2 (Array.replicate l.length (.int .i64 0))).keep k3
       have hne3 : (Value.slice A3 l.length c3).ownBlock ≠ some w2.heap.size := by
         rcases hbk3 with e | e
         · rw [e]; simp [Value.ownBlock]
         · rw [e, World.size_alloc]; simp
       simp [go_sem, IntWalk.iteOmega, IntWalk.toNatUp, hbc3, hmk]
       have fin : ∀ s : Slots, s 4 = .pointer (some ⟨w3.heap.size, 0, none⟩) → s 5 = .int .i64 0 → rnewK w B w.heap.size c l s _ := fun s h4 h5 => rnewK_of hB (by omega) hD3 hr3 hne3 kw3 (by omega) h4 h5
       and_intros <;> (refine fin _ ?_ ?_ <;> simp [go_sem, IntWalk.iteOmega, IntWalk.toNatUp]))
  · rintro s w' ⟨r, e4, e5, hR, hb⟩
    simp [go_sem, IntWalk.iteOmega, IntWalk.toNatUp, e4, e5]
    exact ⟨hR, hb⟩
end Go.Proofs.Ytilpmnbnjeahnaa
