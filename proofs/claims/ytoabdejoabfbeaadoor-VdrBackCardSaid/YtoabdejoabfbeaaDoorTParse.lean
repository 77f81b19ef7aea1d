/-
  vdr.Parse.
-/
import Derived.Test.YtoabdejoabfbeaaDoorTBack
import Derived.Test.YtoabdejoabfbeaaDoorTText2
import Derived.Test.YtoabdejoabfbeaaDoorTTake
import Derived.Test.YtoabdejoabfbeaaDoorOld
namespace Go.Proofs.YtoabdejoabfbeaaDoor
open Go.RowKit
open Go.Lib (cut decDigits)
set_option linter.unusedVariables false
set_option linter.unusedSimpArgs false
set_option maxRecDepth 10000
theorem cut_len (s : List UInt8) (c : UInt8) : (cut s [c]).1.length ≤ s.length ∧ (cut s [c]).2.1.length ≤ s.length := by
  rcases split_at c s with h | ⟨a, b, rfl, h⟩
  · rw [cut_not h]; simp
  · rw [cut_is b h]; simp; omega
theorem cut_any (s : List UInt8) (hs : s.length ≤ 20000) (c : UInt8) (m : Int) (w : World) (hm : w.cell? ⟨2, 0, none⟩ = some (.int .i64 m)) : callE Tryd.prog 21 #[.string (strOf s), .string (strOf [c])] w fun v w' => v = .tuple #[.string (strOf (cut s [c]).1), .string (strOf (cut s [c]).2.1), .bool (cut s [c]).2.2] ∧ ∃ n, w' = w.drewN n := by
  refine (Tryd.strings_Cut (strOf s) (strOf [c]) m w (by rw [strOf_size]; omega) hm).mono ?_
  rintro x y ⟨rfl, h⟩
  exact ⟨_, rfl, rfl, h⟩
theorem parseV_some {k : Nat} {l : List Vd} {n : Int} {u : List UInt8} {v : Vd} {rest : List UInt8} (h : stepV l u = some (v, rest)) : parseV (k + 1) l n u = if rest = [] then (l ++ [v], 0, 0) else parseV k (l ++ [v]) (n + 1) rest := by
  rw [parseV.eq_2, h]
theorem str_nil : (strOf []).toList = [] := by rw [ByteArray.toList_eq]; rfl
theorem vdrs_app (a b : List Vd) : vdrs (a ++ b) = vdrs a ++ vdrs b := by simp [vdrs]
set_option maxHeartbeats 3200000 in
theorem vparse_any (t : List UInt8) (ht : t.length ≤ 20000) (m : Int) (w : World) (h2 : 2 < w.heap.size) (hm : w.cell? ⟨2, 0, none⟩ = some (.int .i64 m)) :
    callE Tryd.prog 9 #[.string (strOf t)] w fun v w' => ∃ vx, v = .tuple #[vx, .int .i64 (parseV 33 [] 1 t).2.1, .int .i64 (parseV 33 [] 1 t).2.2] ∧ w'.ownsRow w.heap.size 32 2 vx (parseV 33 [] 1 t).1.length (vdrs (parseV 33 [] 1 t).1) ∧ Below w.heap.size w w' := by
  refine calls_E Tryd.func9 rfl rfl rfl (Nat.le_of_ble_eq_true rfl) ?_
  simp [go_sem, IntWalk.iteOmega, IntWalk.toNatUp]
  refine W_loop (fun st wr => ∃ (l : List Vd) (vl : Value) (u : List UInt8) (n : Nat), l.length ≤ 32 ∧ u.length ≤ t.length ∧ n = l.length + 1 ∧ st 0 = .string (strOf u) ∧ st 5 = vl ∧ st 6 = .int .i64 n ∧ wr.ownsRow w.heap.size 32 2 vl l.length (vdrs l) ∧ Below w.heap.size w wr ∧ (∀ x ∈ l, x.name.size ≤ 20000 ∧ 1 ≤ x.weight ∧ x.weight ≤ 4611686018427387903) ∧ parseV 33 [] 1 t = parseV (33 - l.length) l n u) (fun st _ => 33 - (intOf (st 6)).toNat) ?_ ?_
  · exact ⟨[], .slice none 0 0, t, 1, by simp, by omega, rfl, by simp [go_sem], by simp [go_sem], by simp [go_sem], by simpa [vdrs] using World.ownsRow_nil _ _ _ _, Below.refl _ _, by simp, rfl⟩
  · rintro st wr ⟨l, vl, u, n, hl, hu, hn, e0, e5, e6, hown, hbw, hL, hp⟩
    have hm' : wr.cell? ⟨2, 0, none⟩ = some (.int .i64 m) := by rw [hbw.cell h2]; exact hm
    have c10 : (⟨#[10]⟩ : ByteArray) = strOf [10] := rfl
    have c32 : (⟨#[32]⟩ : ByteArray) = strOf [32] := rfl
    obtain ⟨-, A, c, rfl⟩ := own_sl hown
    simp [go_sem, IntWalk.iteOmega, IntWalk.toNatUp, e0, e5, e6, c10, c32]
    refine callE_of (cut_any u (by omega) 10 m _ hm') ?_
    rintro _ w1 ⟨rfl, d1, rfl⟩
    simp [go_sem, IntWalk.iteOmega, IntWalk.toNatUp, e0, e5, e6, c10, c32]
    have hl1 := cut_len u 10
    have hl2 := cut_len (cut u [10]).1 32
    have r1 := fun w k => callE_eq noinit_weight (weight_runs (cut (cut u [10]).1 [32]).2.1 (by omega) w) k
    refine callE_of (cut_any (cut u [10]).1 (by omega) 32 m _ (show (wr.drewN d1).cell? _ = _ from hm')) ?_
    rintro _ w2 ⟨rfl, d2, rfl⟩
    have hown2 : ((wr.drewN d1).drewN d2).ownsRow w.heap.size 32 2 (.slice A l.length c) l.length (vdrs l) := hown
    have hbw2 : Below w.heap.size w ((wr.drewN d1).drewN d2) := ⟨hbw.os, hbw.tape, hbw.output, hbw.size, hbw.block⟩
    generalize (wr.drewN d1).drewN d2 = w2 at *
    obtain ⟨k, hk⟩ : ∃ k, 33 - l.length = k + 1 := ⟨32 - l.length, by omega⟩
    rw [hk] at hp
    have bad : stepV l u = none → parseV 33 [] 1 t = ([], (n : Int), 8) := fun h => by rw [hp]; unfold parseV; rw [h]
    have kA := hbw2.alloc hbw2.size (.cells #[.string ByteArray.empty, .int .i64 0] 32)
    by_cases c1 : (cut u [10]).2.2 = true
    · by_cases c2 : (cut (cut u [10]).1 [32]).2.2 = true
      · have hN1 : (strOf (cut (cut u [10]).1 [32]).1).size ≤ 20000 := by rw [strOf_size]; omega
        by_cases h1 : weightV (cut (cut u [10]).1 [32]).2.1 < 1
        · have hb := bad (by unfold stepV; simp only; rw [if_neg (fun h => by have := h.2.2.1; omega)])
          simp [go_sem, IntWalk.iteOmega, IntWalk.toNatUp, e0, e5, e6, r1, c1, c2, h1]
          exact ⟨_, ⟨rfl, by rw [hb], by rw [hb]⟩, by rw [hb]; exact World.ownsRow_nil _ _ _ _, hbw2.alloc hbw2.size _⟩
        · have hstep : stepV l u = if checkV (l ++ [⟨strOf (cut (cut u [10]).1 [32]).1, weightV (cut (cut u [10]).1 [32]).2.1⟩]) = 0 then some (⟨strOf (cut (cut u [10]).1 [32]).1, weightV (cut (cut u [10]).1 [32]).2.1⟩, (cut u [10]).2.1) else none := by
            unfold stepV
            simp only [c1, c2, true_and]
            by_cases hq : checkV (l ++ [⟨strOf (cut (cut u [10]).1 [32]).1, weightV (cut (cut u [10]).1 [32]).2.1⟩]) = 0
            · rw [if_pos ⟨by omega, hq⟩, if_pos hq]
            · rw [if_neg (fun h => hq h.2), if_neg hq]
          have hwl : weightV (cut (cut u [10]).1 [32]).2.1 ≤ 4611686018427387903 := by unfold weightV; split <;> omega
          simp [go_sem, IntWalk.iteOmega, IntWalk.toNatUp, e0, e5, e6, r1, c1, c2, h1]
          have hl3 : (cut u [10]).2.1.length ≤ t.length := by omega
          generalize (cut u [10]).2.1 = rest at *
          generalize hNe : strOf (cut (cut u [10]).1 [32]).1 = N at *
          generalize hWe : weightV (cut (cut u [10]).1 [32]).2.1 = wt at *
          have hV0 : Blk (w2.alloc (.cells #[.string N, .int .i64 wt] 32)) w2.heap.size 32 #[.string N, .int .i64 wt] := Blk.self_ rfl
          have hV1 := hV0.more (.cells #[.string N, .int .i64 wt] 32)
          have hV2 : Blk ((w2.alloc (.cells #[.string N, .int .i64 wt] 32)).alloc (.cells #[.string N, .int .i64 wt] 32)) (w2.heap.size + 1) 32 #[.string N, .int .i64 wt] := Blk.self_ (by simp)
          have hown3 := own_keep (own_keep hown2 (ext_alloc w2 (.cells #[.string N, .int .i64 wt] 32))) (ext_alloc _ (.cells #[.string N, .int .i64 wt] 32))
          have kB1 := hbw2.alloc hbw2.size (.cells #[.string N, .int .i64 wt] 32)
          have kB2 := kB1.alloc kB1.size (.cells #[.string N, .int .i64 wt] 32)
          have hlt2 := hown2.lt
          generalize (w2.alloc (.cells #[.string N, .int .i64 wt] 32)).alloc (.cells #[.string N, .int .i64 wt] 32) = w3 at *
          have hL' : ∀ x ∈ l ++ [(⟨N, wt⟩ : Vd)], x.name.size ≤ 20000 ∧ 1 ≤ x.weight ∧ x.weight ≤ 4611686018427387903 := by
            intro x hx
            rcases List.mem_append.1 hx with hx | hx
            · exact hL x hx
            · obtain rfl := List.mem_singleton.1 hx
              exact ⟨hN1, by simp only; omega, hwl⟩
          have hll : (l ++ [(⟨N, wt⟩ : Vd)]).length = l.length + 1 := by simp
          have hvd : vdrs l ++ [.string N, .int .i64 wt] = vdrs (l ++ [⟨N, wt⟩]) := by simp [vdrs]
          refine appendOldE w.heap.size 32 2 24 Tryd.underlying22 el32 hown3 (m := 1) (news := [.string N, .int .i64 wt]) rfl (fun j u hu => by rw [hV2.cell]; simpa using hu) rfl (by unfold maxLen; omega) (by omega) kB2.size ?_
          intro v4 w4 hown4 hold4 g4 o4
          rw [hvd] at hown4
          have hb4 := kB2.grown g4 kB2.size (fun k hk => (hlt2 k hk).1)
          have hV4 : Blk w4 w2.heap.size 32 #[.string N, .int .i64 wt] := Blk_farh hV1 (g4.block _ hV1.lt (fun e => by have := (hlt2 _ e.symm).2; omega))
          obtain ⟨s4, A4, c4, rfl⟩ := own_sl hown4
          have s4' : Sl w4 2 (.slice A4 (l.length + 1) c4) (l ++ [(⟨N, wt⟩ : Vd)]).length (vdrs (l ++ [⟨N, wt⟩])) := by rw [hll]; exact s4
          simp [go_sem, IntWalk.iteOmega, IntWalk.toNatUp, e0, e5, e6]
          refine callE_of (vcheck_any (l ++ [⟨N, wt⟩]) _ w4 s4' (fun x hx => by have := hL' x hx; omega) (fun x hx => by have := hL' x hx; omega)) ?_
          rintro _ w5 ⟨rfl, k5⟩
          have hb5 := hb4.trans (k5.mono hb4.size)
          by_cases hc : checkV (l ++ [⟨N, wt⟩]) = 0
          · rw [hc]
            have hV5 := hV4.keep k5
            have hold5 := own_keep hold4 k5
            have hlen := (check0 hc).2.1
            rw [hll] at hlen
            simp [go_sem, IntWalk.iteOmega, IntWalk.toNatUp, e0, e5, e6, hV5.cell]
            have hV6 : Blk (w5.alloc (.cells #[.string N, .int .i64 wt] 32)) w5.heap.size 32 #[.string N, .int .i64 wt] := Blk.self_ rfl
            have hb6 := hb5.alloc hb5.size (.cells #[.string N, .int .i64 wt] 32)
            have hold6 := own_keep hold5 (ext_alloc w5 (.cells #[.string N, .int .i64 wt] 32))
            have hlt6 := hold5.lt
            generalize hW6 : w5.alloc (.cells #[.string N, .int .i64 wt] 32) = w6 at *
            refine appendE w.heap.size 32 2 24 Tryd.underlying22 el32 hold6 (m := 1) (news := [.string N, .int .i64 wt]) ⟨rfl, fun _ => ⟨_, 0, rfl, hV6.lt, fun j u hu => by rw [hV6.cell]; simpa using hu⟩⟩ rfl (by unfold maxLen; omega) (by omega) hb6.size ?_
            intro v7 w7 hown7 g7 o7
            rw [hvd] at hown7
            have hb7 := hb6.grown g7 hb6.size (fun k hk => (hlt6 k hk).1)
            have hpe : parseV 33 [] 1 t = if rest = [] then (l ++ [⟨N, wt⟩], 0, 0) else parseV k (l ++ [⟨N, wt⟩]) (n + 1) rest := by
              rw [hp]; exact parseV_some (by rw [hstep, if_pos hc])
            by_cases hr : rest = []
            · rw [if_pos hr] at hpe
              subst hr
              simp [go_sem, IntWalk.iteOmega, IntWalk.toNatUp, e0, e5, e6, strOf]
              exact ⟨v7, ⟨rfl, by rw [hpe], by rw [hpe]⟩, by rw [hpe, hll]; exact hown7, hb7⟩
            · rw [if_neg hr] at hpe
              have hr' : (strOf rest).toList.isEmpty = false := by
                rw [List.isEmpty_eq_false_iff]
                exact fun h => hr ((str_ext (b := [])).1 (h.trans str_nil.symm))
              simp [go_sem, IntWalk.iteOmega, IntWalk.toNatUp, e0, e5, e6, hr']
              refine roundEnd.mk ⟨l ++ [⟨N, wt⟩], v7, rest, n + 1, ?_, by omega, ?_, by simp [go_sem], by simp [go_sem], ?_, ?_, hb7, hL', ?_⟩ ?_
              · rw [hll]; omega
              · rw [hll]; omega
              · simp [go_sem]
              · rw [hll]; exact hown7
              · rw [hpe, hll, show 33 - (l.length + 1) = k by omega]; rfl
              · simp [go_sem, intOf]; omega
          · have hb := bad (by rw [hstep, if_neg hc])
            have hc' : (checkV (l ++ [⟨N, wt⟩]) != 0) = true := by simpa using hc
            simp [go_sem, IntWalk.iteOmega, IntWalk.toNatUp, e0, e5, e6, hc']
            exact ⟨_, ⟨rfl, by rw [hb], by rw [hb]⟩, by rw [hb]; exact World.ownsRow_nil _ _ _ _, hb5⟩
      · have c2' : (cut (cut u [10]).1 [32]).2.2 = false := by simpa using c2
        have hb := bad (by unfold stepV; simp only; rw [if_neg (fun h => c2 h.2.1)])
        simp [go_sem, IntWalk.iteOmega, IntWalk.toNatUp, e0, e5, e6, r1, c1, c2']
        exact ⟨_, ⟨rfl, by rw [hb], by rw [hb]⟩, by rw [hb]; exact World.ownsRow_nil _ _ _ _, hbw2.alloc hbw2.size _⟩
    · have c1' : (cut u [10]).2.2 = false := by simpa using c1
      have hb := bad (by unfold stepV; simp only; rw [if_neg (fun h => c1 h.1)])
      simp [go_sem, IntWalk.iteOmega, IntWalk.toNatUp, e0, e5, e6, r1, c1']
      exact ⟨_, ⟨rfl, by rw [hb], by rw [hb]⟩, by rw [hb]; exact World.ownsRow_nil _ _ _ _, hbw2.alloc hbw2.size _⟩
end Go.Proofs.YtoabdejoabfbeaaDoor
