/-
  The document's Parse.
-/
import Derived.Test.YtoabdejoabfbeaaDoorTParse
import Derived.Test.YtoabdejoabfbeaaDoorTTake
namespace Go.Proofs.YtoabdejoabfbeaaDoor
open Go.RowKit
open Go.Lib (cut decDigits)
set_option linter.unusedVariables false
set_option linter.unusedSimpArgs false
set_option maxRecDepth 10000
/-- the document's step is the program's -/
theorem step_take {l : List Vd} {a rest : List UInt8} (h10 : (10 : UInt8) ∉ a) :
    stepV l (a ++ 10 :: rest) = if takeOk a = true ∧ checkV (l ++ [lineVd a]) = 0 then some (lineVd a, rest) else none := by
  have hc := cut_is rest h10
  have key : (takeOk a = true ∧ checkV (l ++ [lineVd a]) = 0) ↔ ((cut a [32]).2.2 = true ∧ 1 ≤ weightV (cut a [32]).2.1 ∧ checkV (l ++ [⟨strOf (cut a [32]).1, weightV (cut a [32]).2.1⟩]) = 0) := by
    rcases split_at 32 a with h1 | ⟨x, y, rfl, h1⟩
    · have e := cut_not h1
      constructor
      · rintro ⟨h, _⟩; unfold takeOk at h; rw [e] at h; simp at h
      · rintro ⟨h, _⟩; rw [e] at h; cases h
    · have e := cut_is y h1
      unfold takeOk lineVd
      rw [e]
      simp only [Bool.true_and, Bool.and_eq_true, decide_eq_true_eq, true_and]
      constructor
      · rintro ⟨⟨⟨g1, g2⟩, g3⟩, g4⟩
        have hd : decDigits (numberV y).toNat = y := by
          unfold lineV at g3
          have g3' : x ++ [32] ++ decDigits (numberV y).toNat ++ [10] = x ++ 32 :: y ++ [10] := g3
          have := List.append_inj_left' g3' rfl
          rw [List.append_assoc] at this
          have := List.append_cancel_left this
          simpa using this
        have hw := (weight_number y (numberV y) g2).2 ⟨rfl, hd⟩
        rw [hw]
        exact ⟨g2, g4⟩
      · rintro ⟨g2, g4⟩
        have hw := (weight_number y (weightV y) g2).1 rfl
        rw [← hw.1] at g4 g2
        have hn := (last_ok g4).1
        refine ⟨⟨⟨hn, g2⟩, ?_⟩, g4⟩
        unfold lineV
        rw [hw.1, hw.2]
        simp [strOf]
  have e2 : takeOk a = true ∧ checkV (l ++ [lineVd a]) = 0 → lineVd a = ⟨strOf (cut a [32]).1, weightV (cut a [32]).2.1⟩ := by
    rintro ⟨h, h2⟩
    have hk := key.1 ⟨h, h2⟩
    have hw := (weight_number (cut a [32]).2.1 _ hk.2.1).1 rfl
    unfold lineVd
    rw [hw.1]
  unfold stepV
  rw [hc]
  simp only [true_and]
  by_cases hq : takeOk a = true ∧ checkV (l ++ [lineVd a]) = 0
  · rw [if_pos hq, if_pos (key.1 hq), e2 hq]
  · rw [if_neg hq, if_neg (fun h => hq (key.2 h))]
theorem step_not {l : List Vd} {a : List UInt8} (h10 : (10 : UInt8) ∉ a) : stepV l a = none := by
  unfold stepV
  rw [cut_not h10]
  simp
theorem ownsEmptyN {w : World} {b g size : Nat} {e : TypeId} (hg : Blk w g e #[]) (hb : b ≤ g) : w.ownsRow b e size (.slice (some ⟨g, 0, none⟩) 0 0) 0 [] := ⟨by simp, .inr ⟨g, 0, #[], rfl, hb, hg, Nat.le_refl _, by unfold maxLen; omega, by simp, by simp⟩⟩
theorem held_of {N : Nat → Prop} {W w : World} (h : Below W.heap.size W w) : heldE N W w := ⟨h.size, fun g _ hl => h.block g hl⟩
theorem app1E {W w : World} (hb : Below W.heap.size W w) {l : List Vd} {A : Option Addr} {cap ge : Nat} (hrd : Rd W 2 A l.length (vdrs l)) (he : Blk w ge 32 #[]) (hge : W.heap.size ≤ ge) (hl : l.length ≤ 32) {k : Kont}
    (hk : ∀ v' w', w'.ownsRow W.heap.size 32 2 v' l.length (vdrs l) → Below W.heap.size W w' → (∀ g cs, g ≠ ge → Blk w g 32 cs → Blk w' g 32 cs) → k v' w') :
    resE Tryd.prog (appendR Tryd.prog 22 22 22 (.slice (some ⟨ge, 0, none⟩) 0 0) (.slice A l.length cap) w) k := by
  have h1 : allOne (vdrs l) = true := by
    apply allOne_of
    intro v hv
    simp only [vdrs, List.mem_flatMap] at hv
    obtain ⟨x, _, hx⟩ := hv
    simp only [List.mem_cons, List.not_mem_nil, or_false] at hx
    rcases hx with rfl | rfl <;> rfl
  refine appendE W.heap.size 32 2 24 Tryd.underlying22 el32 (ownsEmptyN he hge) (hrd.keep hb) h1 (by unfold maxLen; omega) (by omega) hb.size ?_
  intro v' w' hown g o
  rw [Nat.zero_add, List.nil_append] at hown
  refine hk v' w' hown (hb.grown g hb.size (fun k hk => ?_)) (fun q cs hq hB => Blk_farh hB (g.block _ hB.lt (fun e => hq ?_)))
  · have : ge = k := Option.some.inj hk
    omega
  · exact (Option.some.inj e)
theorem app2E {W w : World} (hb : Below W.heap.size W w) {l : List Vd} {x : Vd} {v : Value} {gb : Nat} (hown : w.ownsRow W.heap.size 32 2 v l.length (vdrs l)) (hX : Blk w gb 32 #[.string x.name, .int .i64 x.weight]) (hl : l.length ≤ 32) {k : Kont}
    (hk : ∀ v' w', Sl w' 2 v' (l ++ [x]).length (vdrs (l ++ [x])) → Below W.heap.size W w' → k v' w') :
    resE Tryd.prog (appendR Tryd.prog 22 22 22 v (.slice (some ⟨gb, 0, none⟩) 1 1) w) k := by
  have hlt := hown.lt
  refine appendE W.heap.size 32 2 24 Tryd.underlying22 el32 hown (m := 1) (news := [.string x.name, .int .i64 x.weight]) ⟨rfl, fun _ => ⟨_, 0, rfl, hX.lt, fun j u hu => by rw [hX.cell]; simpa using hu⟩⟩ rfl (by unfold maxLen; omega) (by omega) hb.size ?_
  intro v' w' hown' g o
  have e : vdrs l ++ [.string x.name, .int .i64 x.weight] = vdrs (l ++ [x]) := by simp [vdrs]
  rw [e] at hown'
  have hll : (l ++ [x]).length = l.length + 1 := by simp
  exact hk v' w' (by rw [hll]; exact (own_sl hown').1) (hb.grown g hb.size (fun k hk => (hlt k hk).1))
set_option maxHeartbeats 12800000 in
theorem rparse_any (t : List UInt8) (ht : t.length ≤ 20000) (w : World) :
    callE Tryd.prog 10 #[.string (strOf t)] w fun v w' => ∃ vx, v = .tuple #[vx, .int .i64 (parseV 33 [] 1 t).2.1, .int .i64 (parseV 33 [] 1 t).2.2] ∧ w'.ownsRow w.heap.size 32 2 vx (parseV 33 [] 1 t).1.length (vdrs (parseV 33 [] 1 t).1) ∧ Below w.heap.size w w' := by
  refine calls_E Tryd.func10 rfl rfl rfl (Nat.le_of_ble_eq_true rfl) ?_
  simp [go_sem, IntWalk.iteOmega, IntWalk.toNatUp]
  refine W_loop (fun st wr => ∃ (l : List Vd) (vl : Value) (f n : Nat), l.length ≤ 32 ∧ f ≤ t.length ∧ n = l.length + 1 ∧ st 0 = .string (strOf t) ∧ st 5 = vl ∧ st 6 = .int .i64 f ∧ st 7 = .int .i64 n ∧ wr.ownsRow w.heap.size 32 2 vl l.length (vdrs l) ∧ Below w.heap.size w wr ∧ (∀ x ∈ l, x.name.size ≤ 20000 ∧ 1 ≤ x.weight ∧ x.weight ≤ 4611686018427387903) ∧ parseV 33 [] 1 t = if f = t.length ∧ 1 < n then (l, 0, 0) else parseV (33 - l.length) l n (t.drop f)) (fun st _ => 33 - (intOf (st 7)).toNat) ?_ ?_
  · exact ⟨[], .slice none 0 0, 0, 1, by simp, by omega, rfl, by simp [go_sem], by simp [go_sem], by simp [go_sem], by simp [go_sem], by simpa [vdrs] using World.ownsRow_nil _ _ _ _, Below.refl _ _, by simp, by rw [if_neg (by omega)]; rfl⟩
  · rintro st wr ⟨l, vl, f, n, hl, hf, hn, e0, e5, e6, e7, hown, hbw, hL, hp⟩
    by_cases hend : f = t.length ∧ 1 < n
    · rw [if_pos hend] at hp
      have q1 : ((f : Int) == (t.length : Int)) = true := by simp [hend.1]
      have q2 : (1 : Int) < n := by omega
      simp [go_sem, IntWalk.iteOmega, IntWalk.toNatUp, e0, e5, e6, e7, strOf_size, q1, q2]
      exact ⟨vl, ⟨rfl, by rw [hp], by rw [hp]⟩, by rw [hp]; exact hown, hbw⟩
    · rw [if_neg hend] at hp
      have hbad : stepV l (t.drop f) = none → parseV 33 [] 1 t = ([], (n : Int), 8) := fun h => by
        obtain ⟨k, hk⟩ : ∃ k, 33 - l.length = k + 1 := ⟨32 - l.length, by omega⟩
        rw [hp, hk, parseV.eq_2, h]
      by_cases hfl : f = t.length
      · have q1 : ((f : Int) == (t.length : Int)) = true := by simp [hfl]
        have q2 : ¬ (1 : Int) < n := by omega
        have hb := hbad (by rw [hfl, List.drop_length]; exact step_not (by simp))
        simp [go_sem, IntWalk.iteOmega, IntWalk.toNatUp, e0, e5, e6, e7, strOf_size, q1, q2]
        refine W_loop (fun s2 w2 => s2 0 = .string (strOf t) ∧ s2 7 = .int .i64 n ∧ s2 8 = .int .i64 f ∧ w2 = wr) (fun _ _ => 0) ?_ ?_
        · exact ⟨by simp [go_sem, e0], by simp [go_sem, e7], by simp [go_sem], rfl⟩
        · rintro s2 _ ⟨a0, a7, a8, rfl⟩
          simp [go_sem, IntWalk.iteOmega, IntWalk.toNatUp, a0, a7, a8, strOf_size, hfl]
          exact ⟨_, ⟨rfl, by rw [hb], by rw [hb]⟩, by rw [hb]; exact World.ownsRow_nil _ _ _ _, hbw⟩
      · have q1 : ((f : Int) == (t.length : Int)) = false := by simp; omega
        simp [go_sem, IntWalk.iteOmega, IntWalk.toNatUp, e0, e5, e6, e7, strOf_size, q1]
        refine W_loop (fun s2 w2 => ∃ j : Nat, f ≤ j ∧ j ≤ t.length ∧ s2 0 = .string (strOf t) ∧ s2 5 = vl ∧ s2 6 = .int .i64 f ∧ s2 7 = .int .i64 n ∧ s2 8 = .int .i64 j ∧ (10 : UInt8) ∉ (t.take j).drop f ∧ w2 = wr) (fun s2 _ => t.length - (intOf (s2 8)).toNat) ?_ ?_
        · exact ⟨f, by omega, by omega, by simp [go_sem, e0], by simp [go_sem, e5], by simp [go_sem, e6], by simp [go_sem, e7], by simp [go_sem], by rw [List.drop_of_length_le (by simp; omega)]; simp, rfl⟩
        · rintro s2 wr ⟨j, hj1, hj2, a0, a5, a6, a7, a8, hno, rfl⟩
          by_cases hlt : j < t.length
          · have hlt' : (j : Int) < t.length := by omega
            have x1 := fun w => run_index_str (P := Tryd.prog) (w := w) Tryd.underlying9 t j hlt
            have htk := take_digs hlt
            have hdrop : t = t.take j ++ t[j] :: t.drop (j + 1) := by simp
            generalize t[j] = c at *
            by_cases hq : c = 10
            · subst hq
              have q3 : ((UInt8.toNat 10 : Nat) : Int) = 10 := rfl
              have q4 : ((j : Int) == (t.length : Int)) = false := by simp; omega
              have hsp : t.drop f = (t.take j).drop f ++ 10 :: t.drop (j + 1) := by
                exact (congrArg (List.drop f) hdrop).trans (List.drop_append_of_le_length (by simp; omega))
              simp [go_sem, IntWalk.iteOmega, IntWalk.toNatUp, a0, a5, a6, a7, a8, strOf_size, hlt, hlt', x1, q3, q4, strOf_part]
              have hal : ((t.take j).drop f).length ≤ 20000 := by simp; omega
              have hst := step_take (l := l) (rest := t.drop (j + 1)) hno
              rw [← hsp] at hst
              generalize (t.take j).drop f = a at *
              have hrest : t.drop (j + 1) = [] ↔ j + 1 = t.length := by rw [List.drop_eq_nil_iff]; omega
              generalize hre : t.drop (j + 1) = rest at *
              refine callE_of (take_any a hal wr) ?_
              rintro _ w3 ⟨⟨x, rfl, hx⟩, k3⟩
              have hb3 := hbw.trans (k3.mono hbw.size)
              have hown3 := own_keep hown k3
              by_cases hok : takeOk a = true
              · obtain rfl := hx hok
                rw [hok]
                have hV4 : Blk (w3.alloc (.cells #[.string (lineVd a).name, .int .i64 (lineVd a).weight] 32)) w3.heap.size 32 #[.string (lineVd a).name, .int .i64 (lineVd a).weight] := Blk.self_ rfl
                have hb4 := hb3.alloc hb3.size (.cells #[.string (lineVd a).name, .int .i64 (lineVd a).weight] 32)
                have hown4 := own_keep hown3 (ext_alloc w3 (.cells #[.string (lineVd a).name, .int .i64 (lineVd a).weight] 32))
                have hxw : (lineVd a).name.size ≤ 20000 ∧ (lineVd a).weight ≤ 4611686018427387903 ∧ -1 ≤ (lineVd a).weight := by
                  have := cut_len a 32
                  refine ⟨?_, (numberV_le _).2, (numberV_le _).1⟩
                  show (strOf _).size ≤ _
                  rw [strOf_size]; omega
                generalize lineVd a = x at *
                obtain ⟨-, A, cap, rfl⟩ := own_sl hown4
                simp [go_sem, IntWalk.iteOmega, IntWalk.toNatUp, a0, a5, a6, a7, a8]
                refine W_flow (fun _ => True) (.pure 0 (.pure 1 (.pure 2 (.pure 4 (.pure 6 (.two 3 (.two 5 (.one 7 (.one 8 (.one 9 (.pure 10 (.pure 11 (.done)))))) 7 (.one 5 (.one 8 (.one 9 (.pure 10 (.pure 11 (.done))))))) 7 (.one 3 (.one 5 (.one 8 (.one 9 (.pure 10 (.pure 11 (.done))))))))))))) follows (by kernel_rfl) ?_
                have hV5 := hV4.drew
                have hb5 := hb4.drew
                have hown5 := own_keep hown4 (ext_drew _)
                have hlt5 := hV5.lt
                generalize (w3.alloc (.cells #[.string x.name, .int .i64 x.weight] 32)).drew = W at *
                simp [go_sem, IntWalk.iteOmega, IntWalk.toNatUp, a5, hV5.cell, hlt5]
                have hrd := Rd.of_own hown5
                have kE := ext_alloc W (.cells #[] 32)
                have hE : Blk (W.alloc (.cells #[] 32)) W.heap.size 32 #[] := Blk.self_ rfl
                have kX := ext_alloc W (.cells #[.string x.name, .int .i64 x.weight] 32)
                have hX : Blk (W.alloc (.cells #[.string x.name, .int .i64 x.weight] 32)) W.heap.size 32 #[.string x.name, .int .i64 x.weight] := Blk.self_ rfl
                have kEX := kE.alloc kE.size (.cells #[.string x.name, .int .i64 x.weight] 32)
                have kXE := kX.alloc kX.size (.cells #[] 32)
                have hEX1 := hE.more (.cells #[.string x.name, .int .i64 x.weight] 32)
                have hEX2 : Blk ((W.alloc (.cells #[] 32)).alloc (.cells #[.string x.name, .int .i64 x.weight] 32)) (W.heap.size + 1) 32 #[.string x.name, .int .i64 x.weight] := Blk.self_ (by simp)
                have hXE1 := hX.more (.cells #[] 32)
                have hXE2 : Blk ((W.alloc (.cells #[.string x.name, .int .i64 x.weight] 32)).alloc (.cells #[] 32)) (W.heap.size + 1) 32 #[] := Blk.self_ (by simp)
                have hNs : ∀ y ∈ l ++ [x], y.name.size ≤ 20000 ∧ -9223372036854775808 ≤ y.weight ∧ y.weight ≤ 9223372036854775807 := fun y hy => by
                  rcases List.mem_append.1 hy with hy | hy
                  · have := hL y hy; omega
                  · obtain rfl := List.mem_singleton.1 hy; omega
                refine ⟨⟨held_of kE, ?o1, held_of kEX, ?o2⟩, held_of kX, held_of kXE, ?o3⟩
                case' o1 =>
                  refine app1E kE hrd hE (Nat.le_refl _) hl ?_
                  intro v6 w6 hown6 hb6 _
                  have hh := held_of (N := fun _ => True) hb6
                  have hh2 := held_of (N := fun _ => True) (hb6.alloc hb6.size (.cells #[.string x.name, .int .i64 x.weight] 32))
                  simp [go_sem, IntWalk.iteOmega, IntWalk.toNatUp, hh, hh2]
                  refine app2E (x := x) (hb6.alloc hb6.size (.cells #[.string x.name, .int .i64 x.weight] 32)) (own_keep hown6 (ext_alloc _ _)) (Blk.self_ rfl) hl ?_
                case' o2 =>
                  refine app1E kEX hrd hEX1 (Nat.le_refl _) hl ?_
                  intro v6 w6 hown6 hb6 hq6
                  have hX6 := hq6 _ _ (by omega) hEX2
                  have hh := held_of (N := fun _ => True) hb6
                  simp [go_sem, IntWalk.iteOmega, IntWalk.toNatUp, hh]
                  refine app2E (x := x) hb6 hown6 hX6 hl ?_
                case' o3 =>
                  refine app1E kXE hrd hXE2 (by omega) hl ?_
                  intro v6 w6 hown6 hb6 hq6
                  have hX6 := hq6 _ _ (by omega) hXE1
                  have hh := held_of (N := fun _ => True) hb6
                  simp [go_sem, IntWalk.iteOmega, IntWalk.toNatUp, hh]
                  refine app2E (x := x) hb6 hown6 hX6 hl ?_
                all_goals
                  intro v7 w7 hs7 hb7
                  have hh7 := held_of (N := fun _ => True) hb7
                  simp [go_sem, IntWalk.iteOmega, IntWalk.toNatUp, hh7]
                  refine callE_of (rcheck_any (l ++ [x]) v7 w7 hs7 (fun y hy => by have := hNs y hy; omega) (fun y hy => (hNs y hy).2)) ?_
                  rintro _ w8 ⟨rfl, k8⟩
                  have hb8 := hb7.trans (k8.mono hb7.size)
                  have hh8 := held_of (N := fun _ => True) hb8
                  have hbw8 := hb5.trans (hb8.mono hb5.size)
                  have hown8 := own_keep hown5 hb8
                  have hV8 := hV5.keep hb8
                  by_cases hc : checkV (l ++ [x]) = 0
                  · rw [hc]
                    simp [go_sem, IntWalk.iteOmega, IntWalk.toNatUp, hh8, a0, a5, a6, a7, a8, hV8.cell]
                    have hX9 : Blk (w8.alloc (.cells #[.string x.name, .int .i64 x.weight] 32)) w8.heap.size 32 #[.string x.name, .int .i64 x.weight] := Blk.self_ rfl
                    have hb9 := hbw8.alloc hbw8.size (.cells #[.string x.name, .int .i64 x.weight] 32)
                    have hown9 := own_keep hown8 (ext_alloc w8 (.cells #[.string x.name, .int .i64 x.weight] 32))
                    have hlt9 := hown9.lt
                    generalize hW9 : w8.alloc (.cells #[.string x.name, .int .i64 x.weight] 32) = w9 at *
                    refine appendE w.heap.size 32 2 24 Tryd.underlying22 el32 hown9 (m := 1) (news := [.string x.name, .int .i64 x.weight]) ⟨rfl, fun _ => ⟨_, 0, rfl, hX9.lt, fun j u hu => by rw [hX9.cell]; simpa using hu⟩⟩ rfl (by unfold maxLen; omega) (by omega) hb9.size ?_
                    intro v10 w10 hown10 g10 _
                    have hb10 := hb9.grown g10 hb9.size (fun k hk => (hlt9 k hk).1)
                    have hvd : vdrs l ++ [.string x.name, .int .i64 x.weight] = vdrs (l ++ [x]) := by simp [vdrs]
                    rw [hvd] at hown10
                    have hll : (l ++ [x]).length = l.length + 1 := by simp
                    have hlen := (check0 hc).2.1
                    rw [hll] at hlen
                    obtain ⟨k, hk⟩ : ∃ k, 33 - l.length = k + 1 := ⟨32 - l.length, by omega⟩
                    have hpe : parseV 33 [] 1 t = if j + 1 = t.length ∧ 1 < n + 1 then (l ++ [x], 0, 0) else parseV k (l ++ [x]) (n + 1) rest := by
                      rw [hp, hk, parseV_some (by rw [hst, if_pos ⟨hok, hc⟩])]
                      by_cases hr : rest = []
                      · rw [if_pos hr, if_pos ⟨hrest.1 hr, by omega⟩]
                      · rw [if_neg hr, if_neg (fun h => hr (hrest.2 h.1))]
                    simp [go_sem, IntWalk.iteOmega, IntWalk.toNatUp, a0, a5, a6, a7, a8]
                    refine roundEnd.mk ⟨l ++ [x], v10, j + 1, n + 1, ?_, by omega, ?_, by simp [go_sem, a0], by simp [go_sem], by simp [go_sem], ?_, ?_, hb10, ?_, ?_⟩ ?_
                    · rw [hll]; omega
                    · rw [hll]; omega
                    · simp [go_sem]
                    · rw [hll]; exact hown10
                    · intro y hy
                      have := (check0 hc).2.2.2
                      have h2 := hNs y hy
                      obtain ⟨i, hi, rfl⟩ := List.getElem_of_mem hy
                      have h3 := this i hi
                      have h4 := (wSum_nn (l := l ++ [x]) (k := i) fun q hq => this q (by omega)).1
                      rw [← vAt_eq hi] at h3
                      omega
                    · rw [hpe, hll, hre, show 33 - (l.length + 1) = k by omega]; rfl
                    · simp [go_sem, intOf]; omega
                  · have hb := hbad (by rw [hst, if_neg (fun h => hc h.2)])
                    have hc' : (checkV (l ++ [x]) != 0) = true := by simpa using hc
                    simp [go_sem, IntWalk.iteOmega, IntWalk.toNatUp, hh8, a0, a5, a6, a7, a8, hc']
                    exact ⟨_, ⟨rfl, by rw [hb], by rw [hb]⟩, by rw [hb]; exact World.ownsRow_nil _ _ _ _, hbw8⟩
              · have hb := hbad (by rw [hst, if_neg (fun h => hok h.1)])
                have hok' : takeOk a = false := by simpa using hok
                rw [hok']
                simp [go_sem, IntWalk.iteOmega, IntWalk.toNatUp, a0, a5, a6, a7, a8]
                refine W_flow (fun _ => True) (.pure 0 (.pure 1 (.pure 2 (.pure 4 (.pure 6 (.two 3 (.two 5 (.one 7 (.one 8 (.one 9 (.pure 10 (.pure 11 (.done)))))) 7 (.one 5 (.one 8 (.one 9 (.pure 10 (.pure 11 (.done))))))) 7 (.one 3 (.one 5 (.one 8 (.one 9 (.pure 10 (.pure 11 (.done))))))))))))) follows (by kernel_rfl) ?_
                simp [go_sem, IntWalk.iteOmega, IntWalk.toNatUp, a0, a5, a6, a7, a8]
                exact ⟨_, ⟨rfl, by rw [hb], by rw [hb]⟩, by rw [hb]; exact World.ownsRow_nil _ _ _ _, (hb3.alloc hb3.size _).drew⟩
            · have hq' : ((c.toNat : Int) != 10) = true := by
                have : ¬ c.toNat = 10 := fun h => hq (UInt8.toNat_inj.1 h)
                simp; omega
              simp [go_sem, IntWalk.iteOmega, IntWalk.toNatUp, a0, a5, a6, a7, a8, strOf_size, hlt, hlt', x1, hq']
              refine roundEnd.mk ⟨j + 1, by omega, by omega, by simp [go_sem, a0], by simp [go_sem, a5], by simp [go_sem, a6], by simp [go_sem, a7], by simp [go_sem], ?_, rfl⟩ ?_
              · rw [htk, List.drop_append_of_le_length (by simp; omega)]
                simp [hno, Ne.symm hq]
              · simp [go_sem, intOf]; omega
          · obtain rfl : j = t.length := by omega
            rw [List.take_of_length_le (Nat.le_refl _)] at hno
            have hb := hbad (step_not hno)
            simp [go_sem, IntWalk.iteOmega, IntWalk.toNatUp, a0, a5, a6, a7, a8, strOf_size]
            exact ⟨_, ⟨rfl, by rw [hb], by rw [hb]⟩, by rw [hb]; exact World.ownsRow_nil _ _ _ _, hbw⟩
end Go.Proofs.YtoabdejoabfbeaaDoor
