/-
  Units: the two walks.
-/
import Derived.Test.YtmoafaaeeanofaaSUnits
import Derived.Test.YtmoafaaeeanofaaRange
namespace Go.Proofs.Ytmoafaaeeanofaa
open Go.RowKit
set_option linter.unusedVariables false
set_option linter.unusedSimpArgs false
set_option maxRecDepth 10000
def U64 (l : List Int) : Prop := ∀ x ∈ l, 0 ≤ x ∧ x ≤ 18446744073709551615
theorem drawV_in {ds : List Int} (h : U64 ds) (j : Nat) : 0 ≤ drawV ds j ∧ drawV ds j ≤ 18446744073709551615 := by
  unfold drawV
  rcases Nat.lt_or_ge j ds.length with hj | hj
  · exact h _ (getD_mem hj)
  · simp [List.getD, List.getElem?_eq_none hj]
open Classical in
noncomputable def unitsV (total k : Int) (ds : List Int) : Int × List Int :=
  if total < 0 ∨ 4611686018427387903 < total ∨ k < 0 ∨ 64 < k then (1, []) else if total < k then (60, []) else (0, unitsL total ds k.toNat)
theorem unitsV_bad {total k : Int} (ds : List Int) (h : total < 0 ∨ 4611686018427387903 < total ∨ k < 0 ∨ 64 < k) : unitsV total k ds = (1, []) := if_pos h
theorem unitsV_few {total k : Int} (ds : List Int) (h : ¬ (total < 0 ∨ 4611686018427387903 < total ∨ k < 0 ∨ 64 < k)) (h2 : total < k) : unitsV total k ds = (60, []) := by unfold unitsV; rw [if_neg h, if_pos h2]
theorem unitsV_ok {total k : Int} (ds : List Int) (h : ¬ (total < 0 ∨ 4611686018427387903 < total ∨ k < 0 ∨ 64 < k)) (h2 : ¬ total < k) : unitsV total k ds = (0, unitsL total ds k.toNat) := by unfold unitsV; rw [if_neg h, if_neg h2]
/-- what Units hands back -/
def UnitsRes (total k : Int) (ds : List Int) (v : Value) (w' : World) : Prop := ∃ u, v = .tuple #[u, .int .i64 (unitsV total k ds).1] ∧ Sl w' 1 u (unitsV total k ds).2.length (intsK .i64 (unitsV total k ds).2)
theorem sl_nil (w : World) (k : IntKind) : Sl w 1 (.slice none 0 0) ([] : List Int).length (intsK k []) := ⟨none, 0, rfl, Rd.nil_ _ _ _, fun _ => ⟨rfl, rfl⟩, by simp, by omega⟩
theorem own_keeps {O : Nat → Prop} {a b : World} {base e size n : Nat} {v : Value} {xs : List Value} (h : a.ownsRow base e size v n xs) (hk : Keeps O a b) (hv : ∀ j, v.ownBlock = some j → O j) : b.ownsRow base e size v n xs := by
  refine ⟨h.1, ?_⟩
  rcases h.2 with hn | ⟨g, cap, cur, rfl, hb, hg, rest⟩
  · exact .inl hn
  · exact .inr ⟨g, cap, cur, rfl, hb, (hk.block g (Array.getElem?_eq_some_iff.1 hg).1 (hv g rfl)).trans hg, rest⟩
theorem own_below {a b : World} {base e size n : Nat} {v : Value} {xs : List Value} (h : a.ownsRow base e size v n xs) (hk : Below a.heap.size a b) : b.ownsRow base e size v n xs := own_keeps h (Keeps.of_ext (O := fun _ => True) hk) fun _ _ => trivial
def Apart (u v : Value) : Prop := ∀ k, u.ownBlock = some k → v.ownBlock ≠ some k
theorem emod_in {d m : Int} (hm : 0 < m) : 0 ≤ d % m ∧ d % m < m := ⟨Int.emod_nonneg _ (by omega), Int.emod_lt_of_pos _ hm⟩
def unitsF (total : Int) (K j : Nat) (vd out : Value) (A : Option Addr) (c : Nat) (s : List Int) (n : Int) (w1 : World) (st : Slots) (wr : World) : Prop :=
  ∃ a : Nat, a ≤ s.length ∧ st 0 = .int .i64 total ∧ st 1 = .int .i64 K ∧ st 2 = vd ∧ st 8 = out ∧ st 9 = .slice A s.length c ∧ st 32 = .int .i64 K ∧ st 33 = .int .i64 j ∧ st 11 = .int .i64 (n + a) ∧ st 12 = .int .i64 a ∧ (∀ i, i < a → s.getD i 0 < n + a) ∧ (a < s.length → n + a < s.getD a 0) ∧ w1 = wr
theorem apart_grown {w : World} {base e size n : Nat} {u v v' : Value} {xs : List Value} (h : Apart u v) (hu : w.ownsRow base e size u n xs) (hb : v'.ownBlock = v.ownBlock ∨ ∃ k, v'.ownBlock = some k ∧ w.heap.size ≤ k) : Apart u v' := by
  intro k hk
  rcases hb with hb | ⟨k', hb, hge⟩
  · rw [hb]; exact h k hk
  · rw [hb]
    have := (hu.lt k hk).2
    intro e
    injection e with e
    omega
theorem Apart.symm {u v : Value} (h : Apart u v) : Apart v u := fun k hk hu => h k hu hk
set_option maxHeartbeats 6400000 in
theorem vUnits_any (total k : Int) (ht : -9223372036854775808 ≤ total ∧ total ≤ 9223372036854775807) (hk : -9223372036854775808 ≤ k ∧ k ≤ 9223372036854775807) (ds : List Int) (hds : U64 ds) (vd : Value) (w : World) (hs : Sl w 1 vd ds.length (intsK .u64 ds)) :
    callE Try.prog 16 #[.int .i64 total, .int .i64 k, vd] w fun v w' => UnitsRes total k ds v w' ∧ Below w.heap.size w w' := by
  refine calls_E Try.func16 rfl rfl rfl (Nat.le_of_ble_eq_true rfl) ?_
  by_cases h1 : total < 0
  · simp [go_sem, IntWalk.iteOmega, IntWalk.toNatUp, h1, UnitsRes, unitsV_bad ds (show total < 0 ∨ 4611686018427387903 < total ∨ k < 0 ∨ 64 < k by omega)]
    exact ⟨sl_nil _ _, Below.refl _ _⟩
  by_cases h2 : 4611686018427387903 < total
  · simp [go_sem, IntWalk.iteOmega, IntWalk.toNatUp, h1, h2, UnitsRes, unitsV_bad ds (show total < 0 ∨ 4611686018427387903 < total ∨ k < 0 ∨ 64 < k by omega)]
    exact ⟨sl_nil _ _, Below.refl _ _⟩
  by_cases h3 : k < 0
  · simp [go_sem, IntWalk.iteOmega, IntWalk.toNatUp, h1, h2, h3, UnitsRes, unitsV_bad ds (show total < 0 ∨ 4611686018427387903 < total ∨ k < 0 ∨ 64 < k by omega)]
    exact ⟨sl_nil _ _, Below.refl _ _⟩
  by_cases h4 : 64 < k
  · simp [go_sem, IntWalk.iteOmega, IntWalk.toNatUp, h1, h2, h3, h4, UnitsRes, unitsV_bad ds (show total < 0 ∨ 4611686018427387903 < total ∨ k < 0 ∨ 64 < k by omega)]
    exact ⟨sl_nil _ _, Below.refl _ _⟩
  have hok : ¬ (total < 0 ∨ 4611686018427387903 < total ∨ k < 0 ∨ 64 < k) := by omega
  by_cases h5 : total < k
  · simp [go_sem, IntWalk.iteOmega, IntWalk.toNatUp, h1, h2, h3, h4, h5, UnitsRes, unitsV_few ds hok h5]
    exact ⟨sl_nil _ _, Below.refl _ _⟩
  have hV := unitsV_ok ds hok h5
  obtain ⟨K, rfl⟩ : ∃ K : Nat, k = K := ⟨k.toNat, by omega⟩
  rw [Int.toNat_natCast] at hV
  simp [go_sem, IntWalk.iteOmega, IntWalk.toNatUp, h1, h2, h3, h4, h5]
  refine W_loop (fun st wr => ∃ (j : Nat) (out tk : Value) (s : List Int), j ≤ K ∧ st 0 = .int .i64 total ∧ st 1 = .int .i64 K ∧ st 2 = vd ∧ st 8 = out ∧ st 9 = tk ∧ st 32 = .int .i64 K ∧ st 33 = .int .i64 j ∧
    wr.ownsRow w.heap.size 2 1 out j (intsK .i64 (unitsL total ds j)) ∧ wr.ownsRow w.heap.size 2 1 tk s.length (intsK .i64 s) ∧ s.Pairwise (· < ·) ∧ s.Perm (unitsL total ds j) ∧ Apart out tk ∧ Below w.heap.size w wr) (fun st _ => K - (intOf (st 33)).toNat) ?_ ?_
  · exact ⟨0, .slice none 0 0, .slice none 0 0, [], by omega, by simp [go_sem], by simp [go_sem], by simp [go_sem], by simp [go_sem], by simp [go_sem], by simp [go_sem], by simp [go_sem], World.ownsRow_nil _ _ _ _, World.ownsRow_nil _ _ _ _, List.Pairwise.nil, List.Perm.refl _, fun k h => by simp [Value.ownBlock] at h, Below.refl _ _⟩
  · rintro st wr ⟨j, out, tk, s, hj, e0, e1, e2, e8, e9, e32, e33, hout, htk, hsort, hperm, hap, hbw⟩
    by_cases hlt : j < K
    · have hlt' : (j : Int) < K := by omega
      have hd := drawV_in hds j
      have hm := emod_in (d := drawV ds j) (m := total - j) (by omega)
      have f1 : IntKind.u64.wrap (total - j) = total - j := by rw [IntKind.wrap_u64]; omega
      have f2 : (drawV ds j).tmod (total - j) = drawV ds j % (total - j) := Int.tmod_eq_emod_of_nonneg hd.1
      have f3 : IntKind.i64.wrap (drawV ds j % (total - j)) = drawV ds j % (total - j) := by rw [IntKind.wrap_i64]; omega
      have f4 : (total - (j : Int) == 0) = false := beq_eq_false_iff_ne.2 (by omega)
      have hsl : s.length = j := by rw [hperm.length_eq, unitsL_length]
      obtain ⟨hnd, hin⟩ := unitsL_ok (total := total) (draws := ds) (j := j) (by omega)
      have hst : unitsL total ds (j + 1) = unitsL total ds j ++ [freeV (unitsL total ds j) (drawV ds j % (total - j))] := rfl
      simp [go_sem, IntWalk.iteOmega, IntWalk.toNatUp, e0, e1, e2, e8, e9, e32, e33, hlt']
      refine callE_of (draw_any ds j vd wr (Sl_kept hs hbw)) ?_
      rintro _ w1 ⟨rfl, k1⟩
      have hout1 := own_below hout k1
      have htk1 := own_below htk k1
      have hbw1 := hbw.trans (k1.mono hbw.size)
      generalize hN : drawV ds j % (total - j) = n at *
      generalize drawV ds j = dv at *
      simp [go_sem, IntWalk.iteOmega, IntWalk.toNatUp, e0, e1, e2, e8, e9, e32, e33, f1, f2, f3, f4]
      obtain ⟨hsl1, A, c, rfl⟩ := own_sl htk1
      obtain ⟨A', c', ee, hrd, _, _, _⟩ := hsl1
      injection ee with ee1 _ ee3
      subst ee1; subst ee3
      refine W_loopAt 3 (fun st wr => ∃ a : Nat, a ≤ s.length ∧ st 0 = .int .i64 total ∧ st 1 = .int .i64 K ∧ st 2 = vd ∧ st 8 = out ∧ st 9 = .slice A s.length c ∧ st 32 = .int .i64 K ∧ st 33 = .int .i64 j ∧ st 11 = .int .i64 (n + a) ∧ st 12 = .int .i64 a ∧ (∀ i, i < a → s.getD i 0 < n + a) ∧ w1 = wr) (fun st _ => s.length - (intOf (st 12)).toNat)
        (unitsF total K j vd out A c s n w1) ?_ ?_ ?_
      · exact ⟨0, by omega, by simp [go_sem, e0], by simp [go_sem, e1], by simp [go_sem, e2], by simp [go_sem, e8], by simp [go_sem, e9], by simp [go_sem, e32], by simp [go_sem, e33], by simp [go_sem], by simp [go_sem], fun i hi => by omega, rfl⟩
      · rintro st2 _ ⟨a, ha, f0, f1, f2', f8, f9, f32, f33, f11, f12, hlow, rfl⟩
        by_cases hla : a < s.length
        · obtain ⟨b, o, rfl, hb, hc⟩ := hrd.cells (by omega)
          have y0 := hc _ _ (intsK_at hla)
          have hla' : (a : Int) < s.length := by omega
          obtain ⟨y, hy⟩ : ∃ y, s.getD a 0 = y := ⟨_, rfl⟩
          rw [hy] at y0
          by_cases hq : y ≤ n + a
          · simp [go_sem, IntWalk.iteOmega, IntWalk.toNatUp, f0, f1, f2', f8, f9, f32, f33, f11, f12, hla, hla', y0, hq]
            refine roundEnd.mk ⟨a + 1, by omega, by simp [go_sem, f0], by simp [go_sem, f1], by simp [go_sem, f2'], by simp [go_sem, f8], by simp [go_sem, f9], by simp [go_sem, f32], by simp [go_sem, f33], ?_, by simp [go_sem], fun i hi => ?_, rfl⟩ ?_
            · simp [go_sem]; omega
            · by_cases hia : i = a
              · rw [hia]; omega
              · have := hlow i (by omega); omega
            · simp [go_sem, intOf, f12]; omega
          · simp [go_sem, IntWalk.iteOmega, IntWalk.toNatUp, f0, f1, f2', f8, f9, f32, f33, f11, f12, hla, hla', y0, hq]
            exact ⟨a, ha, by simp [go_sem, f0], by simp [go_sem, f1], by simp [go_sem, f2'], by simp [go_sem, f8], by simp [go_sem, f9], by simp [go_sem, f32], by simp [go_sem, f33], by simp [go_sem, f11], by simp [go_sem, f12], hlow, fun _ => by rw [hy]; omega, rfl⟩
        · have hla' : ¬ (a : Int) < s.length := by omega
          simp [go_sem, IntWalk.iteOmega, IntWalk.toNatUp, f0, f1, f2', f8, f9, f32, f33, f11, f12, hla']
          exact ⟨a, ha, by simp [go_sem, f0], by simp [go_sem, f1], by simp [go_sem, f2'], by simp [go_sem, f8], by simp [go_sem, f9], by simp [go_sem, f32], by simp [go_sem, f33], by simp [go_sem, f11], by simp [go_sem, f12], hlow, fun h => absurd h hla, rfl⟩
      · rintro st2 _ ⟨a, ha, f0, f1, f2', f8, f9, f32, f33, f11, f12, hlow, hhigh, rfl⟩
        have hfree := free_perm hperm (sorted_free (n := n) hsort ha rfl hlow hhigh)
        have hfv := freeV_eq hnd hfree
        have hsort' := ins_sorted hsort ha hlow hhigh
        have hperm' : (s.take a ++ (n + a) :: s.drop a).Perm (unitsL total ds j ++ [n + a]) := (ins_perm s (n + a) a).trans (hperm.append_right _)
        rw [hfv] at hst
        simp [go_sem, IntWalk.iteOmega, IntWalk.toNatUp, f0, f1, f2', f8, f9, f32, f33, f11, f12]
        have kA := ext_alloc w1 (.cells #[.int .i64 (n + a)] 2)
        have hxb : Blk (w1.alloc (.cells #[.int .i64 (n + a)] 2)) w1.heap.size 2 #[.int .i64 (n + a)] := Blk.self_ rfl
        have htkA := own_below htk1 kA
        have houtA := own_below hout1 kA
        have hsA : (w1.alloc (.cells #[.int .i64 (n + a)] 2)).heap.size = w1.heap.size + 1 := by simp
        have hbA := hbw1.trans (kA.mono hbw1.size)
        have hnex : (Value.slice A s.length c).ownBlock ≠ some w1.heap.size := fun e => by have := (htk1.lt _ e).2; omega
        have hltA := fun k hk => (houtA.lt k hk).2
        generalize w1.alloc (.cells #[.int .i64 (n + a)] 2) = w2 at *
        refine callE_of (insert_any s (n + a) a ha (by omega) w.heap.size _ w2 htkA w1.heap.size hxb hnex hbA.size) ?_
        rintro tk' w3 ⟨htk3, hgr3, hblk3⟩
        have hout3 := own_keeps houtA (Keeps.grown (O := fun k => (Value.slice A s.length c).ownBlock ≠ some k) hgr3 (fun k hk h => h hk)) (fun k hk => hap k hk)
        have hap3 : Apart out tk' := apart_grown hap houtA hblk3
        have hb3 := hbA.grown hgr3 hbA.size (fun k hk => (htkA.lt k hk).1)
        have hle3 : (s.take a ++ (n + a) :: s.drop a).length = s.length + 1 := by rw [List.length_append, List.length_cons, List.length_take, List.length_drop]; omega
        rw [← hle3] at htk3
        generalize s.take a ++ (n + a) :: s.drop a = s' at *
        simp [go_sem, IntWalk.iteOmega, IntWalk.toNatUp, f0, f1, f2', f8, f9, f32, f33, f11, f12]
        have kB := ext_alloc w3 (.cells #[.int .i64 (n + a)] 2)
        have hxb3 : Blk (w3.alloc (.cells #[.int .i64 (n + a)] 2)) w3.heap.size 2 #[.int .i64 (n + a)] := Blk.self_ rfl
        have hrx : Rd (w3.alloc (.cells #[.int .i64 (n + a)] 2)) 1 (some ⟨w3.heap.size, 0, none⟩) 1 (intsK .i64 [n + a]) := ⟨rfl, fun _ => ⟨_, 0, rfl, hxb3.lt, fun q u hu => by rw [hxb3.cell, Nat.zero_add, List.getElem?_toArray]; exact hu⟩⟩
        have htkB := own_below htk3 kB
        have houtB := own_below hout3 kB
        have hbB := hb3.trans (kB.mono hb3.size)
        generalize w3.alloc (.cells #[.int .i64 (n + a)] 2) = w4 at *
        have hjj : j ≤ 64 := by omega
        refine appendE w.heap.size 2 1 8 Try.underlying22 el2 houtB hrx rfl (by unfold maxLen; omega) (by omega) hbB.size ?_
        intro out' w5 hout5 hgr5 hblk5
        have hcat : intsK .i64 (unitsL total ds j) ++ intsK .i64 [n + a] = intsK .i64 (unitsL total ds (j + 1)) := by rw [hst]; simp [intsK]
        rw [hcat] at hout5
        have htk5 := own_keeps htkB (Keeps.grown (O := fun k => out.ownBlock ≠ some k) hgr5 (fun k hk h => h hk)) (fun k hk => hap3.symm k hk)
        have hap5 : Apart out' tk' := (apart_grown hap3.symm htkB (hblk5.imp id fun h => ⟨_, h, Nat.le_refl _⟩)).symm
        have hb5 := hbB.grown hgr5 hbB.size (fun k hk => (houtB.lt k hk).1)
        rw [← hst] at hperm'
        simp [go_sem, IntWalk.iteOmega, IntWalk.toNatUp, f0, f1, f2', f8, f9, f32, f33, f11, f12]
        refine roundEnd.mk ⟨j + 1, out', tk', s', by omega, by simp [go_sem, f0], by simp [go_sem, f1], by simp [go_sem, f2'], by simp [go_sem], by simp [go_sem], by simp [go_sem, f32], by simp [go_sem], hout5, htk5, hsort', hperm', hap5, hb5⟩ ?_
        simp [go_sem, intOf, e33]; omega
    · obtain rfl : j = K := by omega
      obtain ⟨hsl1, A, c, rfl⟩ := own_sl hout
      simp [go_sem, IntWalk.iteOmega, IntWalk.toNatUp, e0, e1, e2, e8, e9, e32, e33, UnitsRes, hV]
      refine ⟨?_, hbw⟩
      rw [unitsL_length]
      exact hsl1
end Go.Proofs.Ytmoafaaeeanofaa
