/-
  Texts joined: FBegun.
-/
import Derived.Test.YtdjcjjodbniebaaGreatDoorJoin30
namespace Go.Proofs.YtdjcjjodbniebaaGreatDoor
open Go.RowKit
set_option linter.unusedVariables false
set_option linter.unusedSimpArgs false
set_option maxRecDepth 10000
theorem rowB : rowL 7 3 firstB = [bk7 nm0 1, bk7 nm7_1 2, bk7 nm7_2 3] := row7_eq
theorem idB_eq {b : Bk} {a : List UInt8} (hc : checkB b = 0) (h : sha (bytesB b) = a) : (idB b).1 = a := by unfold idB; rw [if_pos hc, h]
theorem row_any' {w : World} {p : Bk} {pv : Value} (hp : BkOk p) (hpd : RdB w pv p.data) (n : Nat) (hn : n ≤ 1000) (which : UInt8) (N Wh : Int) (hN : N = n) (hW : Wh = (which.toNat : Int)) : callE Tryz.prog 9 #[.agg (bkv p pv).toArray, .int .i64 N, .int .u8 Wh] w fun r w' => BksO w' w.heap.size r (rowL which n p) ∧ Below w.heap.size w w' := by
  subst hN hW
  exact row_any hp hpd n hn which
theorem nm0_len : nm0.length = 32 := by decide
theorem nm3_len : nm7_3.length = 32 := by decide
theorem nm2_len : nm7_2.length = 32 := by decide
theorem n01 : nm0 ≠ nm7_1 := by decide +kernel
theorem n02 : nm0 ≠ nm7_2 := by decide +kernel
theorem n03 : nm0 ≠ nm7_3 := by decide +kernel
theorem n12 : nm7_1 ≠ nm7_2 := by decide +kernel
theorem n13 : nm7_1 ≠ nm7_3 := by decide +kernel
theorem n23 : nm7_2 ≠ nm7_3 := by decide +kernel
/-! what each call comes to -/
def bT : List (List UInt8 × List Int) := [(nm7_3, [1, 4])]
theorem bL10 : linkedB (bk7 nm7_1 2) (bk7 nm0 1) = 0 := by
  have := child_linked (p := bk7 nm0 1) (d := [7]) (row_check (by decide)) (by decide) (by decide)
  rw [show sha (bytesB (bk7 nm0 1)) = nm7_1 from nm7_1_eq] at this
  exact this
theorem bL21 : linkedB (bk7 nm7_2 3) (bk7 nm7_1 2) = 0 := by
  have := child_linked (p := bk7 nm7_1 2) (d := [7]) (row_check (by decide)) (by decide) (by decide)
  rw [show sha (bytesB (bk7 nm7_1 2)) = nm7_2 from nm7_2_eq] at this
  exact this
theorem bok0 : BkOk (bk7 nm0 1) := ⟨by decide, by decide, by decide⟩
theorem bok1 : BkOk (bk7 nm7_1 2) := ⟨by decide, by decide, by decide⟩
theorem bok2 : BkOk (bk7 nm7_2 3) := ⟨by decide, by decide, by decide⟩
theorem bck0 : checkB (bk7 nm0 1) = 0 := row_check (by decide)
theorem bck1 : checkB (bk7 nm7_1 2) = 0 := row_check (by decide)
theorem bck2 : checkB (bk7 nm7_2 3) = 0 := row_check (by decide)
theorem bT1 : targetF (bS nm0 [] [] [] []) nm7_3 [1, 4] = (0, bS nm0 bT [] [] []) := b_target
theorem bA1 : askF (bS nm0 bT [] [] []) nm7_3 = ((1, 0), bS nm0 bT [] [(nm7_3, true)] [(nm7_3, 1)]) := by
  unfold bT
  rw [ask_one (b_miss0 n01 n02 n03 n12 n13 n23) (by decide) rfl]
  simp [bS, atL_nil, putAt]
theorem bF1 : failF (bS nm0 bT [] [(nm7_3, true)] [(nm7_3, 1)]) nm7_3 = (0, bS nm0 bT [] [] [(nm7_3, 1)]) := by
  simp [failF, askedB, bS, delB]
theorem bA2 : askF (bS nm0 bT [] [] [(nm7_3, 1)]) nm7_3 = ((4, 0), bS nm0 bT [] [(nm7_3, true)] [(nm7_3, 2)]) := by
  unfold bT
  rw [ask_one (b_miss0 n01 n02 n03 n12 n13 n23) (by decide) rfl]
  simp [bS, atL_cons, putAt]
theorem bG1 : gotF (bS nm0 bT [] [(nm7_3, true)] [(nm7_3, 2)]) nm7_3 [bytesB (bk7 nm7_2 3)] = ((1, 0), bS nm0 bT [(nm7_3, bk7 nm7_2 3)] [] [(nm7_3, 2)]) :=
  b_got1 n01 n02 n03 n12 n13 n23 bL10 bL21 nm0_eq nm7_1_eq nm7_2_eq nm7_3_eq (parse_bytes bok0 bck0) (parse_bytes bok1 bck1) (parse_bytes bok2 bck2)
theorem bA3 : askF (bS nm0 bT [(nm7_3, bk7 nm7_2 3)] [] [(nm7_3, 2)]) nm7_2 = ((1, 0), bS nm0 bT [(nm7_3, bk7 nm7_2 3)] [(nm7_2, true)] [(nm7_3, 2), (nm7_2, 1)]) := by
  unfold bT
  rw [ask_one (b_miss1 n01 n02 n03 n12 n13 n23) (by decide) rfl]
  have e : atL nm7_2 [(nm7_3, (2 : Int))] = none := by rw [atL_cons, if_neg n23]; rfl
  have e2 : putAt nm7_2 (1 : Int) [(nm7_3, (2 : Int))] = [(nm7_3, 2), (nm7_2, 1)] := by simp [putAt, n23]
  simp [bS, e, putAt, n23]
theorem bG2 : gotF (bS nm0 bT [(nm7_3, bk7 nm7_2 3)] [(nm7_2, true)] [(nm7_3, 2), (nm7_2, 1)]) nm7_2 [bytesB (bk7 nm7_1 2), bytesB (bk7 nm0 1), bytesB firstB] = ((2, 0), bS nm0 bT [(nm7_3, bk7 nm7_2 3), (nm7_2, bk7 nm7_1 2), (nm7_1, bk7 nm0 1)] [] [(nm7_3, 2), (nm7_2, 1)]) :=
  b_got2 n01 n02 n03 n12 n13 n23 bL10 bL21 nm0_eq nm7_1_eq nm7_2_eq nm7_3_eq (parse_bytes bok0 bck0) (parse_bytes bok1 bck1) (parse_bytes bok2 bck2)
theorem bC : missL (bS nm0 bT [(nm7_3, bk7 nm7_2 3), (nm7_2, bk7 nm7_1 2), (nm7_1, bk7 nm0 1)] [] [(nm7_3, 2), (nm7_2, 1)]) = [] ∧ chainF (bS nm0 bT [(nm7_3, bk7 nm7_2 3), (nm7_2, bk7 nm7_1 2), (nm7_1, bk7 nm0 1)] [] [(nm7_3, 2), (nm7_2, 1)]) = ([bk7 nm0 1, bk7 nm7_1 2, bk7 nm7_2 3], 0) := b_chain n01 n02 n03 n12 n13 n23 bL10 bL21
theorem bOk (kept : List (List UInt8 × Bk)) (asked : List (List UInt8 × Bool)) (often : List (List UInt8 × Int)) (hk : kept.length ≤ 3) (hk2 : ∀ x ∈ kept, BkOk x.2 ∧ checkB x.2 = 0) : FOk (bS nm0 bT kept asked often) :=
  ⟨nm0_len, by show (0:Int) ≤ 0; decide, by show (0:Int) ≤ _; decide, by show (1:Int) ≤ 9 ∧ (9:Int) ≤ 4096; decide, by show (1:Nat) ≤ 32; decide, fun t ht => by
    obtain rfl : t = (nm7_3, [1, 4]) := by simpa [bS, bT] using ht
    exact ⟨nm3_len, by decide, by decide⟩, by show kept.length ≤ 4096; omega, hk2⟩
theorem BksR.read {w : World} {b o n c : Nat} {bs : List Bk} (h : BksR w (.slice (some ⟨b, o, none⟩) n c) bs) {i : Nat} (hi : i < bs.length) : ∃ dv, BkOk bs[i] ∧ RdB w dv bs[i].data ∧ readCells w ⟨b, o + i * 34, none⟩ 0 34 = some (bkv bs[i] dv) ∧ b < w.heap.size := by
  obtain ⟨b2, o2, c2, dv2, e', hb, h1, h2, h3⟩ := h.at_ hi
  injection e' with f1 _ _
  injection f1 with f1
  injection f1 with f1 f2
  subst f1; subst f2
  exact ⟨dv2, h1, h2, h3 w (Below.refl _ _), hb⟩
theorem BksR.at2 {w : World} {A : Option Addr} {n c : Nat} {bs : List Bk} (h : BksR w (.slice A n c) bs) (h0 : 0 < bs.length) : ∃ b o, A = some ⟨b, o, none⟩ ∧ n = bs.length ∧ b < w.heap.size ∧ ∀ i (hi : i < bs.length), ∃ dv, BkOk bs[i] ∧ RdB w dv bs[i].data ∧ ∀ W, Below w.heap.size w W → readCells W ⟨b, o + i * 34, none⟩ 0 34 = some (bkv bs[i] dv) := by
  obtain ⟨b, o, c', dv, e, hb, _⟩ := h.at_ h0
  injection e with e1 e2 e3
  refine ⟨b, o, e1, e2, hb, fun i hi => ?_⟩
  obtain ⟨b2, o2, c2, dv2, e', _, h1, h2, h3⟩ := h.at_ hi
  injection e' with f1 _ _
  rw [e1] at f1
  injection f1 with f1
  injection f1 with f1 f2
  subst f1; subst f2
  exact ⟨dv2, h1, h2, h3⟩
set_option maxHeartbeats 6400000 in
theorem begun_any {w : World} (hC : Cubes w) : callE Tryz.prog 8 #[] w fun r w' => r = .bool true ∧ Below w.heap.size w w' := by
  have hpos := hC.pos
  refine calls_E Tryz.func8 rfl rfl rfl (Nat.le_of_ble_eq_true rfl) ?_
  simp [go_sem, IntWalk.iteOmega, IntWalk.toNatUp]
  refine callE_of (lfirst_any w) ?_
  rintro _ w1 ⟨rfl, hd1, k1⟩
  simp [go_sem, IntWalk.iteOmega, IntWalk.toNatUp]
  refine callE_of (row_any' firstB_ok hd1 3 (by decide) 7 3 7 rfl rfl) ?_
  rintro lv w2 ⟨hl2, k2⟩
  have k02 := k1.trans (k2.mono k1.size)
  rw [rowB] at hl2
  obtain ⟨_, _, hlown, _⟩ := id hl2
  obtain ⟨-, lA, lc, rfl⟩ := own_sl (id hl2).choose_spec.2.1
  simp [go_sem, IntWalk.iteOmega, IntWalk.toNatUp]
  refine callE_of (lfirst_any w2) ?_
  rintro _ w3 ⟨rfl, hd3, k3⟩
  simp [go_sem, IntWalk.iteOmega, IntWalk.toNatUp]
  refine callE_of (named_any firstB_ok hd3) ?_
  rintro _ w4 ⟨rfl, k4⟩
  rw [idB_eq firstB_check nm0_eq]
  have k24 : Below w2.heap.size w2 w4 := k3.trans (k4.mono k3.size)
  have k04 := k02.trans (k24.mono k02.size)
  have hl4 := hl2.keep k24
  simp [go_sem, IntWalk.iteOmega, IntWalk.toNatUp]
  refine callE_of (fat_new nm0_len (by have := k04.size; omega)) ?_
  rintro _ w5 ⟨(⟨hbad, _⟩ | ⟨_, f, O, rfl, hF5, hO5⟩), k5⟩
  · exact absurd hbad (by decide)
  · simp [go_sem, IntWalk.iteOmega, IntWalk.toNatUp]
    have hl5 := hl4.keep k5
    have k05 := k04.trans (k5.mono k04.size)
    obtain ⟨lb, lo, rfl, _, hlb, hla⟩ := hl5.rd.at2 (by simp)
    obtain ⟨dv0, _, hd0, hr0⟩ := hla 0 (by simp)
    obtain ⟨dv1, _, hd1', hr1⟩ := hla 1 (by simp)
    obtain ⟨dv2, _, hd2, hr2⟩ := hla 2 (by simp)
    simp only [List.getElem_cons_zero, List.getElem_cons_succ] at hd0 hd1' hd2 hr0 hr1 hr2
    rw [Nat.zero_mul, Nat.add_zero] at hr0
    have ok0 : BkOk (bk7 nm0 1) := ⟨by decide, by decide, by decide⟩
    have ok1 : BkOk (bk7 nm7_1 2) := ⟨by decide, by decide, by decide⟩
    have ok2 : BkOk (bk7 nm7_2 3) := ⟨by decide, by decide, by decide⟩
    have ck0 : checkB (bk7 nm0 1) = 0 := row_check (by decide)
    have ck1 : checkB (bk7 nm7_1 2) = 0 := row_check (by decide)
    have ck2 : checkB (bk7 nm7_2 3) = 0 := row_check (by decide)
    have r2 := hr2 w5 (Below.refl _ _)
    simp [go_sem, IntWalk.iteOmega, IntWalk.toNatUp, r2]
    refine callE_of (named_any ok2 hd2) ?_
    rintro _ w6 ⟨rfl, k6⟩
    rw [idB_eq ck2 nm7_3_eq]
    have z2 : ∀ (k : Array Value) (t : TypeId), k.size = 32 → canWrite (w6.alloc (.cells k t)) ⟨w6.heap.size, 0, none⟩ 0 32 = true := fun k t hk => canWrite_all (Blk.self_ rfl) 32 hk
    have z3 : ∀ (k : Array Value) (t : TypeId) (l : List Value), k.size = 32 → l.length = 32 → storeSeg (w6.alloc (.cells k t)) ⟨w6.heap.size, 0, none⟩ 0 l = (w6.alloc (.cells k t)).setRow w6.heap.size l.toArray := fun k t l hk hl => storeSeg_all (Blk.self_ rfl) l (by omega)
    have z4 : ∀ (k : Array Value) (t : TypeId) (l : List Value), l.length = 32 → readCells ((w6.alloc (.cells k t)).setRow w6.heap.size l.toArray) ⟨w6.heap.size, 0, none⟩ 0 32 = some l := fun k t l hl => readCells_all (Blk_setRow (Blk.self_ rfl)) 32 (by simpa using hl)
    have lnm3 : (bl nm7_3).length = 32 := by rw [bl_length]; exact nm3_len
    simp [go_sem, IntWalk.iteOmega, IntWalk.toNatUp, z2, z3, z4, lnm3, bl_one]
    rw [← zeroI_lit]
    have kc : Below w6.heap.size w6 (((w6.alloc (.cells zeroI.toArray 27)).setRow w6.heap.size (bl nm7_3).toArray).alloc (.cells #[.int .i64 1, .int .i64 4] 3)) := (below_setRow (ext_alloc w6 _) (Nat.le_refl _) _).alloc (by simp [World.setRow]) _
    have hcb : Blk (((w6.alloc (.cells zeroI.toArray 27)).setRow w6.heap.size (bl nm7_3).toArray).alloc (.cells #[.int .i64 1, .int .i64 4] 3)) w6.heap.size 27 (bl nm7_3).toArray := (Blk_setRow (Blk.self_ rfl)).more _
    have hfb : Blk (((w6.alloc (.cells zeroI.toArray 27)).setRow w6.heap.size (bl nm7_3).toArray).alloc (.cells #[.int .i64 1, .int .i64 4] 3)) (w6.heap.size + 1) 3 #[.int .i64 1, .int .i64 4] := Blk.self_ (by simp [World.setRow])
    generalize (((w6.alloc (.cells zeroI.toArray 27)).setRow w6.heap.size (bl nm7_3).toArray).alloc (.cells #[.int .i64 1, .int .i64 4] 3)) = w7 at *
    have k57 : Below w5.heap.size w5 w7 := k6.trans (kc.mono k6.size)
    have hO7 : ∀ j, O j → w4.heap.size ≤ j ∧ j < w5.heap.size := fun j hj => ⟨hO5 j hj, hF5.lt j hj⟩
    have hF7 : FAt w7 O f (bS nm0 [] [] [] []) := hF5.keep k57
    have hs56 : w5.heap.size ≤ w6.heap.size := k6.size
    have hs67 : w6.heap.size + 2 ≤ w7.heap.size := hfb.lt
    have hs45 : w4.heap.size ≤ w5.heap.size := k5.size
    have hs24 : w2.heap.size ≤ w4.heap.size := k24.size
    have hs02 : w.heap.size ≤ w2.heap.size := k02.size
    obtain ⟨N0, hN0⟩ : ∃ N0 : Nat → Prop, N0 = fun j => j < w4.heap.size ∨ (w5.heap.size ≤ j ∧ j < w7.heap.size) := ⟨_, rfl⟩
    have hNlow : ∀ j, j < w4.heap.size → N0 j := fun j hj => by rw [hN0]; exact .inl hj
    have hNc : N0 w6.heap.size := by rw [hN0]; exact .inr ⟨hs56, by omega⟩
    have hNO : ∀ j, O j → ¬ N0 j := fun j hj => by rw [hN0]; have := hO7 j hj; rintro (h | h) <;> omega
    have hNall : ∀ {O' : Nat → Prop} {wa wb : World}, (∀ j, O' j → O j ∨ w7.heap.size ≤ j) → (∀ j, O' j → ¬ N0 j) := fun {O' wa wb} h j hj => by
      rcases h j hj with h | h
      · exact hNO j h
      · rw [hN0]; rintro (h' | h') <;> omega
    have hrf : Rd w7 1 (some ⟨w6.heap.size + 1, 0, none⟩) [(1:Int), 4].length (intsK .i64 [1, 4]) := ⟨rfl, fun _ => ⟨_, _, rfl, hfb.lt, fun j v hj => by rw [Nat.zero_add, hfb.cell, List.getElem?_toArray]; exact hj⟩⟩
    have ok0' : FOk (bS nm0 [] [] [] []) := ⟨nm0_len, by show (0:Int) ≤ 0; decide, by show (0:Int) ≤ _; decide, by show (1:Int) ≤ 9 ∧ (9:Int) ≤ 4096; decide, by decide, by simp [bS], by decide, by simp [bS]⟩
    have hk27 : Keeps N0 w2 w7 := Keeps.of_ext ((k24.trans (k5.mono k24.size)).trans (k57.mono (by omega)))
    have hkC7 : Keeps N0 w w7 := (Keeps.of_ext k02).trans hk27
    have hb07 : Below w.heap.size w w7 := (k05.trans (k57.mono k05.size))
    have step : ∀ {O1 O2 : Nat → Prop} {wa wb : World}, Keeps N0 w7 wa → (∀ j, O1 j → O j ∨ w7.heap.size ≤ j) → Mine O1 O2 wa wb → Keeps N0 w7 wb ∧ (∀ j, O2 j → O j ∨ w7.heap.size ≤ j) := fun {O1 O2 wa wb} h1 h2 h3 => ⟨h1.trans (h3.2.2.mono fun j _ hj hO => hNall (wa := wa) (wb := wb) h2 j hO hj), fun j hj => by
      rcases h3.1 j hj with h | h
      · exact h2 j h
      · exact .inr (Nat.le_trans h1.size h)⟩
    have readL : ∀ {wa : World}, Keeps N0 w7 wa → BksO wa w1.heap.size (.slice (some ⟨lb, lo, none⟩) 3 lc) [bk7 nm0 1, bk7 nm7_1 2, bk7 nm7_2 3] := fun {wa} h => hl2.keeps (hk27.trans h) fun j _ hj => hNlow j (by omega)
    have readC : ∀ {wa : World}, Keeps N0 w7 wa → Blk wa w6.heap.size 27 (bl nm7_3).toArray := fun {wa} h => h.blk hcb hNc
    have cub : ∀ {wa : World}, Keeps N0 w7 wa → Cubes wa := fun {wa} h t ht => ((hkC7.trans h).cell (p := ⟨0, t, none⟩) hpos (hNlow 0 (by omega))).trans (hC t ht)
    have bel : ∀ {wa : World}, Keeps N0 w7 wa → Below w.heap.size w wa := fun {wa} h => hb07.trans (h.below (by omega) fun k hk => hNlow k (by omega))
    refine callE_of (fat_target (us := [1, 4]) hF7 ok0' nm3_len hrf (by decide) (fun j hj hO => by
      obtain ⟨_, b, o, e, rfl⟩ := hj
      injection e with e
      injection e with e
      have := hO7 _ hO
      omega)) ?_
    rintro _ w8 ⟨rfl, O1, hF8, hM8⟩
    rw [bT1] at hF8 ⊢
    obtain ⟨kN8, hO8⟩ := step (Keeps.refl _ _) (fun j hj => .inl hj) hM8
    have x8 := readCells_all (readC kN8) 32 (by simpa using lnm3)
    simp [go_sem, IntWalk.iteOmega, IntWalk.toNatUp, x8]
    have ok1' : FOk (bS nm0 bT [] [] []) := bOk _ _ _ (by decide) (by simp)
    refine callE_of (fat_ask (n := 0) hF8 ok1' (cub kN8) (by intro x hx; simp [bS] at hx) (by decide) nm3_len) ?_
    rintro _ w9 ⟨rfl, O2, hF9, hM9⟩
    rw [bA1] at hF9 ⊢
    obtain ⟨kN9, hO9⟩ := step kN8 hO8 hM9
    have x9 := readCells_all (readC kN9) 32 (by simpa using lnm3)
    simp [go_sem, IntWalk.iteOmega, IntWalk.toNatUp, x9]
    have ok2' : FOk (bS nm0 bT [] [(nm7_3, true)] [(nm7_3, 1)]) := bOk _ _ _ (by decide) (by simp)
    refine callE_of (fat_fail hF9 ok2' nm3_len) ?_
    rintro _ w10 ⟨rfl, O3, hF10, hM10⟩
    rw [bF1] at hF10 ⊢
    obtain ⟨kN10, hO10⟩ := step kN9 hO9 hM10
    have x10 := readCells_all (readC kN10) 32 (by simpa using lnm3)
    simp [go_sem, IntWalk.iteOmega, IntWalk.toNatUp, x10]
    have ok3' : FOk (bS nm0 bT [] [] [(nm7_3, 1)]) := bOk _ _ _ (by decide) (by simp)
    refine callE_of (fat_ask (n := 1) hF10 ok3' (cub kN10) (by intro x hx; obtain rfl : x = (nm7_3, 1) := by simpa [bS] using hx
                                                               decide) (by decide) nm3_len) ?_
    rintro _ w11 ⟨rfl, O4, hF11, hM11⟩
    rw [bA2] at hF11 ⊢
    obtain ⟨kN11, hO11⟩ := step kN10 hO10 hM11
    simp [go_sem, IntWalk.iteOmega, IntWalk.toNatUp]
    have ok4' : FOk (bS nm0 bT [] [(nm7_3, true)] [(nm7_3, 2)]) := bOk _ _ _ (by decide) (by simp)
    have kd11 : Keeps N0 w7 w11.drew := kN11.trans (Keeps.drew _ _)
    have hq11 := held_refl N0 w11.drew
    have x11 := readCells_all (readC kd11) 32 (by simpa using lnm3)
    have xl11 := (readC kd11).lt
    have heldK : ∀ {wa wb : World}, Keeps N0 wa wb → heldE N0 wa wb := fun {wa wb} h => ⟨h.size, fun g hg hl => h.block g hl hg⟩
    refine W_flow N0 (.pure 0 (.pure 1 (.pure 2 (.pure 3 (.pure 4 (.one 5 (.one 6 (.one 7 (.pure 8 (.pure 9 (.pure 10 (.pure 11 (.pure 12 (.done)))))))))))))) follows (by kernel_rfl) ?_
    have hF11d : FAt w11.drew O4 f (bS nm0 bT [] [(nm7_3, true)] [(nm7_3, 2)]) := hF11.keep (ext_drew w11)
    generalize w11.drew = v11 at *
    obtain ⟨e2, eok2, ed2, er2, elb⟩ := (readL kd11).rd.read (i := 2) (by simp)
    simp only [List.getElem_cons_zero, List.getElem_cons_succ] at ed2 er2
    have hNlb : N0 lb := hNlow lb (by
      have := (hl2.choose_spec.2.1.lt lb rfl).2
      omega)
    simp [go_sem, IntWalk.iteOmega, IntWalk.toNatUp, hq11, x11, xl11, hNc, hNlb, elb, er2]
    refine callE_of (wrote_any bok2 bck2 ed2) ?_
    rintro u w12 ⟨hu12, k12⟩
    have hu12' := own_mono (base' := 0) hu12 (Nat.zero_le _)
    have hulo := hu12.lt
    obtain ⟨-, uA, uc, rfl⟩ := own_sl hu12
    have kN12 : Keeps N0 v11 w12 := Keeps.of_ext k12
    have hq12 := heldK kN12
    have hq12a : ∀ o, heldE N0 v11 (w12.alloc o) := fun o => hq12.alloc o
    simp [go_sem, IntWalk.iteOmega, IntWalk.toNatUp, hq12, hq12a]
    have kA12 := ext_alloc w12 (.cells #[.slice uA (bytesB (bk7 nm7_2 3)).length uc] 22)
    have hsb : Blk (w12.alloc (.cells #[.slice uA (bytesB (bk7 nm7_2 3)).length uc] 22)) w12.heap.size 22 #[.slice uA (bytesB (bk7 nm7_2 3)).length uc] := Blk.self_ rfl
    have huA := row_below hu12' kA12
    have hF12 : FAt (w12.alloc (.cells #[.slice uA (bytesB (bk7 nm7_2 3)).length uc] 22)) O4 f (bS nm0 bT [] [(nm7_3, true)] [(nm7_3, 2)]) := (hF11d.keep k12).keep kA12
    have kN12a : Keeps N0 v11 (w12.alloc (.cells #[.slice uA (bytesB (bk7 nm7_2 3)).length uc] 22)) := kN12.trans (Keeps.alloc _ _ _)
    have hs12 : v11.heap.size ≤ w12.heap.size := k12.size
    generalize w12.alloc (.cells #[.slice uA (bytesB (bk7 nm7_2 3)).length uc] 22) = w13 at *
    have hOlt := hF11d.lt
    refine callE_of (fat_got (raws := [bytesB (bk7 nm7_2 3)]) (vals := [.slice uA (bytesB (bk7 nm7_2 3)).length uc]) hF12 ok4' (cub (kd11.trans kN12a)) nm3_len (A := some ⟨w12.heap.size, 0, none⟩) (c := 1) ⟨rfl, fun _ => ⟨_, _, rfl, hsb.lt, fun j v hj => by rw [Nat.zero_add, hsb.cell, List.getElem?_toArray]; exact hj⟩⟩ (fun i v l h1 h2 => by
      cases i with
      | zero =>
        simp at h1 h2
        subst h1; subst h2
        exact own_rdB huA
      | succ i => simp at h1) (by simp) (by omega) (fun j hj hO => by
        obtain ⟨_, b, o, e, rfl⟩ := hj
        injection e with e
        injection e with e
        have := hOlt _ hO
        omega) (fun v hv A n c e j hj hO => by
        obtain rfl : v = .slice uA (bytesB (bk7 nm7_2 3)).length uc := by simpa using hv
        injection e with e1 e2 e3
        subst e1; subst e2
        have h1 := hulo j (atB_row hu12' hj)
        have h2 := hOlt _ hO
        omega)) ?_
    rintro _ w14 ⟨rfl, ok5', O5, hF14, hM14⟩
    rw [bG1] at hF14 ok5' ⊢
    obtain ⟨kN14, hO14⟩ := step (kd11.trans kN12a) hO11 hM14
    have hq14 : heldE N0 v11 w14 := heldK (kN12a.trans (hM14.2.2.mono fun j _ hj hO => hNall (wa := w13) (wb := w14) hO11 j hO hj))
    have c1 : ∀ {wa : World}, Keeps N0 w7 wa → ∃ dv, RdB wa dv [7] ∧ readCells wa ⟨lb, lo + 34, none⟩ 0 34 = some (bkv (bk7 nm7_1 2) dv) ∧ lb < wa.heap.size := fun {wa} h => by
      obtain ⟨dv, _, h1, h2, h3⟩ := (readL h).rd.read (i := 1) (by simp)
      rw [Nat.one_mul] at h2
      exact ⟨dv, h1, h2, h3⟩
    have c0 : ∀ {wa : World}, Keeps N0 w7 wa → ∃ dv, RdB wa dv [7] ∧ readCells wa ⟨lb, lo, none⟩ 0 34 = some (bkv (bk7 nm0 1) dv) := fun {wa} h => by
      obtain ⟨dv, _, h1, h2, h3⟩ := (readL h).rd.read (i := 0) (by simp)
      rw [Nat.zero_mul, Nat.add_zero] at h2
      exact ⟨dv, h1, h2⟩
    obtain ⟨g1, gd1, gr1, _⟩ := c1 kN14
    simp [go_sem, IntWalk.iteOmega, IntWalk.toNatUp, hq14, gr1]
    refine callE_of (named_any bok1 gd1) ?_
    rintro _ w15 ⟨rfl, k15⟩
    rw [idB_eq bck1 nm7_2_eq]
    have kN15 : Keeps N0 w7 w15 := kN14.trans (Keeps.of_ext k15)
    have hF15 := hF14.keep k15
    simp [go_sem, IntWalk.iteOmega, IntWalk.toNatUp]
    refine callE_of (fat_ask (n := 2) hF15 ok5' (cub kN15) (by intro x hx; obtain rfl : x = (nm7_3, 2) := by simpa [bS] using hx
                                                               decide) (by decide) nm2_len) ?_
    rintro _ w16 ⟨rfl, O6, hF16, hM16⟩
    rw [bA3] at hF16
    have ok6' := askF_ok ok5' nm7_2
    rw [bA3] at ok6'
    obtain ⟨kN16, hO16⟩ := step kN15 hO14 hM16
    dsimp only at hF16 ok6'
    simp [go_sem, IntWalk.iteOmega, IntWalk.toNatUp]
    have kd16 : Keeps N0 w7 w16.drew := kN16.trans (Keeps.drew _ _)
    have hF16d : FAt w16.drew O6 f (bS nm0 bT [(nm7_3, bk7 nm7_2 3)] [(nm7_2, true)] [(nm7_3, 2), (nm7_2, 1)]) := hF16.keep (ext_drew w16)
    refine W_flow N0 (.pure 0 (.pure 1 (.pure 2 (.pure 3 (.pure 5 (.pure 6 (.pure 7 (.pure 9 (.pure 10 (.pure 11 (.one 4 (.one 8 (.one 12 (.one 13 (.one 14 (.one 15 (.one 16 (.pure 17 (.pure 18 (.pure 19 (.pure 20 (.pure 21 (.done))))))))))))))))))))))) follows (by kernel_rfl) ?_
    have hq16 := held_refl N0 w16.drew
    generalize w16.drew = v16 at *
    obtain ⟨i1, id1, ir1, ilb⟩ := c1 kd16
    obtain ⟨i0, id0, ir0⟩ := c0 kd16
    simp [go_sem, IntWalk.iteOmega, IntWalk.toNatUp, hq16, hNlb, ilb, ir1, ir0]
    refine callE_of (named_any bok1 id1) ?_
    rintro _ w17 ⟨rfl, k17⟩
    rw [idB_eq bck1 nm7_2_eq]
    have hq17 := hq16.below k17
    simp [go_sem, IntWalk.iteOmega, IntWalk.toNatUp, hq17]
    refine callE_of (wrote_any bok1 bck1 (id1.keep k17)) ?_
    rintro u1 w18 ⟨hu1, k18⟩
    have kk18 : Below v16.heap.size v16 w18 := k17.trans (k18.mono k17.size)
    have hq18 := hq16.below kk18
    have hlo1 := hu1.lt
    obtain ⟨-, uA1, uc1, rfl⟩ := own_sl hu1
    simp [go_sem, IntWalk.iteOmega, IntWalk.toNatUp, hq18]
    refine callE_of (wrote_any bok0 bck0 (id0.keep kk18)) ?_
    rintro u2 w19 ⟨hu2, k19⟩
    have kk19 : Below v16.heap.size v16 w19 := kk18.trans (k19.mono kk18.size)
    have hq19 := hq16.below kk19
    have hlo2 := hu2.lt
    obtain ⟨-, uA2, uc2, rfl⟩ := own_sl hu2
    simp [go_sem, IntWalk.iteOmega, IntWalk.toNatUp, hq19]
    refine callE_of (lfirst_any w19) ?_
    rintro _ w20 ⟨rfl, hdf, k20⟩
    have kk20 : Below v16.heap.size v16 w20 := kk19.trans (k20.mono kk19.size)
    have hq20 := hq16.below kk20
    simp [go_sem, IntWalk.iteOmega, IntWalk.toNatUp, hq20]
    refine callE_of (wrote_any firstB_ok firstB_check hdf) ?_
    rintro u3 w21 ⟨hu3, k21⟩
    have kk21 : Below v16.heap.size v16 w21 := kk20.trans (k21.mono kk20.size)
    have hq21 := hq16.below kk21
    have hlo3 := hu3.lt
    obtain ⟨-, uA3, uc3, rfl⟩ := own_sl hu3
    have hq21a : ∀ o, heldE N0 v16 (w21.alloc o) := fun o => hq21.alloc o
    simp [go_sem, IntWalk.iteOmega, IntWalk.toNatUp, hq21, hq21a]
    have kA21 := ext_alloc w21 (.cells #[.slice uA1 (bytesB (bk7 nm7_1 2)).length uc1, .slice uA2 (bytesB (bk7 nm0 1)).length uc2, .slice uA3 (bytesB firstB).length uc3] 22)
    have hsb2 : Blk (w21.alloc (.cells #[.slice uA1 (bytesB (bk7 nm7_1 2)).length uc1, .slice uA2 (bytesB (bk7 nm0 1)).length uc2, .slice uA3 (bytesB firstB).length uc3] 22)) w21.heap.size 22 #[.slice uA1 (bytesB (bk7 nm7_1 2)).length uc1, .slice uA2 (bytesB (bk7 nm0 1)).length uc2, .slice uA3 (bytesB firstB).length uc3] := Blk.self_ rfl
    have kk22 := kk21.trans (kA21.mono kk21.size)
    have k1821 : Below w18.heap.size w18 w21 := k19.trans ((k20.trans (k21.mono k20.size)).mono k19.size)
    have k1921 : Below w19.heap.size w19 w21 := k20.trans (k21.mono k20.size)
    have hu1' := row_below (row_below hu1 k1821) kA21
    have hu2' := row_below (row_below hu2 k1921) kA21
    have hu3' := row_below hu3 kA21
    have hF21 := hF16d.keep kk22
    have kN21 : Keeps N0 v16 (w21.alloc (.cells #[.slice uA1 (bytesB (bk7 nm7_1 2)).length uc1, .slice uA2 (bytesB (bk7 nm0 1)).length uc2, .slice uA3 (bytesB firstB).length uc3] 22)) := Keeps.of_ext kk22
    have hOl2 := hF16d.lt
    have z16 : v16.heap.size ≤ w17.heap.size := k17.size
    have z18 : v16.heap.size ≤ w18.heap.size := kk18.size
    have z20 : v16.heap.size ≤ w20.heap.size := kk20.size
    have z21 : v16.heap.size ≤ w21.heap.size := kk21.size
    generalize w21.alloc (.cells #[.slice uA1 (bytesB (bk7 nm7_1 2)).length uc1, .slice uA2 (bytesB (bk7 nm0 1)).length uc2, .slice uA3 (bytesB firstB).length uc3] 22) = w22 at *
    have far : ∀ {base n' c' : Nat} {A' : Option Addr} {us : List Value}, w22.ownsRow base 5 1 (.slice A' n' c') n' us → v16.heap.size ≤ base → ∀ j, atB n' A' j → ¬ O6 j := fun {base n' c' A' us} ho hb j hj hO => by
      have h1 := (ho.lt j (atB_row ho hj)).1
      have h2 := hOl2 j hO
      omega
    refine callE_of (fat_got (raws := [bytesB (bk7 nm7_1 2), bytesB (bk7 nm0 1), bytesB firstB]) (vals := [.slice uA1 (bytesB (bk7 nm7_1 2)).length uc1, .slice uA2 (bytesB (bk7 nm0 1)).length uc2, .slice uA3 (bytesB firstB).length uc3]) hF21 ok6' (cub (kd16.trans kN21)) nm2_len (A := some ⟨w21.heap.size, 0, none⟩) (c := 3) ⟨rfl, fun _ => ⟨_, _, rfl, hsb2.lt, fun j v hj => by rw [Nat.zero_add, hsb2.cell, List.getElem?_toArray]; exact hj⟩⟩ (fun i v l h1 h2 => by
      match i, h1, h2 with
      | 0, h1, h2 =>
        simp at h1 h2
        subst h1; subst h2
        exact own_rdB hu1'
      | 1, h1, h2 =>
        simp at h1 h2
        subst h1; subst h2
        exact own_rdB hu2'
      | 2, h1, h2 =>
        simp at h1 h2
        subst h1; subst h2
        exact own_rdB hu3'
      | i + 3, h1, h2 => simp at h1) (by simp) (by omega) (fun j hj hO => by
        obtain ⟨_, b, o, e, rfl⟩ := hj
        injection e with e
        injection e with e
        have := hOl2 _ hO
        omega) (fun v hv A n c e j hj hO => by
        simp only [List.mem_cons, List.not_mem_nil, or_false] at hv
        rcases hv with rfl | rfl | rfl
        · injection e with e1 e2 e3
          subst e1; subst e2
          exact far hu1' z16 j hj hO
        · injection e with e1 e2 e3
          subst e1; subst e2
          exact far hu2' z18 j hj hO
        · injection e with e1 e2 e3
          subst e1; subst e2
          exact far hu3' z20 j hj hO)) ?_
    rintro _ w23 ⟨rfl, ok7', O7, hF23, hM23⟩
    rw [bG2] at hF23 ok7' ⊢
    dsimp only at hF23 ok7'
    obtain ⟨kN23, hO23⟩ := step (kd16.trans kN21) hO16 hM23
    have hq23 : heldE N0 v16 w23 := heldK (kN21.trans (hM23.2.2.mono fun j _ hj hO => hNall (wa := w22) (wb := w23) hO16 j hO hj))
    simp [go_sem, IntWalk.iteOmega, IntWalk.toNatUp, hq23]
    refine callE_of (fat_chain hF23 ok7' (cub kN23)) ?_
    rintro _ w24 ⟨xv, rfl, hxv, _, k24'⟩
    rw [bC.2] at hxv ⊢
    dsimp only at hxv
    have kN24 : Keeps N0 w7 w24 := kN23.trans (Keeps.of_ext k24')
    have hF24 := hF23.keep k24'
    simp [go_sem, IntWalk.iteOmega, IntWalk.toNatUp]
    refine callE_of (fat_done hF24 ok7' (cub kN24)) ?_
    rintro _ w25 ⟨rfl, k25⟩
    have kN25 : Keeps N0 w7 w25 := kN24.trans (Keeps.of_ext k25)
    have hxv25 := (hxv.keep k25).rd
    have e1 : decide (missL (bS nm0 bT [(nm7_3, bk7 nm7_2 3), (nm7_2, bk7 nm7_1 2), (nm7_1, bk7 nm0 1)] [] [(nm7_3, 2), (nm7_2, 1)]) = []) = true := by simp [bC.1]
    obtain ⟨xA, xc, xxs, exv, _⟩ := id hxv25
    simp [go_sem, IntWalk.iteOmega, IntWalk.toNatUp, e1]
    refine callE_of (sameAll_any hxv25 (readL kN25).rd) ?_
    rintro _ w26 ⟨rfl, k26⟩
    have kN26 : Keeps N0 w7 w26 := kN25.trans (Keeps.of_ext k26)
    simp [go_sem, IntWalk.iteOmega, IntWalk.toNatUp]
    exact bel kN26
end Go.Proofs.YtdjcjjodbniebaaGreatDoor
