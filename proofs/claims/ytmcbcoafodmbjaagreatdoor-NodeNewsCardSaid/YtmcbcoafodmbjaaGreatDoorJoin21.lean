/-
  Texts joined: Goes, State, Concat, Taken.
-/
import Derived.Test.YtmcbcoafodmbjaaGreatDoorJoin20

/-
  The words behind a chunk as the document has them: 'goes'; the table that it makes; the first words.
-/
namespace Go.Proofs.YtmcbcoafodmbjaaGreatDoor
open Go.RowKit
set_option linter.unusedVariables false
set_option linter.unusedSimpArgs false
set_option maxRecDepth 10000
theorem cubeCells_size : cubeCells.size = 64 := by simp [cubeCells, cubes_length]
def cubeParts : Array (Nat × Value) := #[(0, .int .u32 1116352408), (1, .int .u32 1899447441), (2, .int .u32 3049323471), (3, .int .u32 3921009573), (4, .int .u32 961987163), (5, .int .u32 1508970993), (6, .int .u32 2453635748), (7, .int .u32 2870763221), (8, .int .u32 3624381080), (9, .int .u32 310598401), (10, .int .u32 607225278), (11, .int .u32 1426881987), (12, .int .u32 1925078388), (13, .int .u32 2162078206), (14, .int .u32 2614888103), (15, .int .u32 3248222580), (16, .int .u32 3835390401), (17, .int .u32 4022224774), (18, .int .u32 264347078), (19, .int .u32 604807628), (20, .int .u32 770255983), (21, .int .u32 1249150122), (22, .int .u32 1555081692), (23, .int .u32 1996064986), (24, .int .u32 2554220882), (25, .int .u32 2821834349), (26, .int .u32 2952996808), (27, .int .u32 3210313671), (28, .int .u32 3336571891), (29, .int .u32 3584528711), (30, .int .u32 113926993), (31, .int .u32 338241895), (32, .int .u32 666307205), (33, .int .u32 773529912), (34, .int .u32 1294757372), (35, .int .u32 1396182291), (36, .int .u32 1695183700), (37, .int .u32 1986661051), (38, .int .u32 2177026350), (39, .int .u32 2456956037), (40, .int .u32 2730485921), (41, .int .u32 2820302411), (42, .int .u32 3259730800), (43, .int .u32 3345764771), (44, .int .u32 3516065817), (45, .int .u32 3600352804), (46, .int .u32 4094571909), (47, .int .u32 275423344), (48, .int .u32 430227734), (49, .int .u32 506948616), (50, .int .u32 659060556), (51, .int .u32 883997877), (52, .int .u32 958139571), (53, .int .u32 1322822218), (54, .int .u32 1537002063), (55, .int .u32 1747873779), (56, .int .u32 1955562222), (57, .int .u32 2024104815), (58, .int .u32 2227730452), (59, .int .u32 2361852424), (60, .int .u32 2428436474), (61, .int .u32 2756734187), (62, .int .u32 3204031479), (63, .int .u32 3329325298)]
theorem cubes_built : Tryz.prog.built 468 cubeParts.toList = some cubeCells := by kernel_rfl
theorem cubes_build (w : World) (n : Nat) (r : Result Next) (h : ¬ n ≤ 12) : buildR Tryz.prog 468 #[(0, .int .u32 1116352408), (1, .int .u32 1899447441), (2, .int .u32 3049323471), (3, .int .u32 3921009573), (4, .int .u32 961987163), (5, .int .u32 1508970993), (6, .int .u32 2453635748), (7, .int .u32 2870763221), (8, .int .u32 3624381080), (9, .int .u32 310598401), (10, .int .u32 607225278), (11, .int .u32 1426881987), (12, .int .u32 1925078388), (13, .int .u32 2162078206), (14, .int .u32 2614888103), (15, .int .u32 3248222580), (16, .int .u32 3835390401), (17, .int .u32 4022224774), (18, .int .u32 264347078), (19, .int .u32 604807628), (20, .int .u32 770255983), (21, .int .u32 1249150122), (22, .int .u32 1555081692), (23, .int .u32 1996064986), (24, .int .u32 2554220882), (25, .int .u32 2821834349), (26, .int .u32 2952996808), (27, .int .u32 3210313671), (28, .int .u32 3336571891), (29, .int .u32 3584528711), (30, .int .u32 113926993), (31, .int .u32 338241895), (32, .int .u32 666307205), (33, .int .u32 773529912), (34, .int .u32 1294757372), (35, .int .u32 1396182291), (36, .int .u32 1695183700), (37, .int .u32 1986661051), (38, .int .u32 2177026350), (39, .int .u32 2456956037), (40, .int .u32 2730485921), (41, .int .u32 2820302411), (42, .int .u32 3259730800), (43, .int .u32 3345764771), (44, .int .u32 3516065817), (45, .int .u32 3600352804), (46, .int .u32 4094571909), (47, .int .u32 275423344), (48, .int .u32 430227734), (49, .int .u32 506948616), (50, .int .u32 659060556), (51, .int .u32 883997877), (52, .int .u32 958139571), (53, .int .u32 1322822218), (54, .int .u32 1537002063), (55, .int .u32 1747873779), (56, .int .u32 1955562222), (57, .int .u32 2024104815), (58, .int .u32 2227730452), (59, .int .u32 2361852424), (60, .int .u32 2428436474), (61, .int .u32 2756734187), (62, .int .u32 3204031479), (63, .int .u32 3329325298)] n w r = .ok (.value (.agg cubeCells)) w := buildR_great _ _ _ cubeParts _ _ _ h cubes_built
theorem cubes_one : allOne cubeCells.toList = true := allOne_of (by simp [cubeCells, Value.oneCell'])
set_option maxHeartbeats 800000 in
theorem constants_any (w : World) : callE Tryz.prog 290 #[] w fun v w' => v = .agg cubeCells ∧ Below w.heap.size w w' := by
  have C := canWrite_all (Blk.self_ (w := w) (t := 468) (cs := zeros64) rfl) 64 rfl
  have L := readCells_all (Blk.self_ (w := w) (t := 468) (cs := cubeCells) rfl) 64 cubeCells_size
  have hs : storeSeg (w.alloc (.cells zeros64 468)) ⟨w.heap.size, 0, none⟩ 0 cubeCells.toList = w.alloc (.cells cubeCells 468) := by
    rw [storeSeg_new rfl (by simp [cubeCells_size]; rfl)]
  refine calls_E Tryz.func290 rfl rfl rfl (Nat.le_of_ble_eq_true rfl) ?_
  simp [go_sem, IntWalk.iteOmega, IntWalk.toNatUp, zeros_fold, cubes_build, cubeCells_size, cubes_one, C, L, hs]
  exact ext_alloc _ _
theorem first_any (w : World) : callE Tryz.prog 367 #[] w fun v w' => v = .agg firstWords.vals ∧ Below w.heap.size w w' := by
  refine calls_E Tryz.func367 rfl rfl rfl (Nat.le_of_ble_eq_true rfl) ?_
  simp [go_sem, IntWalk.iteOmega, IntWalk.toNatUp]
  exact ⟨rfl, ext_alloc _ _⟩
end Go.Proofs.YtmcbcoafodmbjaaGreatDoor

/-
  The program's state: made, cloned, asked.
-/
namespace Go.Proofs.YtmcbcoafodmbjaaGreatDoor
open Go.RowKit
set_option linter.unusedVariables false
set_option linter.unusedSimpArgs false
set_option maxRecDepth 10000
def bl (l : List UInt8) : List Value := l.map fun c => .int .u8 c.toNat
theorem bl_length (l : List UInt8) : (bl l).length = l.length := by simp [bl]
theorem bl_append (l m : List UInt8) : bl (l ++ m) = bl l ++ bl m := by simp [bl]
theorem bl_one (l : List UInt8) : allOne (bl l) = true := allOne_of (by simp [bl, Value.oneCell'])
theorem clone_any (A : Option Addr) (n c : Nat) (l : List UInt8) (w : World) (h : Rd w 1 A n (bl l)) (hA : A = none → n = 0) (hm : n ≤ 70368744177664) :
    callE Tryz.prog 199 #[.slice A n c] w fun v w' => w'.ownsRow w.heap.size 5 1 v n (bl l) ∧ Below w.heap.size w w' := by
  have hq := fun w => Lib.run_eql_slice_nil (P := Tryz.prog) w 37 5 A n c 0 0 Tryz.underlying37
  refine calls_E Tryz.func199 rfl rfl rfl (Nat.le_of_ble_eq_true rfl) ?_
  rcases A with _ | a
  · obtain rfl := hA rfl
    have hl : bl l = [] := List.length_eq_zero_iff.1 (by simpa using h.len)
    simp [go_sem, IntWalk.iteOmega, IntWalk.toNatUp, hq]
    rw [hl]
    exact ⟨World.ownsRow_nil _ _ _ _, Below.refl _ _⟩
  · simp [go_sem, IntWalk.iteOmega, IntWalk.toNatUp, hq]
    refine appendE w.heap.size 5 1 1 Tryz.underlying37 el5 (World.ownsRow_made w #[] 0 (Nat.le_refl _) (by unfold maxLen; omega) rfl) (h.keep (ext_alloc _ _)) (bl_one l) (by unfold maxLen; omega) (by omega) (by simp) ?_
    intro v' w' hown hgr _
    simp only [Nat.zero_add, List.nil_append] at hown
    simp [go_sem, IntWalk.iteOmega, IntWalk.toNatUp]
    exact ⟨hown, (ext_alloc w _).grown hgr (by simp) (by intro k hk; simp [Value.ownBlock] at hk; omega)⟩
theorem none_true (b : Nat) (w : World) (h : w.cell? ⟨b, 10, none⟩ = some (.bool true)) : Runs Tryz.prog 368 #[.pointer (some ⟨b, 0, none⟩)] w (.bool false) w := by
  refine runs_of_callE (calls_E Tryz.func368 rfl rfl rfl (Nat.le_of_ble_eq_true rfl) ?_)
  simp [go_sem, IntWalk.iteOmega, IntWalk.toNatUp, h]
theorem noinit_snone : Tryz.prog.inits.idxOf? 368 = none := by kernel_rfl
theorem snew_any (w : World) : callE Tryz.prog 280 #[] w fun v w' => ∃ b, w.heap.size ≤ b ∧ v = .pointer (some ⟨b, 0, none⟩) ∧ Blk w' b 548 (firstWords.vals ++ #[.slice none 0 0, .int .i64 0, .bool true]) ∧ Below w.heap.size w w' := by
  refine calls_E Tryz.func280 rfl rfl rfl (Nat.le_of_ble_eq_true rfl) ?_
  simp [go_sem, IntWalk.iteOmega, IntWalk.toNatUp]
  refine callE_of (first_any w) ?_
  rintro v w1 ⟨rfl, hb⟩
  simp only [St8.vals]
  simp [go_sem, IntWalk.iteOmega, IntWalk.toNatUp]
  exact ⟨w1.heap.size, hb.size, rfl, by simp [go_sem, St8.vals], hb.alloc hb.size _⟩
theorem grow_nil (n : Nat) (w : World) (hn : n ≤ 70368744177664) : callE Tryz.prog 438 #[.slice none 0 0, .int .i64 n] w fun v w' => w'.ownsRow w.heap.size 5 1 v 0 [] ∧ Below w.heap.size w w' := by
  refine calls_E Tryz.func438 rfl rfl rfl (Nat.le_of_ble_eq_true rfl) ?_
  by_cases h0 : 0 < n
  · obtain ⟨i, z, hi, hz, hsz, hby, hzs, hpos⟩ := el5
    have hr := Lib.run_append_nil_zeros (P := Tryz.prog) w 37 3 37 5 i z .i64 .i64 Tryz.underlying37 Tryz.underlying3 hi hz n h0 (by omega) (by omega) (by rw [hby]; omega)
    generalize hcs : Builtin.zeroCells z.cells n ++ Builtin.zeroCells z.cells (grownCap w n 0 5 - n) = cs at hr
    have hge := grownCap_ge w n 0 5
    have hle := grownCap_le_maxLen w n 0 5 (by unfold maxLen; omega)
    generalize hcap : grownCap w n 0 5 = cap at hr hcs hge hle
    have hcsz : cs.size = cap := by rw [← hcs, Array.size_append, size_zeroCells, size_zeroCells, hzs]; omega
    have hr2 : appendR Tryz.prog 37 3 37 (.slice none 0 0) (.int .i64 n) w = .ok (.value (.slice (some ⟨w.heap.size, 0, none⟩) n cap)) (w.drew.alloc (.cells cs 5)) := by rw [appendR, hr]; rfl
    clear hr hi hz hcs hcap hzs hby hsz
    unfold maxLen at hle
    simp [go_sem, IntWalk.iteOmega, IntWalk.toNatUp, h0, hr2]
    exact ⟨World.ownsRow_made w cs cap (Nat.le_refl _) (by unfold maxLen; omega) (by omega), (ext_alloc _ _).drew⟩
  · obtain rfl : n = 0 := by omega
    simp [go_sem, IntWalk.iteOmega, IntWalk.toNatUp]
    exact ⟨World.ownsRow_nil _ _ _ _, Below.refl _ _⟩
end Go.Proofs.YtmcbcoafodmbjaaGreatDoor

/-
  slices.Concat over byte slices.
-/
namespace Go.Proofs.YtmcbcoafodmbjaaGreatDoor
open Go.RowKit
set_option linter.unusedVariables false
set_option linter.unusedSimpArgs false
set_option maxRecDepth 10000
def RdB (w : World) (v : Value) (l : List UInt8) : Prop := ∃ A c, v = .slice A l.length c ∧ Rd w 1 A l.length (bl l) ∧ (A = none → l.length = 0) ∧ l.length ≤ c ∧ c ≤ 9223372036854775807
theorem RdB.keep {w w' : World} {v : Value} {l : List UInt8} (h : RdB w v l) (hb : Below w.heap.size w w') : RdB w' v l := by
  obtain ⟨A, c, rfl, h1, h2⟩ := h
  exact ⟨A, c, rfl, h1.keep hb, h2⟩
def RdBs (w : World) (vs : List Value) (ls : List (List UInt8)) : Prop := vs.length = ls.length ∧ ∀ (i : Nat) (v : Value) (l : List UInt8), vs[i]? = some v → ls[i]? = some l → RdB w v l
theorem RdBs.keep {w w' : World} {vs : List Value} {ls : List (List UInt8)} (h : RdBs w vs ls) (hb : Below w.heap.size w w') : RdBs w' vs ls := ⟨h.1, fun i v l h1 h2 => (h.2 i v l h1 h2).keep hb⟩
def joinTo (ls : List (List UInt8)) (i : Nat) : List UInt8 := (ls.take i).flatten
theorem joinTo_succ (ls : List (List UInt8)) (i : Nat) (l : List UInt8) (h : ls[i]? = some l) : joinTo ls (i + 1) = joinTo ls i ++ l := by
  unfold joinTo
  rw [List.take_add_one, h]
  simp
theorem joinTo_le (ls : List (List UInt8)) (i : Nat) : (joinTo ls i).length ≤ ls.flatten.length := by
  unfold joinTo
  conv => rhs; rw [← List.take_append_drop i ls]
  rw [List.flatten_append, List.length_append]
  omega
theorem joinTo_all (ls : List (List UInt8)) : joinTo ls ls.length = ls.flatten := by simp [joinTo]
set_option maxHeartbeats 800000 in
theorem concat_any (A : Option Addr) (k c : Nat) (vs : List Value) (ls : List (List UInt8)) (w : World) (h : Rd w 1 A k vs) (hk : k ≤ 70368744177664) (hls : RdBs w vs ls) (hm : ls.flatten.length ≤ 70368744177664) :
    callE Tryz.prog 369 #[.slice A k c] w fun v w' => w'.ownsRow w.heap.size 5 1 v ls.flatten.length (bl ls.flatten) ∧ Below w.heap.size w w' := by
  have hkl : k = ls.length := by have := h.len; have := hls.1; omega
  have hle0 := joinTo_le ls
  have hall := joinTo_all ls
  generalize ls.flatten = F at *
  refine calls_E Tryz.func369 rfl rfl rfl (Nat.le_of_ble_eq_true rfl) ?_
  simp [go_sem, IntWalk.iteOmega, IntWalk.toNatUp]
  refine W_loop (fun s wr => ∃ i : Nat, i ≤ k ∧ s 11 = .int .i64 i ∧ s 10 = .int .i64 k ∧ s 9 = .slice A k c ∧ s 0 = .slice A k c ∧ s 3 = .int .i64 (joinTo ls i).length ∧ wr = w) (fun s _ => k - (intOf (s 11)).toNat) ?_ ?_
  · exact ⟨0, by omega, by simp [go_sem], by simp [go_sem], by simp [go_sem], by simp [go_sem], by simp [go_sem, joinTo], rfl⟩
  · rintro s wr ⟨i, hi, e11, e10, e9, e0, e3, rfl⟩
    by_cases hlt : i < k
    · obtain ⟨b, o, rfl, hb, hc⟩ := h.cells (by omega)
      have hv : i < vs.length := by have := h.len; omega
      have hl : i < ls.length := by omega
      have x0 := hc i vs[i] (List.getElem?_eq_getElem hv)
      obtain ⟨A1, c1, hv1, h1, hn1, hc1, hc2⟩ := hls.2 i vs[i] ls[i] (List.getElem?_eq_getElem hv) (List.getElem?_eq_getElem hl)
      rw [hv1] at x0
      have hj := joinTo_succ ls i ls[i] (List.getElem?_eq_getElem hl)
      have hle := hle0 (i + 1)
      have hjl : (joinTo ls (i + 1)).length = (joinTo ls i).length + (ls[i]).length := by rw [hj]; simp
      have hb1 : (joinTo ls i).length + (ls[i]).length ≤ 70368744177664 := by omega
      generalize ls[i] = li at *
      have HJ := Lib.hid hjl
      clear hj hjl hv1 hkl hle
      simp [go_sem, IntWalk.iteOmega, IntWalk.toNatUp, e11, e10, e9, e0, e3, x0]
      refine roundEnd.mk ⟨i + 1, by omega, by simp [go_sem], by simp [go_sem, e10], by simp [go_sem, e9], by simp [go_sem, e0], by simp [go_sem, HJ.out], rfl⟩ ?_
      simp [go_sem, intOf]; omega
    · obtain rfl : i = k := by omega
      have hjk : joinTo ls i = F := by rw [hkl, hall]
      rw [hjk] at e3
      simp [go_sem, IntWalk.iteOmega, IntWalk.toNatUp, e11, e10, e9, e0, e3]
      refine callE_of (grow_nil _ wr hm) ?_
      rintro v w1 ⟨hown, hB⟩
      simp [go_sem, IntWalk.iteOmega, IntWalk.toNatUp, e0]
      clear e11 e10 e9 e3 hlt hi hjk
      refine W_loop (fun s w2 => ∃ (j : Nat) (u : Value), j ≤ i ∧ s 27 = .int .i64 j ∧ s 26 = .int .i64 i ∧ s 25 = .slice A i c ∧ s 6 = u ∧ w2.ownsRow wr.heap.size 5 1 u (joinTo ls j).length (bl (joinTo ls j)) ∧ Below wr.heap.size wr w2) (fun s _ => i - (intOf (s 27)).toNat) ?_ ?_
      · exact ⟨0, v, by omega, by simp [go_sem], by simp [go_sem], by simp [go_sem, e0], by simp [go_sem], by simpa [joinTo, bl] using hown, hB⟩
      · clear hown hB e0
        rintro s w2 ⟨j, u, hj, e27, e26, e25, e6, hown, hB⟩
        by_cases hlt : j < i
        · obtain ⟨b, o, rfl, hb, hc⟩ := (h.keep hB).cells (by omega)
          have hv : j < vs.length := by have := h.len; omega
          have hl : j < ls.length := by omega
          have x0 := hc j vs[j] (List.getElem?_eq_getElem hv)
          obtain ⟨A1, c1, hv1, h1, hn1, hc1, hc2⟩ := (hls.keep hB).2 j vs[j] ls[j] (List.getElem?_eq_getElem hv) (List.getElem?_eq_getElem hl)
          rw [hv1] at x0
          have hjs := joinTo_succ ls j ls[j] (List.getElem?_eq_getElem hl)
          have hle := hle0 (j + 1)
          have hjl : (joinTo ls (j + 1)).length = (joinTo ls j).length + (ls[j]).length := by rw [hjs]; simp
          have hb1 : (joinTo ls j).length + (ls[j]).length ≤ 70368744177664 := by omega
          generalize ls[j] = lj at *
          have HJ := Lib.hid hjl
          have HS := Lib.hid hjs
          clear hjs hjl hv1 hkl hle
          simp [go_sem, IntWalk.iteOmega, IntWalk.toNatUp, e27, e26, e25, e6, x0]
          refine appendE wr.heap.size 5 1 1 Tryz.underlying37 el5 hown h1 (bl_one lj) (by unfold maxLen; omega) (by omega) hB.size ?_
          intro v' w3 hown' hgr _
          simp [go_sem, IntWalk.iteOmega, IntWalk.toNatUp, e27]
          refine roundEnd.mk ⟨j + 1, v', by omega, by simp [go_sem], by simp [go_sem, e26], by simp [go_sem, e25], by simp [go_sem], ?_, ?_⟩ ?_
          · rw [HS.out, bl_append, List.length_append]; exact hown'
          · exact hB.grown hgr hB.size (fun k hk => (hown.lt k hk).1)
          · simp [go_sem, intOf]; omega
        · obtain rfl : j = i := by omega
          have hjk : joinTo ls j = F := by rw [hkl, hall]
          rw [hjk] at hown
          simp [go_sem, IntWalk.iteOmega, IntWalk.toNatUp, e27, e26, e25, e6]
          exact ⟨hown, hB⟩
end Go.Proofs.YtmcbcoafodmbjaaGreatDoor

/-
  The program's state takes bytes in: 'Write', against the plain words behind the chunks.
-/
namespace Go.Proofs.YtmcbcoafodmbjaaGreatDoor
open Go.RowKit
set_option linter.unusedVariables false
set_option linter.unusedSimpArgs false
set_option maxRecDepth 10000
/-! Worlds in which one block alone may change. -/
theorem else_refl (w : World) (b : Nat) : w.grownBy w (some b) := World.grownBy.refl w _
theorem else_below {w w' : World} (h : Below w.heap.size w w') (b : Nat) : w.grownBy w' (some b) := ⟨h.os, h.tape, h.output, h.size, fun k hk _ => h.block k hk⟩
theorem else_set (w : World) (b o : Nat) (v : Value) : w.grownBy (w.setCell ⟨b, o, none⟩ v) (some b) :=
  ⟨rfl, rfl, rfl, by rw [sz_set]; omega, fun k hk hne => by rw [hp_set, if_neg (fun e => hne (by rw [e]))]⟩
theorem else_row (w : World) (b : Nat) (cs : Array Value) : w.grownBy (w.setRow b cs) (some b) :=
  ⟨setRow_os w b cs, setRow_tape w b cs, setRow_output w b cs, by rw [setRow_size]; omega, fun k hk hne => setRow_other w b k cs (fun e => hne (by rw [e]))⟩
theorem below_else {w w' : World} {b B : Nat} (h : w.grownBy w' (some b)) (hb : B ≤ b) (hB : B ≤ w.heap.size) : Below B w w' :=
  ⟨h.os, h.tape, h.output, h.size, fun k hk => h.block k (by omega) (fun e => by injection e; omega)⟩
def Off (b : Nat) (w : World) (p : World → Prop) : Prop := ∀ w', w.grownBy w' (some b) → p w'
theorem Off.now {b : Nat} {w : World} {p : World → Prop} (h : Off b w p) : p w := h w (else_refl w b)
theorem Off.keep {b : Nat} {w w' : World} {p : World → Prop} (h : Off b w p) (k : w.grownBy w' (some b)) : Off b w' p := fun w2 h2 => h w2 (k.trans h2)
theorem own_off {b e size n : Nat} {w : World} {v : Value} {xs : List Value} (h : w.ownsRow (b + 1) e size v n xs) : Off b w fun w' => w'.ownsRow (b + 1) e size v n xs := by
  intro w' hw
  refine ⟨h.1, h.2.imp id fun ⟨g, cap, cur, h1, h2, h3, h4⟩ => ⟨g, cap, cur, h1, h2, ?_, h4⟩⟩
  rw [hw.block g (by rcases Nat.lt_or_ge g w.heap.size with h | h; exact h; rw [Array.getElem?_eq_none h] at h3; cases h3) (fun e => by injection e; omega)]
  exact h3
theorem own_mono {w : World} {base base' e size n : Nat} {v : Value} {xs : List Value} (h : w.ownsRow base e size v n xs) (hb : base' ≤ base) : w.ownsRow base' e size v n xs :=
  ⟨h.1, h.2.imp id fun ⟨g, cap, cur, h1, h2, h3⟩ => ⟨g, cap, cur, h1, Nat.le_trans hb h2, h3⟩⟩
theorem readCells_pre {w : World} {g : Nat} {t : TypeId} {cs : Array Value} (h : Blk w g t cs) (l r : List Value) (hc : cs = (l ++ r).toArray) : readCells w ⟨g, 0, none⟩ 0 l.length = some l :=
  readCells_blk h l.length 0 0 l rfl fun j v hj => by
    have hlt : j < l.length := (List.getElem?_eq_some_iff.1 hj).1
    rw [hc, List.getElem?_toArray, show 0 + 0 + j = j by omega, List.getElem?_append_left hlt]; exact hj
theorem storeSeg_pre {w : World} {g : Nat} {t : TypeId} {cs : Array Value} (h : Blk w g t cs) (old l r : List Value) (hc : cs = (old ++ r).toArray) (hl : old.length = l.length) : storeSeg w ⟨g, 0, none⟩ 0 l = w.setRow g (l ++ r).toArray := by
  rw [storeSeg_blk l 0 w cs h (by rw [hc]; simp; omega), hc]
  simp [hl]
theorem Rd.drop {w : World} {b o n : Nat} {xs : List Value} (h : Rd w 1 (some ⟨b, o, none⟩) n xs) (k : Nat) (hk : k ≤ n) : Rd w 1 (some ⟨b, o + k, none⟩) (n - k) (xs.drop k) := by
  refine ⟨by rw [List.length_drop, h.len]; omega, fun hn => ?_⟩
  obtain ⟨b', o', e, hlt, hc⟩ := h.cells (by omega)
  obtain ⟨rfl, rfl⟩ : b = b' ∧ o = o' := by simpa using e
  exact ⟨b, o + k, rfl, hlt, fun j u hu => by rw [Nat.add_assoc]; exact hc (k + j) u (by rw [← List.getElem?_drop]; exact hu)⟩
theorem own_rdB {w : World} {base : Nat} {v : Value} {l : List UInt8} (h : w.ownsRow base 5 1 v l.length (bl l)) : RdB w v l := by
  rcases h.2 with ⟨rfl, h0⟩ | ⟨g, cap, cur, rfl, hb, hg, h1, h2, h3, h4⟩
  · exact ⟨none, 0, by rw [h0], by have := Rd.of_own (h0 ▸ h); rw [h0]; exact this, fun _ => h0, by omega, by omega⟩
  · exact ⟨some ⟨g, 0, none⟩, cap, rfl, Rd.of_own h, (fun e => nomatch e), h1, by unfold maxLen at h2; omega⟩
/-! The plain words. -/
theorem bl_at (l : List UInt8) (i : Nat) (h : i < l.length) : (bl l)[i]? = some (.int .u8 (byteAt l i)) := by
  simp [bl, byteAt, List.getD, List.getElem?_eq_getElem h]
theorem byteAt_take (l : List UInt8) (n i : Nat) (h : i < n) : byteAt (l.take n) i = byteAt l i := by
  simp [byteAt, List.getD, List.getElem?_take, h]
theorem mixes_append (s : St8) (l x : List UInt8) (n : Nat) (h : 64 * n ≤ l.length) : mixes s (l ++ x) n = mixes s l n := by
  induction n with
  | zero => rfl
  | succ n ih =>
    show mix (mixes s (l ++ x) n) _ = mix (mixes s l n) _
    rw [ih (by omega), List.drop_append_of_le_length (by omega), List.take_append_of_le_length (by rw [List.length_drop]; omega)]
def restOf (l : List UInt8) : List UInt8 := l.drop (64 * (l.length / 64))
def wordsOf (l : List UInt8) : St8 := mixes firstWords l (l.length / 64)
theorem restOf_length (l : List UInt8) : (restOf l).length = l.length % 64 := by unfold restOf; rw [List.length_drop]; omega
structure StateAt (w : World) (b : Nat) (l : List UInt8) : Prop where
  pos : b ≠ 2
  len : l.length ≤ 70368744177664
  ex : ∃ rv, Blk w b 548 ((wordsOf l).vals ++ #[rv, .int .i64 l.length, .bool true]) ∧ w.ownsRow (b + 1) 5 1 rv (restOf l).length (bl (restOf l))
theorem Blk.off {w w' : World} {g b : Nat} {t : TypeId} {cs : Array Value} (h : Blk w g t cs) (hw : w.grownBy w' (some b)) (hne : g ≠ b) : Blk w' g t cs := (hw.block g h.lt (fun e => hne (Option.some.inj e))).trans h
theorem Blk.as_ {w : World} {g : Nat} {t : TypeId} {cs cs' : Array Value} (h : Blk w g t cs) (e : cs = cs') : Blk w g t cs' := e ▸ h
theorem StateAt.keep {w w' : World} {b : Nat} {l : List UInt8} (h : StateAt w b l) (hb : Below w.heap.size w w') : StateAt w' b l := by
  obtain ⟨h1, h2, rv, h3, h4⟩ := h
  exact ⟨h1, h2, rv, h3.keep hb, own_off h4 w' (else_below hb b)⟩
theorem StateAt.none_ {w : World} {b : Nat} {l : List UInt8} (h : StateAt w b l) : Runs Tryz.prog 368 #[.pointer (some ⟨b, 0, none⟩)] w (.bool false) w := by
  obtain ⟨_, _, rv, h3, _⟩ := h
  exact none_true b w (by rw [h3.cell]; simp [St8.vals])
def StateIn (w : World) (B b : Nat) (l : List UInt8) : Prop := ∃ rv, Blk w b 548 ((wordsOf l).vals ++ #[rv, .int .i64 l.length, .bool true]) ∧ w.ownsRow B 5 1 rv (restOf l).length (bl (restOf l))
theorem own_off2 {b B e size n : Nat} {w w' : World} {v : Value} {xs : List Value} (h : w.ownsRow B e size v n xs) (hb : b < B) (hw : w.grownBy w' (some b)) : w'.ownsRow B e size v n xs := by
  refine ⟨h.1, h.2.imp id fun ⟨g, cap, cur, h1, h2, h3, h4⟩ => ⟨g, cap, cur, h1, h2, ?_, h4⟩⟩
  rw [hw.block g (by rcases Nat.lt_or_ge g w.heap.size with h | h; exact h; rw [Array.getElem?_eq_none h] at h3; cases h3) (fun e => by injection e; omega)]
  exact h3
def sliceLen : Value → Nat
  | .slice _ n _ => n
  | _ => 0
set_option maxHeartbeats 1600000 in
theorem write_any (b k c : Nat) (A : Option Addr) (l : List UInt8) (ls : List (List UInt8)) (vs : List Value) (w : World) (hs : StateAt w b l) (hC : Cubes w)
    (hR : Off b w fun w' => Rd w' 1 A k vs ∧ RdBs w' vs ls) (hk : k ≤ 70368744177664) (hm : (l ++ ls.flatten).length ≤ 70368744177664) :
    callE Tryz.prog 281 #[.pointer (some ⟨b, 0, none⟩), .slice A k c] w fun v w' => v = .int .i64 0 ∧ StateAt w' b (l ++ ls.flatten) ∧ w.grownBy w' (some b) ∧ (0 < k → StateIn w' w.heap.size b (l ++ ls.flatten)) := by
  have hbw : b < w.heap.size := by obtain ⟨_, _, rv, h3, _⟩ := hs; exact h3.lt
  have hn := callE_eq noinit_snone hs.none_
  have hkl : k = ls.length := by have := hR.now.1.len; have := hR.now.2.1; omega
  refine calls_E Tryz.func281 rfl rfl rfl (Nat.le_of_ble_eq_true rfl) ?_
  simp [go_sem, IntWalk.iteOmega, IntWalk.toNatUp, hn]
  refine W_loop (fun s wr => ∃ i : Nat, i ≤ k ∧ s 12 = .int .i64 i ∧ s 11 = .int .i64 k ∧ s 10 = .slice A k c ∧ s 0 = .pointer (some ⟨b, 0, none⟩) ∧ StateAt wr b (l ++ joinTo ls i) ∧ w.grownBy wr (some b) ∧ (0 < i → StateIn wr w.heap.size b (l ++ joinTo ls i))) (fun s _ => k - (intOf (s 12)).toNat) ?_ ?_
  · exact ⟨0, by omega, by simp [go_sem], by simp [go_sem], by simp [go_sem], by simp [go_sem], by simpa [joinTo] using hs, else_refl w b, fun h => by omega⟩
  · clear hs hn
    rintro s wr ⟨i, hi, e12, e11, e10, e0, hs, hg, hin⟩
    by_cases hlt : i < k
    · clear hin
      obtain ⟨hRd, hRB⟩ := hR wr hg
      obtain ⟨b1, o, rfl, hb1, hc⟩ := hRd.cells (by omega)
      have hv : i < vs.length := by have := hRd.len; omega
      have hl : i < ls.length := by omega
      have x0 := hc i vs[i] (List.getElem?_eq_getElem hv)
      have hsub : (ls[i]).length ≤ ls.flatten.length - (joinTo ls i).length := by
        have h1 := joinTo_le ls (i + 1)
        rw [joinTo_succ ls i ls[i] (List.getElem?_eq_getElem hl), List.length_append] at h1
        omega
      obtain ⟨A1, c1, hv1, h1, hn1, hc1, hc2⟩ := hRB.2 i vs[i] ls[i] (List.getElem?_eq_getElem hv) (List.getElem?_eq_getElem hl)
      have hoff : Off b wr fun w' => Rd w' 1 A1 (ls[i]).length (bl ls[i]) := fun w' hw' => by
        obtain ⟨A1', c1', hv1', h1', _⟩ := (hR w' (hg.trans hw')).2.2 i vs[i] ls[i] (List.getElem?_eq_getElem hv) (List.getElem?_eq_getElem hl)
        rw [hv1] at hv1'
        injection hv1' with e1 e2 e3
        rw [e1]; exact h1'
      rw [hv1] at x0
      have hjl := joinTo_succ ls i ls[i] (List.getElem?_eq_getElem hl)
      have hjf := joinTo_le ls i
      generalize hx : ls[i] = x at *
      have hLx : l ++ joinTo ls (i + 1) = l ++ joinTo ls i ++ x := by rw [hjl, List.append_assoc]
      have hLlen : (l ++ joinTo ls i).length + x.length ≤ 70368744177664 := by simp only [List.length_append] at hm ⊢; omega
      have HL := Lib.hid hLx
      clear hLx hjl hsub hjf hx hv1 hv hl hm hc
      generalize l ++ joinTo ls i = L at *
      obtain ⟨hpos, hlen, rv, hB, hO⟩ := hs
      have hO' := own_off hO
      have hwr := hB.lt
      obtain ⟨Ar, cr, rfl, hr1, hr2, hr3, hr4⟩ := own_rdB hO
      generalize hw0 : wordsOf L = W0 at hB
      have hB0 := hB
      obtain ⟨h0, h1', h2, h3, h4, h5, h6, h7⟩ := W0
      simp only [St8.vals] at hB
      have y8 : wr.cell? ⟨b, 8, none⟩ = some (.slice Ar (restOf L).length cr) := by rw [hB.cell]; rfl
      have y9 : wr.cell? ⟨b, 9, none⟩ = some (.int .i64 L.length) := by rw [hB.cell]; rfl
      simp [go_sem, IntWalk.iteOmega, IntWalk.toNatUp, e12, e11, e10, e0, x0, y8, y9, hB.frozen]
      refine callE_at fun W hW => ?_
      have hg1 : wr.grownBy W (some b) := by rw [hW]; exact (else_set _ b 9 _).trans (else_below (ext_alloc _ _) b)
      have hB1 : Blk W b 548 (#[uv h0, uv h1', uv h2, uv h3, uv h4, uv h5, uv h6, uv h7, .slice Ar (restOf L).length cr, .int .i64 (L.length + x.length), .bool true]) := by
        rw [hW]
        refine ((Blk_set hB).more _).as_ ?_
        simp
      have hN : Blk W wr.heap.size 37 #[.slice Ar (restOf L).length cr, .slice A1 x.length c1] := by rw [hW]; exact Blk.self_ (by rw [sz_set])
      clear hW
      have hrl := restOf_length L
      refine callE_of (concat_any _ 2 2 [.slice Ar (restOf L).length cr, .slice A1 x.length c1] [restOf L, x] W ⟨rfl, fun _ => ⟨_, 0, rfl, hN.lt, fun j u hu => by rw [hN.cell]; simpa using hu⟩⟩ (by omega) ⟨rfl, ?_⟩ (by simp; omega)) ?_
      · intro j v l hv hl
        match j, hv, hl with
        | 0, hv, hl => injection hv with hv; injection hl with hl; subst hv hl; exact own_rdB (hO' W hg1)
        | 1, hv, hl => injection hv with hv; injection hl with hl; subst hv hl; exact ⟨A1, c1, rfl, hoff W hg1, hn1, hc1, hc2⟩
        | n + 2, hv, hl => simp at hv
      rintro v w2 ⟨hown, hB2⟩
      have hall : [restOf L, x].flatten = (L ++ x).drop (64 * (L.length / 64)) := by
        rw [List.drop_append_of_le_length (by omega)]; simp [restOf]
      rw [hall] at hown
      have hmix : (mixes firstWords (L ++ x) (L.length / 64)) = ⟨h0, h1', h2, h3, h4, h5, h6, h7⟩ := by rw [mixes_append _ _ _ _ (by omega)]; exact hw0
      have hown' := own_off (b := b) (own_mono hown (by have := hB1.lt; omega))
      obtain ⟨A2, c2, rfl, hr21, hr22, hr23, hr24⟩ := own_rdB hown
      have hg2 := hg1.trans (else_below hB2 b)
      have hB3 := hB1.keep hB2
      have hDl : (L ++ x).length = L.length + x.length := by simp
      rw [show ((L ++ x).drop (64 * (L.length / 64))).length = L.length + x.length - 64 * (L.length / 64) by rw [List.length_drop, hDl]] at *
      simp [go_sem, IntWalk.iteOmega, IntWalk.toNatUp]
      refine W_loop (fun s w3 => ∃ (q : Nat) (A2 : Option Addr) (c2 : Nat), 64 * q ≤ L.length + x.length ∧ s 0 = .pointer (some ⟨b, 0, none⟩) ∧ s 10 = .slice (some ⟨b1, o, none⟩) k c ∧ s 11 = .int .i64 k ∧ s 12 = .int .i64 i ∧
        s 7 = .slice A2 (L.length + x.length - 64 * q) c2 ∧ (A2 = none → L.length + x.length - 64 * q = 0) ∧ L.length + x.length - 64 * q ≤ c2 ∧ c2 ≤ 9223372036854775807 ∧
        Off b w3 (fun w' => Rd w' 1 A2 (L.length + x.length - 64 * q) (bl ((L ++ x).drop (64 * q)))) ∧
        Blk w3 b 548 ((mixes firstWords (L ++ x) q).vals ++ #[.slice Ar (restOf L).length cr, .int .i64 (L.length + x.length), .bool true]) ∧ wr.grownBy w3 (some b)) (fun s _ => sliceLen (s 7)) ?_ ?_
      · refine ⟨L.length / 64, A2, c2, by omega, by simp [go_sem, e0], by simp [go_sem, e10], by simp [go_sem, e11], by simp [go_sem, e12], by simp [go_sem], hr22, hr23, hr24, ?_, ?_, hg2⟩
        · exact fun w' hw' => Rd.of_own (hown' w' hw')
        · rw [hmix]; exact hB3
      · clear hown hown' hg2 hg1 hB1 hN hB2 hB3 hmix y8 y9 hr1 hr2 hr3 hr4 hB hB0 hO hO' hr21 hr22 hr23 hr24 hall e0 e10 e11 e12 hw0 hoff x0 h1 hRd hRB
        rintro s w3 ⟨q, A2, c2, hq, e0, e10, e11, e12, e7, hA2, hle, hmax, hRo, hB, hg3⟩
        obtain ⟨m, hm⟩ : ∃ m, m = L.length + x.length - 64 * q := ⟨_, rfl⟩
        have hm' : L.length + x.length = 64 * q + m := by omega
        rw [← hm] at e7 hA2 hle hRo
        clear hm
        by_cases hge : 64 ≤ m
        · obtain ⟨g, o', rfl, hglt, hgc⟩ := hRo.now.cells (by omega)
          generalize hV : mixes firstWords (L ++ x) q = V at *
          have hVn : mixes firstWords (L ++ x) (q + 1) = mix V (((L ++ x).drop (64 * q)).take 64) := by rw [← hV]; rfl
          obtain ⟨v0, v1, v2, v3, v4, v5, v6, v7⟩ := V
          simp only [St8.vals] at hB
          have x1 : readCells w3.drew ⟨b, 0, none⟩ 0 8 = some _ := readCells_pre hB [uv v0, uv v1, uv v2, uv v3, uv v4, uv v5, uv v6, uv v7] _ rfl
          have hge' : (64 : Int) ≤ m := by omega
          simp [go_sem, IntWalk.iteOmega, IntWalk.toNatUp, e7, e0, hge']
          refine W_plan [(0,true),(1,true),(2,true),(3,true),(5,true),(6,true),(4,false),(7,false),(8,true),(9,true),(10,false)] follows (by kernel_rfl) ?_
          simp [go_sem, IntWalk.iteOmega, IntWalk.toNatUp, e7, e0, hge', x1]
          refine callE_of (mixed_any ⟨v0, v1, v2, v3, v4, v5, v6, v7⟩ g o' 64 c2 (((L ++ x).drop (64 * q)).take 64) w3.drew (by omega) hglt (by omega) ?_ ?_) ?_
          · intro j hj
            rw [byteAt_take _ _ _ hj]
            exact hgc j _ (bl_at _ _ (by rw [List.length_drop]; omega))
          · exact (hC.grown (hg.trans hg3) hpos).keep (ext_drew w3)
          rintro v w4 ⟨rfl, hB4⟩
          generalize mix ⟨v0, v1, v2, v3, v4, v5, v6, v7⟩ (((L ++ x).drop (64 * q)).take 64) = U at *
          replace hB4 := ext_trans (ext_drew w3) hB4
          replace hB := hB.keep hB4
          have x2 := canWrite_blk hB 8 0 0 (by simp)
          obtain ⟨u0, u1, u2, u3, u4, u5, u6, u7⟩ := U
          simp only [St8.vals]
          simp [go_sem, IntWalk.iteOmega, IntWalk.toNatUp, e7, e0, hge', x2]
          have hst := storeSeg_pre hB [uv v0, uv v1, uv v2, uv v3, uv v4, uv v5, uv v6, uv v7] [uv u0, uv u1, uv u2, uv u3, uv u4, uv u5, uv u6, uv u7] [.slice Ar (restOf L).length cr, .int .i64 (L.length + x.length), .bool true] rfl rfl
          rw [hst]
          have hg4 := (else_below hB4 b).trans (else_row w4 b ([uv u0, uv u1, uv u2, uv u3, uv u4, uv u5, uv u6, uv u7] ++ [Value.slice Ar (restOf L).length cr, Value.int .i64 (L.length + x.length), Value.bool true]).toArray)
          refine roundEnd.mk ⟨q + 1, (if c2 = 64 then some ⟨g, o', none⟩ else some ⟨g, o' + 64, none⟩), c2 - 64, by omega, by simp [go_sem, e0], by simp [go_sem, e10], by simp [go_sem, e11], by simp [go_sem, e12], ?_, ?_, by omega, by omega, ?_, ?_, hg3.trans hg4⟩ ?_
          · simp [go_sem]; omega
          · intro h; split at h <;> cases h
          · have hRo4 := hRo.keep hg4
            intro w' hw'
            have h4 := hRo4 w' hw'
            split
            · rename_i hc
              have hz : L.length + x.length - 64 * (q + 1) = 0 := by omega
              rw [hz]
              exact ⟨by rw [bl_length, List.length_drop, hDl]; omega, fun h => by omega⟩
            · have h5 := h4.drop 64 hge
              rw [show L.length + x.length - 64 * (q + 1) = m - 64 by omega, show 64 * (q + 1) = 64 * q + 64 by omega, ← List.drop_drop]
              rwa [show bl (((L ++ x).drop (64 * q)).drop 64) = (bl ((L ++ x).drop (64 * q))).drop 64 by simp [bl]]
          · rw [hVn]
            exact (Blk_setRow hB).as_ (by simp [St8.vals])
          · simp [go_sem, sliceLen]; omega
        · have hlt' : ¬ (64 : Int) ≤ m := by omega
          have y8 : ∀ W : World, Blk W b 548 ((mixes firstWords (L ++ x) q).vals ++ #[.slice Ar (restOf L).length cr, .int .i64 (L.length + x.length), .bool true]) → canWrite W ⟨b, 8, none⟩ 0 1 = true := fun W h => canWrite_blk h 1 8 0 (by simp [St8.vals])
          simp [go_sem, IntWalk.iteOmega, IntWalk.toNatUp, e7, e0, hlt']
          refine callE_of (clone_any A2 m c2 _ w3 hRo.now hA2 (by omega)) ?_
          rintro v w4 ⟨hown, hB4⟩
          replace hB := hB.keep hB4
          have hq' : q = (L ++ x).length / 64 := by omega
          have hrest : (L ++ x).drop (64 * q) = restOf (L ++ x) := by rw [hq']; rfl
          have hrm : m = (restOf (L ++ x)).length := by rw [← hrest, List.length_drop]; omega
          rw [hrest, hrm] at hown
          obtain ⟨A5, c5, rfl, _, _, _, _⟩ := own_rdB hown
          have hown2 := own_mono (base' := b + 1) hown (by have := hg3.size; have := hwr; omega)
          have y8 : w4.cell? ⟨b, 8, none⟩ = some (.slice Ar (restOf L).length cr) := by rw [hB.cell]; simp [St8.vals]
          simp [go_sem, IntWalk.iteOmega, IntWalk.toNatUp, e7, e0, e12, hB.frozen, y8]
          have hg5 := (else_below hB4 b).trans (else_set w4 b 8 (Value.slice A5 (restOf (L ++ x)).length c5))
          refine roundEnd.mk ⟨i + 1, by omega, by simp [go_sem], by simp [go_sem, e11], by simp [go_sem, e10], by simp [go_sem, e0], ?_, hg.trans (hg3.trans hg5), fun _ => ?_⟩ ?_
          · rw [HL.out]
            refine ⟨hpos, by omega, Value.slice A5 (restOf (L ++ x)).length c5, (Blk_set hB).as_ ?_, own_off hown2 _ (else_set w4 b 8 _)⟩
            simp [St8.vals, wordsOf, hq']
          · rw [HL.out]
            refine ⟨Value.slice A5 (restOf (L ++ x)).length c5, (Blk_set hB).as_ ?_, own_off2 (own_mono (base' := w.heap.size) hown (Nat.le_trans hg.size hg3.size)) hbw (else_set w4 b 8 _)⟩
            simp [St8.vals, wordsOf, hq']
          · simp [go_sem, intOf]; omega
    · obtain rfl : i = k := by omega
      rw [hkl, joinTo_all] at hs hin
      simp [go_sem, IntWalk.iteOmega, IntWalk.toNatUp, e12, e11, e10, e0]
      exact ⟨hs, hg, fun h => hin (by rw [← hkl]; exact h)⟩
end Go.Proofs.YtmcbcoafodmbjaaGreatDoor
