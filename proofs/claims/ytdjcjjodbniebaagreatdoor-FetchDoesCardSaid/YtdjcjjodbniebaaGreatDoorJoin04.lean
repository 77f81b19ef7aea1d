/-
  Texts joined: Mixed, Goes, State, Concat.
-/
import Derived.Test.YtdjcjjodbniebaaGreatDoorJoin03
namespace Go.Proofs.YtdjcjjodbniebaaGreatDoor
open Go.RowKit
set_option linter.unusedVariables false
set_option linter.unusedSimpArgs false
set_option maxRecDepth 10000
def cubeCells : Array Value := (cubes.map uv).toArray
theorem cubes_length : cubes.length = 64 := by decide
def St8.list (s : St8) : List UInt32 := [s.a, s.b, s.c, s.d, s.e, s.f, s.g, s.h]
def addTo (h v : St8) (i : Nat) : List UInt32 := (List.zipWith (· + ·) h.list v.list).take i ++ h.list.drop i
theorem addTo_end (h v : St8) : ((addTo h v 8).map uv).toArray = (h.sum v).vals := rfl
theorem addTo_at (h v : St8) (i : Nat) (hi : i < 8) : ((addTo h v i).map uv).toArray[i]? = some (uv (h.list.getD i 0)) := by
  rcases (show i = 0 ∨ i = 1 ∨ i = 2 ∨ i = 3 ∨ i = 4 ∨ i = 5 ∨ i = 6 ∨ i = 7 by omega) with rfl | rfl | rfl | rfl | rfl | rfl | rfl | rfl <;> rfl
theorem addTo_set (h v : St8) (i : Nat) (hi : i < 8) : ((addTo h v i).map uv).toArray.setIfInBounds i (uv (h.list.getD i 0 + v.list.getD i 0)) = ((addTo h v (i + 1)).map uv).toArray := by
  rcases (show i = 0 ∨ i = 1 ∨ i = 2 ∨ i = 3 ∨ i = 4 ∨ i = 5 ∨ i = 6 ∨ i = 7 by omega) with rfl | rfl | rfl | rfl | rfl | rfl | rfl | rfl <;> rfl
theorem vals_at (v : St8) (i : Nat) (hi : i < 8) : v.vals[i]? = some (uv (v.list.getD i 0)) := by
  rcases (show i = 0 ∨ i = 1 ∨ i = 2 ∨ i = 3 ∨ i = 4 ∨ i = 5 ∨ i = 6 ∨ i = 7 by omega) with rfl | rfl | rfl | rfl | rfl | rfl | rfl | rfl <;> rfl
def Cubes (w : World) : Prop := ∀ t, t < 64 → w.cell? ⟨0, t, none⟩ = some (uv (cubes.getD t 0))
theorem Cubes.pos {w : World} (h : Cubes w) : 0 < w.heap.size := World.block_lt_of_cell? w _ (h 0 (by omega))
theorem Cubes.keep {w w' : World} (h : Cubes w) (hb : Below w.heap.size w w') : Cubes w' := fun t ht => (hb.cell (p := ⟨0, t, none⟩) h.pos).trans (h t ht)
theorem Cubes.grown {w w' : World} {b : Nat} (h : Cubes w) (hb : w.grownBy w' (some b)) (hne : b ≠ 0) : Cubes w' := fun t ht => hb.cell (h t ht) (fun e => hne (Option.some.inj e).symm)
set_option maxHeartbeats 800000 in
theorem mixed_any (h : St8) (bb bo len cap : Nat) (b : List UInt8) (w : World) (hlen : 64 ≤ len) (hb : bb < w.heap.size) (hmax : len ≤ 9223372036854775807)
    (hc : ∀ i, i < 64 → w.cell? ⟨bb, bo + i, none⟩ = some (.int .u8 (byteAt b i))) (hk : Cubes w) :
    callE Tryz.prog 133 #[.agg h.vals, .slice (some ⟨bb, bo, none⟩) len cap] w fun v w' => v = .agg (mix h b).vals ∧ Below w.heap.size w w' := by
  obtain ⟨h0, h1, h2, h3, h4, h5, h6, h7⟩ := h
  refine calls_E Tryz.func133 rfl rfl rfl (Nat.le_of_ble_eq_true rfl) ?_
  simp [go_sem, IntWalk.iteOmega, IntWalk.toNatUp, St8.vals]
  refine callE_at fun W hW => ?_
  obtain ⟨b0, b1, b2, hB, hS⟩ := news3 hW
  clear hW
  refine callE_of (schedule_any bb bo len cap b W hlen (by omega) hmax (fun i hi => (hB.cell (p := ⟨bb, bo + i, none⟩) hb).trans (hc i hi))) ?_
  rintro v w1 ⟨rfl, hb1⟩
  replace b0 := b0.keep hb1
  replace b1 := b1.keep hb1
  replace b2 := b2.keep hb1
  replace hB := ext_trans hB hb1
  clear hb1 hS
  simp [go_sem, IntWalk.iteOmega, IntWalk.toNatUp]
  refine W_loop (fun s wr => ∃ t : Nat, t ≤ 64 ∧ s 18 = .int .i64 t ∧ s 2 = .pointer (some ⟨w.heap.size, 0, none⟩) ∧ s 4 = .pointer (some ⟨w.heap.size + 1, 0, none⟩) ∧ s 5 = .pointer (some ⟨w.heap.size + 1 + 1, 0, none⟩) ∧ s 17 = .agg ((sched b).map uv).toArray ∧
    Blk wr (w.heap.size + 1 + 1) 180 (St8.rounds ⟨h0, h1, h2, h3, h4, h5, h6, h7⟩ (sched b) t).vals ∧ Blk wr w.heap.size 180 #[uv h0, uv h1, uv h2, uv h3, uv h4, uv h5, uv h6, uv h7] ∧
    Blk wr (w.heap.size + 1) 180 #[.int .u32 0, .int .u32 0, .int .u32 0, .int .u32 0, .int .u32 0, .int .u32 0, .int .u32 0, .int .u32 0] ∧ Below w.heap.size w wr) (fun s _ => 64 - (intOf (s 18)).toNat) ?_ ?_
  · exact ⟨0, by omega, by simp [go_sem], by simp [go_sem], by simp [go_sem], by simp [go_sem], by simp [go_sem], b2, b0, b1, hB⟩
  · clear b0 b1 b2 hB
    rintro s wr ⟨t, ht, e18, e2, e4, e5, e17, b2, b0, b1, hB⟩
    have hk' := hk.keep hB
    by_cases hlt : t < 64
    · have hlt' : (t : Int) < 64 := by omega
      have hl := sched_length b
      have x1 : (sched b)[t]? = some ((sched b).getD t 0) := by simp [List.getD, List.getElem?_eq_getElem (show t < (sched b).length by omega)]
      have x2 : wr.cell? ⟨0, t, none⟩ = some (uv (cubes.getD t 0)) := hk' t hlt
      have hr : St8.rounds ⟨h0, h1, h2, h3, h4, h5, h6, h7⟩ (sched b) (t + 1) = (St8.rounds ⟨h0, h1, h2, h3, h4, h5, h6, h7⟩ (sched b) t).round (cubes.getD t 0) ((sched b).getD t 0) := rfl
      generalize St8.rounds ⟨h0, h1, h2, h3, h4, h5, h6, h7⟩ (sched b) t = v at b2 hr
      generalize cubes.getD t 0 = kt at x2 hr
      generalize (sched b).getD t 0 = wt at x1 hr
      obtain ⟨v0, v1, v2, v3, v4, v5, v6, v7⟩ := v
      have c2 := b2.cell
      have f2 := b2.frozen
      simp only [St8.vals] at c2
      have C : canWrite wr ⟨w.heap.size + 1 + 1, 0, none⟩ 0 8 = true := canWrite_all b2 8 rfl
      have S : ∀ l : List Value, l.length = 8 → storeSeg wr ⟨w.heap.size + 1 + 1, 0, none⟩ 0 l = wr.setRow (w.heap.size + 1 + 1) l.toArray := fun l hl => storeSeg_all b2 l (by rw [hl]; rfl)
      clear hl
      simp [go_sem, IntWalk.iteOmega, IntWalk.toNatUp, e18, e2, e4, e5, e17, hlt', x1]
      refine W_still follows (by kernel_rfl) ?_
      simp [go_sem, IntWalk.iteOmega, IntWalk.toNatUp, e18, e2, e4, e5, e17, hlt', x1, c2]
      refine W_still follows (by kernel_rfl) ?_
      simp [go_sem, IntWalk.iteOmega, IntWalk.toNatUp, e18, e2, e4, e5, e17, hlt', x1, x2, c2, f2, C, S]
      refine roundEnd.mk ⟨t + 1, by omega, by simp [go_sem, e18], by simp [go_sem, e2], by simp [go_sem, e4], by simp [go_sem, e5], by simp [go_sem, e17], ?_, ?_, ?_, ?_⟩ ?_
      · rw [hr]; exact Blk_setRow b2
      · exact b0.farRow (by omega) _
      · exact b1.farRow (by omega) _
      · exact (below_setRow hB (by omega) _).drew.drew
      · simp [go_sem, intOf, e18]; omega
    · have hlt' : ¬ (t : Int) < 64 := by omega
      obtain rfl : t = 64 := by omega
      simp [go_sem, IntWalk.iteOmega, IntWalk.toNatUp, e18, e2, e4, e5, e17, hlt']
      have hm : mix ⟨h0, h1, h2, h3, h4, h5, h6, h7⟩ b = St8.sum ⟨h0, h1, h2, h3, h4, h5, h6, h7⟩ (St8.rounds ⟨h0, h1, h2, h3, h4, h5, h6, h7⟩ (sched b) 64) := rfl
      generalize St8.rounds ⟨h0, h1, h2, h3, h4, h5, h6, h7⟩ (sched b) 64 = v at b2 hm
      generalize mix ⟨h0, h1, h2, h3, h4, h5, h6, h7⟩ b = m at hm
      change Blk wr w.heap.size 180 (St8.vals ⟨h0, h1, h2, h3, h4, h5, h6, h7⟩) at b0
      generalize (⟨h0, h1, h2, h3, h4, h5, h6, h7⟩ : St8) = h at *
      clear e18 e17 ht hlt hlt'
      refine W_loop (fun s wr => ∃ i : Nat, i ≤ 8 ∧ s 99 = .int .i64 i ∧ s 2 = .pointer (some ⟨w.heap.size, 0, none⟩) ∧ s 4 = .pointer (some ⟨w.heap.size + 1, 0, none⟩) ∧ s 5 = .pointer (some ⟨w.heap.size + 1 + 1, 0, none⟩) ∧
        Blk wr (w.heap.size + 1 + 1) 180 v.vals ∧ Blk wr w.heap.size 180 ((addTo h v i).map uv).toArray ∧
        Blk wr (w.heap.size + 1) 180 #[.int .u32 0, .int .u32 0, .int .u32 0, .int .u32 0, .int .u32 0, .int .u32 0, .int .u32 0, .int .u32 0] ∧ Below w.heap.size w wr) (fun s _ => 8 - (intOf (s 99)).toNat) ?_ ?_
      · exact ⟨0, by omega, by simp [go_sem], by simp [go_sem, e2], by simp [go_sem, e4], by simp [go_sem, e5], b2, b0, b1, hB⟩
      · clear b0 b1 b2 hB e2 e4 e5 hk'
        rintro s wr ⟨i, hi, e99, e2, e4, e5, b2, b0, b1, hB⟩
        by_cases hlt : i < 8
        · have hlt' : (i : Int) < 8 := by omega
          have x0 := (b0.cell i).trans (addTo_at h v i hlt)
          have x2 := (b2.cell i).trans (vals_at v i hlt)
          have f0 := b0.frozen i
          generalize hx : h.list.getD i 0 = x at x0
          generalize hy : v.list.getD i 0 = y at x2
          simp [go_sem, IntWalk.iteOmega, IntWalk.toNatUp, e99, e2, e4, e5, hlt']
          refine W_tail 8 follows (by kernel_rfl) ?_
          simp [go_sem, IntWalk.iteOmega, IntWalk.toNatUp, e99, e2, e4, e5, hlt', x0, x2, f0]
          refine roundEnd.mk ⟨i + 1, by omega, by simp [go_sem, e99], by simp [go_sem, e2], by simp [go_sem, e4], by simp [go_sem, e5], ?_, ?_, ?_, ?_⟩ ?_
          · exact b2.farCell (by omega) _
          · rw [← addTo_set h v i hlt, hx, hy]; exact Blk_set b0
          · exact b1.farCell (by omega) _
          · exact (hB.setCell (by simp) _).drew
          · simp [go_sem, intOf, e99]; omega
        · have hlt' : ¬ (i : Int) < 8 := by omega
          obtain rfl : i = 8 := by omega
          rw [addTo_end, ← hm] at b0
          have L := readCells_all b0 8 rfl
          have C := canWrite_all b1 8 rfl
          have S : ∀ l : List Value, l.length = 8 → storeSeg wr ⟨w.heap.size + 1, 0, none⟩ 0 l = wr.setRow (w.heap.size + 1) l.toArray := fun l hl => storeSeg_all b1 l (by rw [hl]; rfl)
          have L2 := readCells_all (Blk_setRow (cs' := m.vals) b1) 8 rfl
          have O : allOne m.vals.toList = true := rfl
          have hz : m.vals.size = 8 := rfl
          simp [go_sem, IntWalk.iteOmega, IntWalk.toNatUp, e99, e2, e4, e5, hlt', L, C, S, O, L2, hz]
          exact below_setRow hB (by omega) _
theorem cubeCells_size : cubeCells.size = 64 := by simp [cubeCells, cubes_length]
def cubeParts : Array (Nat × Value) := #[(0, .int .u32 1116352408), (1, .int .u32 1899447441), (2, .int .u32 3049323471), (3, .int .u32 3921009573), (4, .int .u32 961987163), (5, .int .u32 1508970993), (6, .int .u32 2453635748), (7, .int .u32 2870763221), (8, .int .u32 3624381080), (9, .int .u32 310598401), (10, .int .u32 607225278), (11, .int .u32 1426881987), (12, .int .u32 1925078388), (13, .int .u32 2162078206), (14, .int .u32 2614888103), (15, .int .u32 3248222580), (16, .int .u32 3835390401), (17, .int .u32 4022224774), (18, .int .u32 264347078), (19, .int .u32 604807628), (20, .int .u32 770255983), (21, .int .u32 1249150122), (22, .int .u32 1555081692), (23, .int .u32 1996064986), (24, .int .u32 2554220882), (25, .int .u32 2821834349), (26, .int .u32 2952996808), (27, .int .u32 3210313671), (28, .int .u32 3336571891), (29, .int .u32 3584528711), (30, .int .u32 113926993), (31, .int .u32 338241895), (32, .int .u32 666307205), (33, .int .u32 773529912), (34, .int .u32 1294757372), (35, .int .u32 1396182291), (36, .int .u32 1695183700), (37, .int .u32 1986661051), (38, .int .u32 2177026350), (39, .int .u32 2456956037), (40, .int .u32 2730485921), (41, .int .u32 2820302411), (42, .int .u32 3259730800), (43, .int .u32 3345764771), (44, .int .u32 3516065817), (45, .int .u32 3600352804), (46, .int .u32 4094571909), (47, .int .u32 275423344), (48, .int .u32 430227734), (49, .int .u32 506948616), (50, .int .u32 659060556), (51, .int .u32 883997877), (52, .int .u32 958139571), (53, .int .u32 1322822218), (54, .int .u32 1537002063), (55, .int .u32 1747873779), (56, .int .u32 1955562222), (57, .int .u32 2024104815), (58, .int .u32 2227730452), (59, .int .u32 2361852424), (60, .int .u32 2428436474), (61, .int .u32 2756734187), (62, .int .u32 3204031479), (63, .int .u32 3329325298)]
theorem cubes_built : Tryz.prog.built 200 cubeParts.toList = some cubeCells := by kernel_rfl
theorem cubes_build (w : World) (n : Nat) (r : Result Next) (h : ¬ n ≤ 12) : buildR Tryz.prog 200 #[(0, .int .u32 1116352408), (1, .int .u32 1899447441), (2, .int .u32 3049323471), (3, .int .u32 3921009573), (4, .int .u32 961987163), (5, .int .u32 1508970993), (6, .int .u32 2453635748), (7, .int .u32 2870763221), (8, .int .u32 3624381080), (9, .int .u32 310598401), (10, .int .u32 607225278), (11, .int .u32 1426881987), (12, .int .u32 1925078388), (13, .int .u32 2162078206), (14, .int .u32 2614888103), (15, .int .u32 3248222580), (16, .int .u32 3835390401), (17, .int .u32 4022224774), (18, .int .u32 264347078), (19, .int .u32 604807628), (20, .int .u32 770255983), (21, .int .u32 1249150122), (22, .int .u32 1555081692), (23, .int .u32 1996064986), (24, .int .u32 2554220882), (25, .int .u32 2821834349), (26, .int .u32 2952996808), (27, .int .u32 3210313671), (28, .int .u32 3336571891), (29, .int .u32 3584528711), (30, .int .u32 113926993), (31, .int .u32 338241895), (32, .int .u32 666307205), (33, .int .u32 773529912), (34, .int .u32 1294757372), (35, .int .u32 1396182291), (36, .int .u32 1695183700), (37, .int .u32 1986661051), (38, .int .u32 2177026350), (39, .int .u32 2456956037), (40, .int .u32 2730485921), (41, .int .u32 2820302411), (42, .int .u32 3259730800), (43, .int .u32 3345764771), (44, .int .u32 3516065817), (45, .int .u32 3600352804), (46, .int .u32 4094571909), (47, .int .u32 275423344), (48, .int .u32 430227734), (49, .int .u32 506948616), (50, .int .u32 659060556), (51, .int .u32 883997877), (52, .int .u32 958139571), (53, .int .u32 1322822218), (54, .int .u32 1537002063), (55, .int .u32 1747873779), (56, .int .u32 1955562222), (57, .int .u32 2024104815), (58, .int .u32 2227730452), (59, .int .u32 2361852424), (60, .int .u32 2428436474), (61, .int .u32 2756734187), (62, .int .u32 3204031479), (63, .int .u32 3329325298)] n w r = .ok (.value (.agg cubeCells)) w := buildR_great _ _ _ cubeParts _ _ _ h cubes_built
theorem cubes_one : allOne cubeCells.toList = true := allOne_of (by simp [cubeCells, Value.oneCell'])
set_option maxHeartbeats 800000 in
theorem constants_any (w : World) : callE Tryz.prog 144 #[] w fun v w' => v = .agg cubeCells ∧ Below w.heap.size w w' := by
  have C := canWrite_all (Blk.self_ (w := w) (t := 200) (cs := zeros64) rfl) 64 rfl
  have L := readCells_all (Blk.self_ (w := w) (t := 200) (cs := cubeCells) rfl) 64 cubeCells_size
  have hs : storeSeg (w.alloc (.cells zeros64 200)) ⟨w.heap.size, 0, none⟩ 0 cubeCells.toList = w.alloc (.cells cubeCells 200) := by
    rw [storeSeg_new rfl (by simp [cubeCells_size]; rfl)]
  refine calls_E Tryz.func144 rfl rfl rfl (Nat.le_of_ble_eq_true rfl) ?_
  simp [go_sem, IntWalk.iteOmega, IntWalk.toNatUp, zeros_fold, cubes_build, cubeCells_size, cubes_one, C, L, hs]
  exact ext_alloc _ _
theorem first_any (w : World) : callE Tryz.prog 130 #[] w fun v w' => v = .agg firstWords.vals ∧ Below w.heap.size w w' := by
  refine calls_E Tryz.func130 rfl rfl rfl (Nat.le_of_ble_eq_true rfl) ?_
  simp [go_sem, IntWalk.iteOmega, IntWalk.toNatUp]
  exact ⟨rfl, ext_alloc _ _⟩
def bl (l : List UInt8) : List Value := l.map fun c => .int .u8 c.toNat
theorem bl_length (l : List UInt8) : (bl l).length = l.length := by simp [bl]
theorem bl_append (l m : List UInt8) : bl (l ++ m) = bl l ++ bl m := by simp [bl]
theorem bl_one (l : List UInt8) : allOne (bl l) = true := allOne_of (by simp [bl, Value.oneCell'])
theorem clone_any (A : Option Addr) (n c : Nat) (l : List UInt8) (w : World) (h : Rd w 1 A n (bl l)) (hA : A = none → n = 0) (hm : n ≤ 70368744177664) :
    callE Tryz.prog 102 #[.slice A n c] w fun v w' => w'.ownsRow w.heap.size 5 1 v n (bl l) ∧ Below w.heap.size w w' := by
  have hq := fun w => Lib.run_eql_slice_nil (P := Tryz.prog) w 22 5 A n c 0 0 Tryz.underlying22
  refine calls_E Tryz.func102 rfl rfl rfl (Nat.le_of_ble_eq_true rfl) ?_
  rcases A with _ | a
  · obtain rfl := hA rfl
    have hl : bl l = [] := List.length_eq_zero_iff.1 (by simpa using h.len)
    simp [go_sem, IntWalk.iteOmega, IntWalk.toNatUp, hq]
    rw [hl]
    exact ⟨World.ownsRow_nil _ _ _ _, Below.refl _ _⟩
  · simp [go_sem, IntWalk.iteOmega, IntWalk.toNatUp, hq]
    refine appendE w.heap.size 5 1 1 Tryz.underlying22 el5 (World.ownsRow_made w #[] 0 (Nat.le_refl _) (by unfold maxLen; omega) rfl) (h.keep (ext_alloc _ _)) (bl_one l) (by unfold maxLen; omega) (by omega) (by simp) ?_
    intro v' w' hown hgr _
    simp only [Nat.zero_add, List.nil_append] at hown
    simp [go_sem, IntWalk.iteOmega, IntWalk.toNatUp]
    exact ⟨hown, (ext_alloc w _).grown hgr (by simp) (by intro k hk; simp [Value.ownBlock] at hk; omega)⟩
theorem none_true (b : Nat) (w : World) (h : w.cell? ⟨b, 10, none⟩ = some (.bool true)) : Runs Tryz.prog 131 #[.pointer (some ⟨b, 0, none⟩)] w (.bool false) w := by
  refine runs_of_callE (calls_E Tryz.func131 rfl rfl rfl (Nat.le_of_ble_eq_true rfl) ?_)
  simp [go_sem, IntWalk.iteOmega, IntWalk.toNatUp, h]
theorem noinit_none : Tryz.prog.inits.idxOf? 131 = none := by kernel_rfl
theorem new_any (w : World) : callE Tryz.prog 95 #[] w fun v w' => ∃ b, w.heap.size ≤ b ∧ v = .pointer (some ⟨b, 0, none⟩) ∧ Blk w' b 192 (firstWords.vals ++ #[.slice none 0 0, .int .i64 0, .bool true]) ∧ Below w.heap.size w w' := by
  refine calls_E Tryz.func95 rfl rfl rfl (Nat.le_of_ble_eq_true rfl) ?_
  simp [go_sem, IntWalk.iteOmega, IntWalk.toNatUp]
  refine callE_of (first_any w) ?_
  rintro v w1 ⟨rfl, hb⟩
  simp only [St8.vals]
  simp [go_sem, IntWalk.iteOmega, IntWalk.toNatUp]
  exact ⟨w1.heap.size, hb.size, rfl, by simp [go_sem, St8.vals], hb.alloc hb.size _⟩
theorem grow_nil (n : Nat) (w : World) (hn : n ≤ 70368744177664) : callE Tryz.prog 149 #[.slice none 0 0, .int .i64 n] w fun v w' => w'.ownsRow w.heap.size 5 1 v 0 [] ∧ Below w.heap.size w w' := by
  refine calls_E Tryz.func149 rfl rfl rfl (Nat.le_of_ble_eq_true rfl) ?_
  by_cases h0 : 0 < n
  · obtain ⟨i, z, hi, hz, hsz, hby, hzs, hpos⟩ := el5
    have hr := Lib.run_append_nil_zeros (P := Tryz.prog) w 22 3 22 5 i z .i64 .i64 Tryz.underlying22 Tryz.underlying3 hi hz n h0 (by omega) (by omega) (by rw [hby]; omega)
    generalize hcs : Builtin.zeroCells z.cells n ++ Builtin.zeroCells z.cells (grownCap w n 0 5 - n) = cs at hr
    have hge := grownCap_ge w n 0 5
    have hle := grownCap_le_maxLen w n 0 5 (by unfold maxLen; omega)
    generalize hcap : grownCap w n 0 5 = cap at hr hcs hge hle
    have hcsz : cs.size = cap := by rw [← hcs, Array.size_append, size_zeroCells, size_zeroCells, hzs]; omega
    have hr2 : appendR Tryz.prog 22 3 22 (.slice none 0 0) (.int .i64 n) w = .ok (.value (.slice (some ⟨w.heap.size, 0, none⟩) n cap)) (w.drew.alloc (.cells cs 5)) := by rw [appendR, hr]; rfl
    clear hr hi hz hcs hcap hzs hby hsz
    unfold maxLen at hle
    simp [go_sem, IntWalk.iteOmega, IntWalk.toNatUp, h0, hr2]
    exact ⟨World.ownsRow_made w cs cap (Nat.le_refl _) (by unfold maxLen; omega) (by omega), (ext_alloc _ _).drew⟩
  · obtain rfl : n = 0 := by omega
    simp [go_sem, IntWalk.iteOmega, IntWalk.toNatUp]
    exact ⟨World.ownsRow_nil _ _ _ _, Below.refl _ _⟩
def RdB (w : World) (v : Value) (l : List UInt8) : Prop := ∃ A c, v = .slice A l.length c ∧ Rd w 1 A l.length (bl l) ∧ (A = none → l.length = 0) ∧ l.length ≤ c ∧ c ≤ 9223372036854775807
theorem RdB.keep {w w' : World} {v : Value} {l : List UInt8} (h : RdB w v l) (hb : Below w.heap.size w w') : RdB w' v l := by
  obtain ⟨A, c, rfl, h1, h2⟩ := h
  exact ⟨A, c, rfl, h1.keep hb, h2⟩
def RdBs (w : World) (vs : List Value) (ls : List (List UInt8)) : Prop := vs.length = ls.length ∧ ∀ (i : Nat) (v : Value) (l : List UInt8), vs[i]? = some v → ls[i]? = some l → RdB w v l
theorem RdBs.keep {w w' : World} {vs : List Value} {ls : List (List UInt8)} (h : RdBs w vs ls) (hb : Below w.heap.size w w') : RdBs w' vs ls := ⟨h.1, fun i v l h1 h2 => (h.2 i v l h1 h2).keep hb⟩
def joinTo (ls : List (List UInt8)) (i : Nat) : List UInt8 := (ls.take i).flatten
theorem joinTo_succ (ls : List (List UInt8)) (i : Nat) (l : List UInt8) (h : ls[i]? = some l) : joinTo ls (i + 1) = joinTo ls i ++ l := by
  unfold joinTo
  rw [List.take_add_one, h]
  simp
theorem joinTo_le (ls : List (List UInt8)) (i : Nat) : (joinTo ls i).length ≤ ls.flatten.length := by
  unfold joinTo
  conv => rhs; rw [← List.take_append_drop i ls]
  rw [List.flatten_append, List.length_append]
  omega
theorem joinTo_all (ls : List (List UInt8)) : joinTo ls ls.length = ls.flatten := by simp [joinTo]
set_option maxHeartbeats 800000 in
theorem concat_any (A : Option Addr) (k c : Nat) (vs : List Value) (ls : List (List UInt8)) (w : World) (h : Rd w 1 A k vs) (hk : k ≤ 70368744177664) (hls : RdBs w vs ls) (hm : ls.flatten.length ≤ 70368744177664) :
    callE Tryz.prog 132 #[.slice A k c] w fun v w' => w'.ownsRow w.heap.size 5 1 v ls.flatten.length (bl ls.flatten) ∧ Below w.heap.size w w' := by
  have hkl : k = ls.length := by have := h.len; have := hls.1; omega
  have hle0 := joinTo_le ls
  have hall := joinTo_all ls
  generalize ls.flatten = F at *
  refine calls_E Tryz.func132 rfl rfl rfl (Nat.le_of_ble_eq_true rfl) ?_
  simp [go_sem, IntWalk.iteOmega, IntWalk.toNatUp]
  refine W_loop (fun s wr => ∃ i : Nat, i ≤ k ∧ s 11 = .int .i64 i ∧ s 10 = .int .i64 k ∧ s 9 = .slice A k c ∧ s 0 = .slice A k c ∧ s 3 = .int .i64 (joinTo ls i).length ∧ wr = w) (fun s _ => k - (intOf (s 11)).toNat) ?_ ?_
  · exact ⟨0, by omega, by simp [go_sem], by simp [go_sem], by simp [go_sem], by simp [go_sem], by simp [go_sem, joinTo], rfl⟩
  · rintro s wr ⟨i, hi, e11, e10, e9, e0, e3, rfl⟩
    by_cases hlt : i < k
    · obtain ⟨b, o, rfl, hb, hc⟩ := h.cells (by omega)
      have hv : i < vs.length := by have := h.len; omega
      have hl : i < ls.length := by omega
      have x0 := hc i vs[i] (List.getElem?_eq_getElem hv)
      obtain ⟨A1, c1, hv1, h1, hn1, hc1, hc2⟩ := hls.2 i vs[i] ls[i] (List.getElem?_eq_getElem hv) (List.getElem?_eq_getElem hl)
      rw [hv1] at x0
      have hj := joinTo_succ ls i ls[i] (List.getElem?_eq_getElem hl)
      have hle := hle0 (i + 1)
      have hjl : (joinTo ls (i + 1)).length = (joinTo ls i).length + (ls[i]).length := by rw [hj]; simp
      have hb1 : (joinTo ls i).length + (ls[i]).length ≤ 70368744177664 := by omega
      generalize ls[i] = li at *
      have HJ := Lib.hid hjl
      clear hj hjl hv1 hkl hle
      simp [go_sem, IntWalk.iteOmega, IntWalk.toNatUp, e11, e10, e9, e0, e3, x0]
      refine roundEnd.mk ⟨i + 1, by omega, by simp [go_sem], by simp [go_sem, e10], by simp [go_sem, e9], by simp [go_sem, e0], by simp [go_sem, HJ.out], rfl⟩ ?_
      simp [go_sem, intOf]; omega
    · obtain rfl : i = k := by omega
      have hjk : joinTo ls i = F := by rw [hkl, hall]
      rw [hjk] at e3
      simp [go_sem, IntWalk.iteOmega, IntWalk.toNatUp, e11, e10, e9, e0, e3]
      refine callE_of (grow_nil _ wr hm) ?_
      rintro v w1 ⟨hown, hB⟩
      simp [go_sem, IntWalk.iteOmega, IntWalk.toNatUp, e0]
      clear e11 e10 e9 e3 hlt hi hjk
      refine W_loop (fun s w2 => ∃ (j : Nat) (u : Value), j ≤ i ∧ s 27 = .int .i64 j ∧ s 26 = .int .i64 i ∧ s 25 = .slice A i c ∧ s 6 = u ∧ w2.ownsRow wr.heap.size 5 1 u (joinTo ls j).length (bl (joinTo ls j)) ∧ Below wr.heap.size wr w2) (fun s _ => i - (intOf (s 27)).toNat) ?_ ?_
      · exact ⟨0, v, by omega, by simp [go_sem], by simp [go_sem], by simp [go_sem, e0], by simp [go_sem], by simpa [joinTo, bl] using hown, hB⟩
      · clear hown hB e0
        rintro s w2 ⟨j, u, hj, e27, e26, e25, e6, hown, hB⟩
        by_cases hlt : j < i
        · obtain ⟨b, o, rfl, hb, hc⟩ := (h.keep hB).cells (by omega)
          have hv : j < vs.length := by have := h.len; omega
          have hl : j < ls.length := by omega
          have x0 := hc j vs[j] (List.getElem?_eq_getElem hv)
          obtain ⟨A1, c1, hv1, h1, hn1, hc1, hc2⟩ := (hls.keep hB).2 j vs[j] ls[j] (List.getElem?_eq_getElem hv) (List.getElem?_eq_getElem hl)
          rw [hv1] at x0
          have hjs := joinTo_succ ls j ls[j] (List.getElem?_eq_getElem hl)
          have hle := hle0 (j + 1)
          have hjl : (joinTo ls (j + 1)).length = (joinTo ls j).length + (ls[j]).length := by rw [hjs]; simp
          have hb1 : (joinTo ls j).length + (ls[j]).length ≤ 70368744177664 := by omega
          generalize ls[j] = lj at *
          have HJ := Lib.hid hjl
          have HS := Lib.hid hjs
          clear hjs hjl hv1 hkl hle
          simp [go_sem, IntWalk.iteOmega, IntWalk.toNatUp, e27, e26, e25, e6, x0]
          refine appendE wr.heap.size 5 1 1 Tryz.underlying22 el5 hown h1 (bl_one lj) (by unfold maxLen; omega) (by omega) hB.size ?_
          intro v' w3 hown' hgr _
          simp [go_sem, IntWalk.iteOmega, IntWalk.toNatUp, e27]
          refine roundEnd.mk ⟨j + 1, v', by omega, by simp [go_sem], by simp [go_sem, e26], by simp [go_sem, e25], by simp [go_sem], ?_, ?_⟩ ?_
          · rw [HS.out, bl_append, List.length_append]; exact hown'
          · exact hB.grown hgr hB.size (fun k hk => (hown.lt k hk).1)
          · simp [go_sem, intOf]; omega
        · obtain rfl : j = i := by omega
          have hjk : joinTo ls j = F := by rw [hkl, hall]
          rw [hjk] at hown
          simp [go_sem, IntWalk.iteOmega, IntWalk.toNatUp, e27, e26, e25, e6]
          exact ⟨hown, hB⟩
end Go.Proofs.YtdjcjjodbniebaaGreatDoor
