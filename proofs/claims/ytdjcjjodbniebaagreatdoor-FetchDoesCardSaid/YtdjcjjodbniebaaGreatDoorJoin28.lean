/-
  Texts joined: FChain.
-/
import Derived.Test.YtdjcjjodbniebaaGreatDoorJoin27
namespace Go.Proofs.YtdjcjjodbniebaaGreatDoor
open Go.RowKit
set_option linter.unusedVariables false
set_option linter.unusedSimpArgs false
set_option maxRecDepth 10000
def hdH (l : List Bk) : Int := (l.head?.map Bk.height).getD 0
open Classical in
noncomputable def bestStep (S : FS) (p : List Bk × List UInt8) (t : List UInt8 × List Int) : List Bk × List UInt8 :=
  if (wayF S t.1).2.1 ≠ 1 ∨ (wayF S t.1).1 = [] then p
  else if p.1 = [] ∨ hdH p.1 < hdH (wayF S t.1).1 ∨ (hdH (wayF S t.1).1 = hdH p.1 ∧ Lib.compareBytes t.1 p.2 < 0) then ((wayF S t.1).1, t.1) else p
noncomputable def bestF (S : FS) : List Bk × List UInt8 := S.ts.foldl (bestStep S) ([], zeroId)
noncomputable def chainF (S : FS) : List Bk × Int := if missL S ≠ [] then ([], 7) else ((bestF S).1.reverse, 0)
theorem putObj_setRow {w : World} {l g : Nat} {o : Obj} {cs : Array Value} (h : g ≠ l) : (w.setRow g cs).putObj l o = (w.putObj l o).setRow g cs := by
  unfold World.putObj World.setRow
  congr 1
  apply Array.ext_getElem?
  intro k
  simp only [Array.getElem?_modify, Array.getElem?_setIfInBounds, Array.size_modify]
  by_cases h1 : l = k
  · subst h1; rw [if_pos rfl, if_neg h, if_pos rfl]
  · rw [if_neg h1, if_neg h1]
def chJ (W0 : World) (lb : Nat) (pre : List (Int × (Bk × Value))) (O : Nat → Prop) (a : World) : Prop :=
  ∃ ov ys, O lb ∧ (∀ j, ov.ownBlock = some j → O j) ∧ Blk a lb 24 #[ov] ∧ a.ownsRow W0.heap.size 29 34 ov pre.length (flat ys) ∧ ys.map Prod.fst = pre.map (fun x => x.2.1) ∧
    (∀ y ∈ ys, BkOk y.1 ∧ a.ownsRow W0.heap.size 5 1 y.2 y.1.data.length (bl y.1.data) ∧ ∀ j, y.2.ownBlock = some j → O j) ∧ Below W0.heap.size W0 a
theorem chJ_stab {W0 W2 a b : World} {lb : Nat} {pre : List (Int × (Bk × Value))} {O : Nat → Prop} (h : chJ W0 lb pre O a) (hk : Keeps (fun j => O j ∨ j < W2.heap.size) a b) (hw : W0.heap.size ≤ W2.heap.size) : chJ W0 lb pre O b := by
  obtain ⟨ov, ys, h1, h2, h3, h4, h5, h6, h7⟩ := h
  exact ⟨ov, ys, h1, h2, hk.blk h3 (.inl h1), row_keeps h4 hk fun j hj => .inl (h2 j hj), h5, fun y hy => ⟨(h6 y hy).1, row_keeps (h6 y hy).2.1 hk fun j hj => .inl ((h6 y hy).2.2 j hj), (h6 y hy).2.2⟩, h7.trans (hk.below h7.size fun k hk' => .inr (by omega))⟩
set_option maxHeartbeats 6400000 in
theorem fchain_any {w : World} {O : Nat → Prop} {f : Nat} {S : FS} {tv : Value} {rk ra ro : Nat} {vs : List Value} {K : List (List UInt8 × Bk × Value)} (h : FIn w O f S tv rk ra ro vs K) (hok : FOk S) (hC : Cubes w) :
    callE Tryz.prog 23 #[.pointer (some ⟨f, 0, none⟩)] w fun r w' => ∃ v xs, r = .tuple #[v, .int .i64 (chainF S).2] ∧ xs.map Prod.fst = (chainF S).1 ∧ w'.ownsRow w.heap.size 29 34 v (chainF S).1.length (flat xs) ∧ (∀ x ∈ xs, BkOk x.1 ∧ w'.ownsRow w.heap.size 5 1 x.2 x.1.data.length (bl x.1.data)) ∧ (chainF S).1.length ≤ 4096 ∧ Below w.heap.size w w' := by
  have r0 := fun k => callE_eq noinit_fnone (fnone_made h.blk (FIn.c35 hok.last)) k
  refine calls_M Tryz.func23 rfl rfl rfl (Nat.le_of_ble_eq_true rfl) ?_
  simp [go_sem, IntWalk.iteOmega, IntWalk.toNatUp, r0]
  refine callE_of (fdone_any h hok hC) ?_
  rintro _ w1 ⟨rfl, k1⟩
  by_cases hm : missL S = []
  · have e0 : chainF S = ((bestF S).1.reverse, 0) := by unfold chainF; rw [if_neg (by simpa using hm)]
    rw [e0]
    have hF1 := h.keep k1
    obtain ⟨-, tA, tc, rfl⟩ := own_sl hF1.row
    have kA := ext_alloc w1 (.cells zeroI.toArray 27)
    have hN : Blk (w1.alloc (.cells zeroI.toArray 27)) w1.heap.size 27 zeroI.toArray := Blk.self_ rfl
    have hc34 : ∀ k t, (w1.alloc (.cells k t)).cell? ⟨f, 34, none⟩ = some (.slice tA S.ts.length tc) := fun k t => ((hF1.keep (ext_alloc w1 (.cells k t))).cells hok.last).2.2.1
    simp [go_sem, IntWalk.iteOmega, IntWalk.toNatUp, hm, hc34]
    rw [← zeroI_lit]
    have hF2 := hF1.keep kA
    have k2 := k1.trans (kA.mono k1.size)
    have hN0 : w.heap.size ≤ w1.heap.size := k1.size
    generalize w1.alloc (.cells zeroI.toArray 27) = w2 at *
    refine WM_of ?_
    refine W_loop (fun st wr => ∃ i p bv xs, i ≤ S.ts.length ∧ st 0 = .pointer (some ⟨f, 0, none⟩) ∧ st 4 = bv ∧ st 5 = .pointer (some ⟨w1.heap.size, 0, none⟩) ∧ st 24 = .slice tA S.ts.length tc ∧ st 25 = .int .i64 S.ts.length ∧ st 26 = .int .i64 i ∧ (S.ts.take i).foldl (bestStep S) ([], zeroId) = p ∧ p.2.length = 32 ∧ Blk wr w1.heap.size 27 (bl p.2).toArray ∧ wr.ownsRow w.heap.size 29 34 bv p.1.length (flat xs) ∧ xs.map Prod.fst = p.1 ∧ (∀ x ∈ xs, ∃ a, (a, x) ∈ K) ∧ p.1.length ≤ 4096 ∧ Below w.heap.size w wr) (fun st _ => S.ts.length - (intOf (st 26)).toNat) ?_ ?_
    · exact ⟨0, ([], zeroId), .slice none 0 0, [], by omega, by simp [go_sem], by simp [go_sem], by simp [go_sem], by simp [go_sem], by simp [go_sem], by simp [go_sem], rfl, by simp [zeroId], hN, World.ownsRow_nil _ _ _ _, rfl, by simp, by simp, k2⟩
    · rintro st wr ⟨i, p, bv, xs, hi, d0, d4, d5, d24, d25, d26, hfold, hp32, hNr, hbv, hxs, hxK, hpl, hB⟩
      by_cases hlt : i < S.ts.length
      · have hlt' : (i : Int) < S.ts.length := by omega
        have hn32 := hok.tsn
        have hF := h.keep hB
        have hx : S.ts[i]? = some S.ts[i] := List.getElem?_eq_getElem hlt
        obtain ⟨ht1, ht2, ht3⟩ := hok.ts _ (List.getElem_mem hlt)
        have hL1 := take_fold (bestStep S) ([], zeroId) hlt
        rw [hfold] at hL1
        generalize S.ts[i] = t at *
        obtain ⟨tb, to_, rfl, htb, htc⟩ := (Rd.of_own hF.row).cells (by omega)
        have hvl : vs.length = S.ts.length := by have := h.rows.len; simpa using this
        obtain ⟨fv, hfv⟩ : ∃ fv, vs[i]? = some fv := ⟨_, List.getElem?_eq_getElem (by omega)⟩
        have hz : ((S.ts.map Prod.fst).zip vs)[i]? = some (t.1, fv) := by
          rw [List.getElem?_zip_eq_some]
          exact ⟨by simp [hx], hfv⟩
        have hzl : ∀ x ∈ (S.ts.map Prod.fst).zip vs, x.1.length = 32 := fun x hx => by
          obtain ⟨y, hy, e⟩ := List.mem_map.1 (List.of_mem_zip hx).1
          rw [← e]
          exact (hok.ts _ hy).1
        have hcell := flatT_at _ hzl i _ hz
        have l33 : (tcell (t.1, fv)).length = 33 := tcell_len ht1
        have rt : readCells wr ⟨tb, to_ + i * 33, none⟩ 0 33 = some (tcell (t.1, fv)) := readCells_cells 33 0 _ l33 (fun j v hj => by rw [show to_ + i * 33 + 0 + j = to_ + (33 * i + j) by omega]; exact htc _ _ (hcell j v hj))
        obtain ⟨hro, hrO⟩ := hF.rows.at_ i fv t.2 hfv (by simp [hx])
        obtain ⟨-, fA, fc, rfl⟩ := own_sl hro
        have y2 : ∀ (k : Array Value) (t : TypeId), k.size = 33 → canWrite (wr.alloc (.cells k t)) ⟨wr.heap.size, 0, none⟩ 0 33 = true := fun k t hk => canWrite_all (Blk.self_ rfl) 33 hk
        have y3 : ∀ (k : Array Value) (t : TypeId) (l : List Value), k.size = 33 → l.length = 33 → storeSeg (wr.alloc (.cells k t)) ⟨wr.heap.size, 0, none⟩ 0 l = (wr.alloc (.cells k t)).setRow wr.heap.size l.toArray := fun k t l hk hl => storeSeg_all (Blk.self_ rfl) l (by omega)
        simp [go_sem, IntWalk.iteOmega, IntWalk.toNatUp, d0, d4, d5, d24, d25, d26, hlt', hlt, rt, y2, y3, l33, tcell_one]
        rw [← zeroT_lit]
        have kA' : Below wr.heap.size wr ((wr.alloc (.cells zeroT.toArray 97)).setRow wr.heap.size (tcell (t.1, .slice fA t.2.length fc)).toArray) := below_setRow (ext_alloc wr _) (Nat.le_refl _) _
        have hT : Blk ((wr.alloc (.cells zeroT.toArray 97)).setRow wr.heap.size (tcell (t.1, .slice fA t.2.length fc)).toArray) wr.heap.size 97 (tcell (t.1, .slice fA t.2.length fc)).toArray := Blk_setRow (Blk.self_ rfl)
        generalize (wr.alloc (.cells zeroT.toArray 97)).setRow wr.heap.size (tcell (t.1, .slice fA t.2.length fc)).toArray = w3 at *
        have rT : ∀ W, Blk W wr.heap.size 97 (tcell (t.1, .slice fA t.2.length fc)).toArray → readCells W ⟨wr.heap.size, 0, none⟩ 0 32 = some (bl t.1) := fun W hT => readCells_blk hT 32 0 0 (bl t.1) (by simp [bl, ht1]) (fun j v hj => by
          have : (tcell (t.1, .slice fA t.2.length fc))[j]? = some v := by unfold tcell; rw [List.getElem?_append_left (List.getElem?_eq_some_iff.1 hj).1]; exact hj
          simpa using this)
        have r1 := rT _ hT
        simp [go_sem, IntWalk.iteOmega, IntWalk.toNatUp, d0, d4, d5, d24, d25, d26, r1]
        have hF3 := hF.keep kA'
        have hB3 := hB.trans (kA'.mono hB.size)
        refine callE_of (fway_any hF3 hok (hC.keep hB3) ht1) ?_
        rintro _ w4 ⟨wv, ys, rfl, hys, hwr, hyK, hWI, hat, k4⟩
        have z2 : ∀ (k : Array Value) (t : TypeId), k.size = 32 → canWrite (w4.alloc (.cells k t)) ⟨w4.heap.size, 0, none⟩ 0 32 = true := fun k t hk => canWrite_all (Blk.self_ rfl) 32 hk
        have z3 : ∀ (k : Array Value) (t : TypeId) (l : List Value), k.size = 32 → l.length = 32 → storeSeg (w4.alloc (.cells k t)) ⟨w4.heap.size, 0, none⟩ 0 l = (w4.alloc (.cells k t)).setRow w4.heap.size l.toArray := fun k t l hk hl => storeSeg_all (Blk.self_ rfl) l (by omega)
        have hbs : bestStep S p t = if (wayF S t.1).2.1 ≠ 1 ∨ (wayF S t.1).1 = [] then p else if p.1 = [] ∨ hdH p.1 < hdH (wayF S t.1).1 ∨ (hdH (wayF S t.1).1 = hdH p.1 ∧ Lib.compareBytes t.1 p.2 < 0) then ((wayF S t.1).1, t.1) else p := by
          unfold bestStep
          congr
        rw [hbs] at hL1
        generalize (wayF S t.1).2.2 = la_ at *
        generalize (wayF S t.1).2.1 = how at *
        generalize (wayF S t.1).1 = wl at *
        have lla : (bl la_).length = 32 := by rw [bl_length]; exact hat
        have kB' := kA'.trans (k4.mono kA'.size)
        have kC' : Below wr.heap.size wr ((w4.alloc (.cells zeroI.toArray 27)).setRow w4.heap.size (bl la_).toArray) := below_setRow (kB'.alloc kB'.size _) kB'.size _
        have k45 : Below w4.heap.size w4 ((w4.alloc (.cells zeroI.toArray 27)).setRow w4.heap.size (bl la_).toArray) := below_setRow (ext_alloc w4 _) (Nat.le_refl _) _
        have k35 : Below w3.heap.size w3 ((w4.alloc (.cells zeroI.toArray 27)).setRow w4.heap.size (bl la_).toArray) := k4.trans (k45.mono k4.size)
        have hwlen : wl.length ≤ 4096 := Nat.le_trans hWI.len hok.keptn
        obtain ⟨-, qA, qc, rfl⟩ := own_sl hwr
        obtain ⟨-, bA, bc, rfl⟩ := own_sl hbv
        have hNC := hNr.keep kC'
        have hbvC := row_below hbv kC'
        have hBC := hB.trans (kC'.mono hB.size)
        have hTC : Blk ((w4.alloc (.cells zeroI.toArray 27)).setRow w4.heap.size (bl la_).toArray) wr.heap.size 97 (tcell (t.1, .slice fA t.2.length fc)).toArray := hT.keep k35
        have hwrC := row_below hwr k45
        have hFC := hF.keep kC'
        by_cases h1 : how = 1
        · subst h1
          by_cases h2 : wl = []
          · rw [if_pos (.inr h2)] at hL1
            have h2' : ((wl.length : Int) == 0) = true := by simp [h2]
            simp [go_sem, IntWalk.iteOmega, IntWalk.toNatUp, d0, d4, d5, d24, d25, d26, z2, z3, lla, bl_one, h2']
            rw [← zeroI_lit]
            refine roundEnd.mk ⟨i + 1, p, _, xs, by omega, by simp [go_sem, d0], by simp [go_sem, d4], by simp [go_sem, d5], by simp [go_sem, d24], by simp [go_sem, d25], by simp [go_sem], hL1, hp32, hNC, hbvC, hxs, hxK, hpl, hBC⟩ ?_
            simp [go_sem, intOf]; omega
          · rw [if_neg (by rintro (h | h); exact h rfl; exact h2 h)] at hL1
            have h2' : ((wl.length : Int) == 0) = false := by simp [h2]
            simp [go_sem, IntWalk.iteOmega, IntWalk.toNatUp, d0, d4, d5, d24, d25, d26, z2, z3, lla, bl_one, h2']
            rw [← zeroI_lit]
            generalize (w4.alloc (.cells zeroI.toArray 27)).setRow w4.heap.size (bl la_).toArray = w5 at *
            have hwl0 : 0 < wl.length := List.length_pos_iff.2 h2
            obtain ⟨qb, qo, rfl, hqb, hqc⟩ := (Rd.of_own hwrC).cells (by omega)
            have hqok : ∀ x ∈ ys, BkOk x.1 ∧ RdB w5 x.2 x.1.data := fun x hx => by
              obtain ⟨y, hy⟩ := hyK x hx
              exact ⟨(hFC.dat _ hy).1, own_rdB (hFC.dat _ hy).2.1⟩
            obtain ⟨qdv, qok, _, qcs⟩ := rd_block hys hqok hqc hwl0
            have hq32 : ∀ W, Below w5.heap.size w5 W → W.cell? ⟨qb, qo + 32, none⟩ = some (.int .i64 wl[0].height) := fun W hW => by
              have := qcs 32 _ (bkv_32 (dv := qdv) qok.len)
              rw [Nat.mul_zero, Nat.zero_add] at this
              exact (hW.cell (p := ⟨qb, qo + 32, none⟩) hqb).trans this
            have hwh : hdH wl = wl[0].height := by unfold hdH; rw [List.head?_eq_getElem?, List.getElem?_eq_getElem hwl0]; rfl
            refine W_cutE (fun s8 w8 => ∃ better : Bool, s8 0 = .pointer (some ⟨f, 0, none⟩) ∧ s8 4 = .slice bA p.1.length bc ∧ s8 5 = .pointer (some ⟨w1.heap.size, 0, none⟩) ∧ s8 7 = .pointer (some ⟨wr.heap.size, 0, none⟩) ∧ s8 8 = .slice (some ⟨qb, qo, none⟩) wl.length qc ∧ s8 24 = .slice (some ⟨tb, to_, none⟩) S.ts.length tc ∧ s8 25 = .int .i64 S.ts.length ∧ s8 26 = .int .i64 i ∧ s8 75 = .bool better ∧ (better = true ↔ (p.1 = [] ∨ hdH p.1 < hdH wl ∨ (hdH wl = hdH p.1 ∧ Lib.compareBytes t.1 p.2 < 0))) ∧ Below w5.heap.size w5 w8) ?_ ?_
            · have kd := ext_drew w5
              have hr4 := held_refl (fun _ => True) w5.drew
              have hq32d := hq32 _ kd
              have hwl' : (0 : Int) < wl.length := by omega
              refine W_flow (fun _ => True) (.pure 0 (.pure 1 (.pure 2 (.pure 3 (.pure 4 (.pure 5 (.pure 6 (.pure 7 (.pure 8 (.pure 9 (.pure 10 (.pure 11 (.pure 12 (.pure 13 (.pure 14 (.pure 15 (.pure 16 (.pure 17 (.pure 18 (.pure 19 (.pure 20 (.pure 21 (.pure 22 (.pure 23 (.pure 24 (.pure 25 (.pure 26 (.pure 27 (.one 28 (.pure 29 (.pure 30 (.done)))))))))))))))))))))))))))))))) follows (by kernel_rfl) ?_
              by_cases hp0 : p.1 = []
              · have hp0' : ((p.1.length : Int) == 0) = true := by simp [hp0]
                simp [go_sem, IntWalk.iteOmega, IntWalk.toNatUp, d0, d4, d5, d24, d25, d26, hp0']
                refine atCut.mk ⟨true, by simp [go_sem, d0], by simp [go_sem, d4], by simp [go_sem, d5], by simp [go_sem], by simp [go_sem], by simp [go_sem, d24], by simp [go_sem, d25], by simp [go_sem, d26], by simp [go_sem], ?_, kd⟩
                simp [hp0]
              · have hp0' : ((p.1.length : Int) == 0) = false := by simp [hp0]
                have hpp0 : 0 < p.1.length := List.length_pos_iff.2 hp0
                have hpp' : (0 : Int) < p.1.length := by omega
                obtain ⟨pb, po, eP, hpb, hpc⟩ := (Rd.of_own hbvC).cells (by omega)
                have hpok : ∀ x ∈ xs, BkOk x.1 ∧ RdB w5 x.2 x.1.data := fun x hx => by
                  obtain ⟨y, hy⟩ := hxK x hx
                  exact ⟨(hFC.dat _ hy).1, own_rdB (hFC.dat _ hy).2.1⟩
                obtain ⟨pdv, pok, _, pcs⟩ := rd_block hxs hpok hpc hpp0
                have hp32' : w5.drew.cell? ⟨pb, po + 32, none⟩ = some (.int .i64 p.1[0].height) := by
                  have := pcs 32 _ (bkv_32 (dv := pdv) pok.len)
                  rw [Nat.mul_zero, Nat.zero_add] at this
                  exact this
                have hph : hdH p.1 = p.1[0].height := by unfold hdH; rw [List.head?_eq_getElem?, List.getElem?_eq_getElem hpp0]; rfl
                by_cases c1 : p.1[0].height < wl[0].height
                · simp [go_sem, IntWalk.iteOmega, IntWalk.toNatUp, d0, d4, d5, d24, d25, d26, hp0', hwl0, hwl', hpp0, hpp', eP, hr4, hqb, hpb, hq32d, hp32', c1]
                  refine atCut.mk ⟨true, by simp [go_sem, d0], by simp [go_sem, d4, eP], by simp [go_sem, d5], by simp [go_sem], by simp [go_sem], by simp [go_sem, d24], by simp [go_sem, d25], by simp [go_sem, d26], by simp [go_sem], ?_, kd⟩
                  simp only [true_iff]
                  exact .inr (.inl (by rw [hwh, hph]; exact c1))
                · by_cases c2 : wl[0].height = p.1[0].height
                  · have c2' : (wl[0].height == p.1[0].height) = true := by simpa using c2
                    have r7 := rT w5.drew hTC.drew
                    have r8 := readCells_all hNC.drew 32 (by rw [List.size_toArray, bl_length]; exact hp32)
                    have rl7 : wr.heap.size < w5.heap.size := hTC.lt
                    have rl8 : w1.heap.size < w5.heap.size := hNC.lt
                    simp [go_sem, IntWalk.iteOmega, IntWalk.toNatUp, d0, d4, d5, d24, d25, d26, hp0', hwl0, hwl', hpp0, hpp', eP, hr4, hqb, hpb, hq32d, hp32', c1, c2', c2, r7, r8, rl7, rl8]
                    refine callE_of (shaLess_any t.1 p.2 w5.drew ht1 hp32) ?_
                    rintro _ w6 ⟨rfl, k6⟩
                    have hr6 := hr4.below k6
                    simp [go_sem, IntWalk.iteOmega, IntWalk.toNatUp, d0, d4, d5, d24, d25, d26, hr6]
                    refine atCut.mk ⟨decide (Lib.compareBytes t.1 p.2 < 0), by simp [go_sem, d0], by simp [go_sem, d4, eP], by simp [go_sem, d5], by simp [go_sem], by simp [go_sem], by simp [go_sem, d24], by simp [go_sem, d25], by simp [go_sem, d26], by simp [go_sem], ?_, kd.trans (k6.mono kd.size)⟩
                    rw [decide_eq_true_iff, hwh, hph]
                    exact ⟨fun h => .inr (.inr ⟨c2, h⟩), fun h => by
                      rcases h with h | h | h
                      · exact absurd h hp0
                      · exact absurd h c1
                      · exact h.2⟩
                  · have c2' : (wl[0].height == p.1[0].height) = false := by simpa using c2
                    simp [go_sem, IntWalk.iteOmega, IntWalk.toNatUp, d0, d4, d5, d24, d25, d26, hp0', hwl0, hwl', hpp0, hpp', eP, hr4, hqb, hpb, hq32d, hp32', c1, c2', c2]
                    refine atCut.mk ⟨false, by simp [go_sem, d0], by simp [go_sem, d4, eP], by simp [go_sem, d5], by simp [go_sem], by simp [go_sem], by simp [go_sem, d24], by simp [go_sem, d25], by simp [go_sem, d26], by simp [go_sem], ?_, kd⟩
                    simp only [Bool.false_eq_true, false_iff]
                    rw [hwh, hph]
                    rintro (h | h | h)
                    · exact hp0 h
                    · exact c1 h
                    · exact c2 h.1
            · rintro s8 w8 ⟨better, f0, f4, f5, f7, f8, f24, f25, f26, f75, hbet, k8⟩
              have kk8 : Below wr.heap.size wr w8 := kC'.trans (k8.mono kC'.size)
              have hB8 := hB.trans (kk8.mono hB.size)
              have hN8 := hNC.keep k8
              have hbv8 := row_below hbvC k8
              have hT8 := hTC.keep k8
              have hwr8 := own_mono (base' := w.heap.size) (row_below hwrC k8) (Nat.le_trans hB.size kA'.size)
              cases better with
              | false =>
                rw [if_neg (fun h => by simpa using hbet.2 h)] at hL1
                simp [go_sem, IntWalk.iteOmega, IntWalk.toNatUp, f0, f4, f5, f24, f25, f26, f75]
                refine roundEnd.mk ⟨i + 1, p, _, xs, by omega, by simp [go_sem, f0], by simp [go_sem, f4], by simp [go_sem, f5], by simp [go_sem, f24], by simp [go_sem, f25], by simp [go_sem], hL1, hp32, hN8, hbv8, hxs, hxK, hpl, hB8⟩ ?_
                simp [go_sem, intOf]; omega
              | true =>
                rw [if_pos (hbet.1 rfl)] at hL1
                simp [go_sem, IntWalk.iteOmega, IntWalk.toNatUp, f0, f4, f5, f24, f25, f26, f75]
                have hq9 := held_refl (fun g => g ≠ w1.heap.size) w8.drew
                have l1 : (bl t.1).length = 32 := by rw [bl_length]; exact ht1
                have r9 := rT w8.drew hT8.drew
                have rl9 : wr.heap.size < w8.heap.size := hT8.lt
                have hneN : wr.heap.size ≠ w1.heap.size := by have := hNr.lt; omega
                have c9 := canWrite_all hN8.drew 32 (by rw [List.size_toArray, bl_length]; exact hp32)
                have s9 := storeSeg_all hN8.drew (bl t.1) (by rw [List.size_toArray, bl_length, bl_length, hp32, ht1])
                refine W_flow (fun g => g ≠ w1.heap.size) (.pure 0 (.pure 1 (.pure 2 (.pure 3 (.one 4 (.done)))))) follows (by kernel_rfl) ?_
                have hq10 := hq9.row (bl t.1).toArray (g := w1.heap.size) (by simp)
                simp [go_sem, IntWalk.iteOmega, IntWalk.toNatUp, f0, f4, f5, f7, f8, f24, f25, f26, hq9, hneN, rl9, r9, c9, s9, l1, bl_one, hq10]
                have hwr10 := row_keeps (O := fun j => j ≠ w1.heap.size) (a := w8.drew) hwr8 (Keeps.setRow w8.drew w1.heap.size (bl t.1).toArray (by simp)) (fun j hj e => row_ne hwr8 hN8 (by decide) (e ▸ hj))
                refine roundEnd.mk ⟨i + 1, (wl, t.1), .slice (some ⟨qb, qo, none⟩) wl.length qc, ys, by omega, by simp [go_sem, f0], by simp [go_sem, f8], by simp [go_sem, f5], by simp [go_sem, f24], by simp [go_sem, f25], by simp [go_sem], hL1, ht1, Blk_setRow hN8.drew, hwr10, hys, hyK, hwlen, below_setRow (hB8.drew) (by omega) _⟩ ?_
                simp [go_sem, intOf]; omega
        · rw [if_pos (.inl h1)] at hL1
          have h1' : (how != 1) = true := by simpa using h1
          simp [go_sem, IntWalk.iteOmega, IntWalk.toNatUp, d0, d4, d5, d24, d25, d26, z2, z3, lla, bl_one, h1']
          rw [← zeroI_lit]
          refine roundEnd.mk ⟨i + 1, p, _, xs, by omega, by simp [go_sem, d0], by simp [go_sem, d4], by simp [go_sem, d5], by simp [go_sem, d24], by simp [go_sem, d25], by simp [go_sem], hL1, hp32, hNC, hbvC, hxs, hxK, hpl, hBC⟩ ?_
          simp [go_sem, intOf]; omega
      · obtain rfl : i = S.ts.length := by omega
        have hlt' : ¬ (S.ts.length : Int) < S.ts.length := by omega
        rw [List.take_of_length_le (Nat.le_refl _)] at hfold
        obtain ⟨-, bA, bc, rfl⟩ := own_sl hbv
        simp [go_sem, IntWalk.iteOmega, IntWalk.toNatUp, d0, d4, d5, d24, d25, d26, hlt']
        have kL := ext_alloc wr (.cells #[.slice none 0 0] 24)
        have hLb : Blk (wr.alloc (.cells #[.slice none 0 0] 24)) wr.heap.size 24 #[.slice none 0 0] := Blk.self_ rfl
        have hbvL := row_below hbv kL
        have kL2 := hB.trans (kL.mono hB.size)
        have hszL : wr.heap.size < (wr.alloc (.cells #[.slice none 0 0] 24)).heap.size := by simp
        have hwr0 : w.heap.size ≤ wr.heap.size := hB.size
        generalize wr.alloc (.cells #[.slice none 0 0] 24) = wL at *
        refine callE_of (back_any _ wL ⟨_, _, _, rfl⟩) ?_
        rintro _ wM ⟨rfl, hgM, kM⟩
        have hLbM := hLb.keep kM
        have hbvM := row_below hbvL kM
        have kM2 := kL2.trans (kM.mono kL2.size)
        have hlx : xs.length = p.1.length := by rw [← hxs]; simp
        have hxok : ∀ x ∈ xs, x.1.parent.length = 32 := fun x hx => by
          obtain ⟨y, hy⟩ := hxK x hx
          exact (h.dat _ hy).1.len
        have hrdM := Rd.of_own hbvM
        have hgMl := hgM.lt
        have hszM : wL.heap.size ≤ wM.heap.size := kM.size
        rw [← hlx] at hrdM hgM
        have hbest : p = bestF S := hfold.symm
        simp [go_sem, IntWalk.iteOmega, IntWalk.toNatUp]
        refine WM_range (w0 := wM) (enc := encB) (S := fun l => l = revN xs xs.length) (by simp [go_sem]) entersBack (back_seq xs hxok bA bc wL.heap.size wM (by omega) hgM hrdM) (Keeps.refl _ _) (fun _ => rfl) (fun j => j = wr.heap.size) ?_ ?_
          (chJ w wr.heap.size) (fun _ _ _ _ => False) ?_ ?_ ?_ ?_ ?_ ?_
        · rintro j (rfl | hj)
          · exact ⟨hgMl, by omega⟩
          · refine ⟨atB_lt hrdM hj, ?_⟩
            rintro rfl
            rw [hlx] at hj
            have := (hbv.lt _ (atB_row hbv hj)).2
            omega
        · rintro j rfl
          exact hLbM.lt
        · intro pre O a b hj hk
          exact chJ_stab hj hk (by have := kM2.size; omega)
        · intro e pre O a b hj hk
          exact hj
        · exact ⟨.slice none 0 0, [], rfl, by simp [Value.ownBlock], hLbM, World.ownsRow_nil _ _ _ _, rfl, by simp, kM2⟩
        · rintro pre x O a b l1 o ⟨ys0, rfl, hpre⟩ hab hla hOl hsl ⟨r, hr⟩ hbs hsa hOa hOO _ ⟨ov, ys, j1, j2, j3, j4, j5, j6, j7⟩
          have hxm : x.2 ∈ xs := by
            have h1 : x ∈ revN xs xs.length := hpre.subset (by simp)
            have h2 : x.2 ∈ (revN xs xs.length).map Prod.snd := List.mem_map.2 ⟨x, h1, rfl⟩
            rw [revN_map xs _ (Nat.le_refl _), List.take_of_length_le (Nat.le_refl _)] at h2
            simpa using h2
          have hpl2 : pre.length + 1 ≤ xs.length := by
            have := hpre.length_le
            have h2 := congrArg List.length (revN_map xs _ (Nat.le_refl _))
            simp at this h2
            omega
          obtain ⟨ka, hka⟩ := hxK _ hxm
          have hdat := (h.keep j7).dat _ hka
          obtain ⟨ix, bb, dv⟩ := x
          have hbo : BkOk bb := hdat.1
          have hbd : b.ownsRow 0 5 1 dv bb.data.length (bl bb.data) := hdat.2.1
          have hck : bb.data.length ≤ 200 := checkB_data (hok.kept (ka, bb) (by rw [← h.kept]; exact List.mem_map.2 ⟨_, hka, rfl⟩)).2
          have l34 : (bkv bb dv).length = 34 := bkv_len hbo.len
          obtain ⟨-, dA, dc, rfl⟩ := own_sl hbd
          have hb1 := bkv_one bb dA bb.data.length dc
          have y2 : ∀ (k : Array Value) (t : TypeId), k.size = 34 → canWrite (a.alloc (.cells k t)) ⟨a.heap.size, 0, none⟩ 0 34 = true := fun k t hk => canWrite_all (Blk.self_ rfl) 34 hk
          have y3 : ∀ (k : Array Value) (t : TypeId) (l : List Value), k.size = 34 → l.length = 34 → storeSeg (a.alloc (.cells k t)) ⟨a.heap.size, 0, none⟩ 0 l = (a.alloc (.cells k t)).setRow a.heap.size l.toArray := fun k t l hk hl => storeSeg_all (Blk.self_ rfl) l (by omega)
          have hhl : ∀ (k : Array Value) (t : TypeId) (cs : Array Value), ((a.alloc (.cells k t)).setRow a.heap.size cs).heap[l1]? = a.heap[l1]? := fun k t cs => by
            rw [setRow_other _ _ _ _ (by omega)]
            exact (ext_alloc a _).block l1 hla
          have hpo : ∀ (k : Array Value) (t : TypeId) (cs : Array Value), ((a.alloc (.cells k t)).setRow a.heap.size cs).putObj l1 (.loop o) = (b.alloc (.cells k t)).setRow b.heap.size cs := fun k t cs => by
            rw [putObj_setRow (by omega), putObj_alloc hla, hab, hbs]
          simp [go_sem, IntWalk.iteOmega, IntWalk.toNatUp, encB, y2, y3, l34, hb1, hhl, hpo]
          rw [← zeroB_lit]
          have kZ : Below b.heap.size b ((b.alloc (.cells zeroB.toArray 29)).setRow b.heap.size (bkv bb (.slice dA bb.data.length dc)).toArray) := below_setRow (ext_alloc b _) (Nat.le_refl _) _
          have hX : Blk ((b.alloc (.cells zeroB.toArray 29)).setRow b.heap.size (bkv bb (.slice dA bb.data.length dc)).toArray) b.heap.size 29 (bkv bb (.slice dA bb.data.length dc)).toArray := Blk_setRow (Blk.self_ rfl)
          rw [← hbs]
          generalize (b.alloc (.cells zeroB.toArray 29)).setRow b.heap.size (bkv bb (.slice dA bb.data.length dc)).toArray = c0 at *
          have hX0 : BkAt c0 b.heap.size bb (.slice dA bb.data.length dc) := ⟨hX, hbo, own_rdB (row_below hbd kZ)⟩
          have hXd := hX0.keep (ext_drew c0)
          obtain ⟨-, oA, oc, rfl⟩ := own_sl j4
          have hLd := (j3.keep kZ).drew
          have x5 := hXd.all
          have hxl : b.heap.size < c0.heap.size := hX.lt
          refine W_flow (fun g => g = b.heap.size) (.pure 1 (.two 0 (.one 2 (.one 3 (.one 4 (.one 5 (.done))))) 2 (.two 0 (.one 3 (.one 4 (.one 5 (.done)))) 3 (.one 0 (.one 4 (.one 5 (.done))))))) follows (by kernel_rfl) ?_
          have hq := held_refl (fun g => g = b.heap.size) c0.drew
          have hlc := hLd.cell
          simp [go_sem, IntWalk.iteOmega, IntWalk.toNatUp, hq, hlc, hxl, x5]
          have hbdd := row_below (row_below hbd kZ) (ext_drew c0)
          have j4d := row_below (row_below j4 kZ) (ext_drew c0)
          have kbd : Below b.heap.size b c0.drew := kZ.drew
          generalize c0.drew = c1 at *
          have hplo : pre.length ≤ 4096 := by omega
          refine ⟨?_, ?_⟩ <;>
          · refine callE_of (bclone_any hbo (own_rdB hbdd) (by omega)) ?_
            rintro _ w5 ⟨⟨dv', rfl, hd'⟩, k5⟩
            have hq5 := hq.below k5
            have hL5 := hLd.keep k5
            have hLc5 := hL5.cell
            have hLc5' : ∀ (k : Array Value) (t : TypeId) i, (w5.alloc (.cells k t)).cell? ⟨wr.heap.size, i, none⟩ = #[Value.slice oA pre.length oc][i]? := fun k t i => (hL5.keep (ext_alloc w5 _)).cell i
            have hqa : ∀ (k : Array Value) (t : TypeId), heldE (fun g => g = b.heap.size) c1 (w5.alloc (.cells k t)) := fun k t => hq5.alloc _
            have hdlt := hd'.lt
            obtain ⟨-, eA, ec, rfl⟩ := own_sl hd'
            have l34' : (bkv bb (.slice eA bb.data.length ec)).length = 34 := bkv_len hbo.len
            have hb1' := bkv_one bb eA bb.data.length ec
            have hfb := fold_bk _ l34'
            simp [go_sem, IntWalk.iteOmega, IntWalk.toNatUp, hq5, hLc5, hLc5', hqa, l34']
            have kW := ext_alloc w5 (.cells (bkv bb (.slice eA bb.data.length ec)).toArray 29)
            have hrdW : Rd (w5.alloc (.cells (bkv bb (.slice eA bb.data.length ec)).toArray 29)) 34 (some ⟨w5.heap.size, 0, none⟩) 1 (bkv bb (.slice eA bb.data.length ec)) := rd_one (Blk.self_ rfl) l34'
            have k6 : Below b.heap.size b (w5.alloc (.cells (bkv bb (.slice eA bb.data.length ec)).toArray 29)) := (kbd.trans (k5.mono kbd.size)).trans (kW.mono (by have := kbd.size; have := k5.size; omega))
            have hLW := hL5.keep kW
            have hdW := row_below hd' kW
            have hqW := hqa (bkv bb (.slice eA bb.data.length ec)).toArray 29
            have j4W := row_below j4 k6
            have jysW : ∀ y ∈ ys, BkOk y.1 ∧ (w5.alloc (.cells (bkv bb (.slice eA bb.data.length ec)).toArray 29)).ownsRow w.heap.size 5 1 y.2 y.1.data.length (bl y.1.data) ∧ ∀ j, y.2.ownBlock = some j → O j := fun y hy => ⟨(j6 y hy).1, row_below (j6 y hy).2.1 k6, (j6 y hy).2.2⟩
            have hsz5 : b.heap.size ≤ c1.heap.size := kbd.size
            have hdlt2 : ∀ j, (Value.slice eA bb.data.length ec).ownBlock = some j → b.heap.size ≤ j := fun j hj => by have := (hdlt j hj).1; omega
            have hbsz : w.heap.size ≤ b.heap.size := j7.size
            and_intros <;>
            · rw [hfb]
              generalize w5.alloc (.cells (bkv bb (.slice eA bb.data.length ec)).toArray 29) = wA at *
              refine appendE w.heap.size 29 34 64 Tryz.underlying24 el29 j4W hrdW hb1' (by unfold maxLen; omega) (by omega) (Nat.le_trans hbsz k6.size) ?_
              intro v' w7 hr7 hg7 hbk7
              obtain ⟨-, A7, c7, hv7⟩ := own_sl hr7
              have hone : v'.oneCell' = true := by rw [hv7]; rfl
              have hL7 : Blk w7 wr.heap.size 24 #[.slice oA pre.length oc] := (hg7.block _ hLW.lt (fun e => row_ne j4W hLW (by decide) e.symm)).trans hLW
              have hLc7 := hL7.cell
              have hLf7 := hL7.frozen
              have hbO : ∀ j, (Value.slice oA pre.length oc).ownBlock = some j → O j := j2
              have hbb : ¬ O b.heap.size := fun h' => by have := hOa _ h'; omega
              have hq7 : heldE (fun g => g = b.heap.size) c1 w7 := ⟨Nat.le_trans hqW.1 hg7.size, fun k hk hl => by
                subst hk
                exact (hg7.block _ (Nat.lt_of_lt_of_le hl hqW.1) (fun e => hbb (hbO _ e.symm))).trans (hqW.2 _ rfl hl)⟩
              have hneL : wr.heap.size ≠ b.heap.size := fun e => hbb (e ▸ j1)
              have hq8 : ∀ u, heldE (fun g => g = b.heap.size) c1 (w7.setCell ⟨wr.heap.size, 0, none⟩ u) := fun u => hq7.set u (by simpa using hneL)
              simp [go_sem, IntWalk.iteOmega, IntWalk.toNatUp, hq7, hLc7, hLf7, hone, hq8]
              have kO : Keeps (fun j => ¬ O j) b (w7.setCell ⟨wr.heap.size, 0, none⟩ v') := ((Keeps.of_ext k6).trans (Keeps.grown hg7 fun k hk h' => h' (hbO k hk))).trans (Keeps.setCell _ _ _ fun h' => h' j1)
              have hs7 : b.heap.size ≤ w7.heap.size := Nat.le_trans k6.size hg7.size
              have far : ∀ {e size n : Nat} {u : Value} {us : List Value}, w7.ownsRow w.heap.size e size u n us → e ≠ 24 → (w7.setCell ⟨wr.heap.size, 0, none⟩ v').ownsRow w.heap.size e size u n us := fun ho hne => row_keeps (O := fun j => j ≠ wr.heap.size) ho (Keeps.setCell _ _ _ fun h' => h' rfl) (fun j hj e => row_ne ho hL7 hne (e ▸ hj))
              have farG : ∀ {n : Nat} {u : Value} {us : List Value}, wA.ownsRow w.heap.size 5 1 u n us → w7.ownsRow w.heap.size 5 1 u n us := fun ho => row_keeps ho (Keeps.grown (O := fun j => (Value.slice oA pre.length oc).ownBlock ≠ some j) hg7 fun k hk h' => h' hk) (fun j hj e => rows_ne j4W ho (by decide) j e hj)
              refine ⟨fun j => O j ∨ (b.heap.size ≤ j ∧ j < w7.heap.size), ⟨fun j hj => hj.imp (fun h => h) fun h => h.1, fun j hj => ?_, kO⟩, v', ys ++ [(bb, .slice eA bb.data.length ec)], .inl j1, fun j hj => ?_, Blk_set hL7, ?_, ?_, fun y hy => ?_, ?_⟩
              · rw [sz_set]
                rcases hj with hj | hj
                · have := hOa j hj; omega
                · exact hj.2
              · have hjl := (hr7.lt j hj).2
                rcases hbk7 with e | e
                · exact .inl (hbO j (e ▸ hj))
                · rw [e] at hj
                  injection hj with hj
                  subst hj
                  exact .inr ⟨k6.size, hjl⟩
              · have h0 : flat ys ++ bkv bb (.slice eA bb.data.length ec) = flat (ys ++ [(bb, .slice eA bb.data.length ec)]) := by simp [flat]
                rw [h0] at hr7
                rw [List.length_append]
                exact far hr7 (by decide)
              · rw [List.map_append, List.map_append, j5]
                rfl
              · rcases List.mem_append.1 hy with hy | hy
                · obtain ⟨q1, q2, q3⟩ := jysW y hy
                  exact ⟨q1, far (farG q2) (by decide), fun j hj => .inl (q3 j hj)⟩
                · obtain rfl : y = _ := by simpa using hy
                  have hdW' := own_mono (base' := w.heap.size) hdW (Nat.le_trans hbsz hsz5)
                  exact ⟨hbo, far (farG hdW') (by decide), fun j hj => .inr ⟨hdlt2 j hj, ((farG hdW').lt j hj).2⟩⟩
              · exact ⟨kO.os.trans j7.os, kO.tape.trans j7.tape, kO.output.trans j7.output, Nat.le_trans hbsz kO.size, fun k hk => (kO.block k (by omega) (fun h' => by have := hOO k (by omega) h'; omega)).trans (j7.block k hk)⟩
        · rintro xs0 O b D rfl ⟨ov, ys, j1, j2, j3, j4, j5, j6, j7⟩ hOD hD hDb hsb
          obtain ⟨-, oA, oc, rfl⟩ := own_sl j4
          have hlc := j3.cell
          have hrl : (revN xs xs.length).length = p.1.length := by
            have h2 := congrArg List.length (revN_map xs _ (Nat.le_refl _))
            simp at h2
            omega
          have hmap : (revN xs xs.length).map (fun x => x.2.1) = (bestF S).1.reverse := by
            have h2 := congrArg (List.map Prod.fst) (revN_map xs _ (Nat.le_refl _))
            rw [List.take_of_length_le (Nat.le_refl _), List.map_map, List.map_reverse, hxs, hbest] at h2
            exact h2
          rw [hrl] at j4 hlc j2
          have hbl : p.1.length = (bestF S).1.reverse.length := by rw [hbest]; simp
          simp [go_sem, IntWalk.iteOmega, IntWalk.toNatUp, hlc, hDb]
          have kP : Keeps O b (b.putObj D (.deferred none)) := Keeps.putObj _ _ _ hOD
          refine ⟨ys, by rw [j5]; exact hmap, ?_, fun a u hy => ⟨(j6 _ hy).1, row_keeps (j6 _ hy).2.1 kP (j6 _ hy).2.2⟩, ?_, ?_⟩
          · rw [← hbest]; exact row_keeps j4 kP j2
          · rw [← hbest]; omega
          · exact j7.trans ((Keeps.putObj (O := fun j => j < w.heap.size) _ _ _ (by omega)).below j7.size fun k hk => hk)
        · rintro e pre xs0 O b D rfl hpre hj hOD hD hDb hsb
          exact hj.elim
  · have e0 : chainF S = ([], 7) := by unfold chainF; rw [if_pos hm]
    rw [e0]
    simp [go_sem, IntWalk.iteOmega, IntWalk.toNatUp, hm]
    exact ⟨World.ownsRow_nil _ _ _ _, k1⟩
end Go.Proofs.YtdjcjjodbniebaaGreatDoor
