/-
  Texts joined: HRTxt.
-/
import Derived.Test.YtjjopoigbonjbaaGreatDoorJoin32
namespace Go.Proofs.YtjjopoigbonjbaaGreatDoor.Ho
open Go.RowKit
set_option linter.unusedVariables false
set_option linter.unusedSimpArgs false
set_option maxRecDepth 10000
theorem noinit_ryes : Tryz.prog.inits.idxOf? 20 = none := by kernel_rfl
theorem ryesE (b : Bool) (w : World) (k : Kont) : callE Tryz.prog 20 #[.bool b] w k = k (.string (strOf (32 :: yesV b))) w := callE_eq noinit_ryes (ryes_runs b w) k
/-- The bytes so far. -/
def OwnB (w : World) (base : Nat) (v : Value) (xs : List UInt8) : Prop := w.ownsRow base 5 1 v xs.length (Lib.byteCells xs)
theorem lit_move : (⟨#[109, 111, 118, 101, 32]⟩ : ByteArray) = strOf [109, 111, 118, 101, 32] := rfl
theorem lit_sp : (⟨#[32]⟩ : ByteArray) = strOf [32] := rfl
theorem lit_nl : (⟨#[10]⟩ : ByteArray) = strOf [10] := rfl
theorem lit_byz : (⟨#[98, 121, 122, 32]⟩ : ByteArray) = strOf [98, 121, 122, 32] := rfl
theorem lit_node : (⟨#[110, 111, 100, 101, 32]⟩ : ByteArray) = strOf [110, 111, 100, 101, 32] := rfl
theorem lit_net : (⟨#[110, 101, 116, 32]⟩ : ByteArray) = strOf [110, 101, 116, 32] := rfl
theorem lit_facts : (⟨#[102, 97, 99, 116, 115, 32]⟩ : ByteArray) = strOf [102, 97, 99, 116, 115, 32] := rfl
theorem lit_judged : (⟨#[106, 117, 100, 103, 101, 100]⟩ : ByteArray) = strOf [106, 117, 100, 103, 101, 100] := rfl
theorem lit_down : (⟨#[100, 111, 119, 110]⟩ : ByteArray) = strOf [100, 111, 119, 110] := rfl
set_option maxHeartbeats 3200000 in
theorem rtext_any (r : Rep) (hr : r.Fit) (ev sv : Value) (w : World) (hev : Sl w 1 ev r.errs.length (r.errs.map (.int .i64))) (hsv : Sl w 69 sv r.stands.length (stands r.stands)) :
    callE Tryz.prog 6 #[.agg (repCells r ev sv)] w fun u w' => u = .string (strOf (textV r)) ∧ Below w.heap.size w w' := by
  obtain ⟨EA, ec, rfl, hrd, hEA, hec, hec2⟩ := hev
  obtain ⟨SA, sc, rfl, hsd, hSA, hsc, hsc2⟩ := hsv
  refine calls_E Tryz.func6 rfl rfl rfl (Nat.le_of_ble_eq_true rfl) ?_
  unfold repCells
  simp [go_sem, IntWalk.iteOmega, IntWalk.toNatUp]
  generalize hRc : (#[Value.slice EA r.errs.length ec, .slice SA r.stands.length sc, .int .i64 r.sent, .int .i64 r.forged, .int .i64 r.delivered, .int .i64 r.refused, .int .i64 r.lost, .int .i64 r.dropped, .int .i64 r.doubled, .int .i64 r.flight, .int .i64 r.facts, .bool r.agree, .bool r.share, .bool r.noFlip, .bool r.boots] : Array Value) = R
  obtain ⟨W, hW⟩ : ∃ W, w.alloc (.cells R 27) = W := ⟨_, rfl⟩
  rw [hW]
  have kW : Below w.heap.size w W := by rw [← hW]; exact ext_alloc _ _
  have sW : W.heap.size = w.heap.size + 1 := by rw [← hW]; simp
  have hX0 : Blk W w.heap.size 27 R := by rw [← hW]; exact Blk.self_ rfl
  have hr0 := hr.errs
  refine W_loop (fun s wr => ∃ (i : Nat) (v : Value), i ≤ r.errs.length ∧ s 1 = .pointer (some ⟨w.heap.size, 0, none⟩) ∧ s 3 = v ∧ s 4 = .int .i64 i ∧ OwnB wr W.heap.size v (errsV 0 (r.errs.take i)) ∧ Below W.heap.size W wr) (fun s _ => r.errs.length - (intOf (s 4)).toNat) ?_ ?_
  · exact ⟨0, .slice none 0 0, by omega, by simp [go_sem], by simp [go_sem], by simp [go_sem], World.ownsRow_nil _ _ _ _, Below.refl _ _⟩
  · rintro s wr ⟨i, v, hi, e1, e3, e4, hO, hB⟩
    have kB : Below w.heap.size w wr := kW.trans (hB.mono kW.size)
    have hX := hX0.keep hB
    have x0 : wr.cell? ⟨w.heap.size, 0, none⟩ = some (.slice EA r.errs.length ec) := by rw [hX.cell, ← hRc]; rfl
    by_cases hlt : i < r.errs.length
    · have hlt' : (i : Int) < r.errs.length := by omega
      obtain ⟨b, o, rfl, hb, hc⟩ := hrd.cells (by omega)
      have x1 := hc i (.int .i64 (r.errs[i])) (by simp [List.getElem?_eq_getElem hlt])
      rw [← kB.cell (p := ⟨b, o + i, none⟩) hb] at x1
      have hb2 : b < wr.heap.size := by have := kB.size; omega
      have hI := hr0 _ (List.getElem_mem hlt)
      have htk := errsV_take r.errs 0 i hlt
      rw [Nat.zero_add] at htk
      have hll := errsV_len (r.errs.take i) 0 (fun e he => hr0 e (List.mem_of_mem_take he)) (by have := hr.many; simp; omega)
      have hl2 := errLine_len (i := i) hI (by have := hr.many; omega)
      generalize r.errs[i] = E at *
      by_cases hE : E = 0
      · have hE' : (E != 0) = false := by simp [hE]
        simp [go_sem, IntWalk.iteOmega, IntWalk.toNatUp, e1, e3, e4, x0, hlt', hlt, x1, hb2, hE']
        refine roundEnd.mk ⟨i + 1, v, by omega, by simp [go_sem, e1], by simp [go_sem, e3], by simp [go_sem], ?_, hB⟩ ?_
        · rw [htk, hE]
          simpa [errLine] using hO
        · simp [go_sem, intOf]; omega
      · have hE' : (E != 0) = true := by simp [hE]
        have hm := hr.many
        have hi1 : I64 ((i : Int) + 1) := ⟨by omega, by omega⟩
        simp [go_sem, IntWalk.iteOmega, IntWalk.toNatUp, e1, e3, e4, x0, hlt', hlt, x1, hb2, hE', hi1.2]
        have i1 := itoa_length _ hi1.1 hi1.2
        have i2 := itoa_length _ hI.1 hI.2
        refine W_flow (fun j => j < w.heap.size + 1) (.pure 0 (.pure 1 (.pure 2 (.pure 6 (.pure 7 (.pure 8 (.pure 9 (.pure 10 (.one 3 (.pure 4 (.pure 5 (.one 11 (.pure 12 (.pure 13 (.one 14 (.pure 15 (.done))))))))))))))))) follows (by kernel_rfl) ?_
        have hh := held_refl (fun j => j < w.heap.size + 1) wr.drew
        have hlw : w.heap.size < wr.drew.heap.size := hX.lt
        have hlb : b < wr.drew.heap.size := hb2
        have hlb2 : b < w.heap.size + 1 := by omega
        have y0 : wr.drew.cell? ⟨w.heap.size, 0, none⟩ = some (.slice (some ⟨b, o, none⟩) r.errs.length ec) := x0
        have y1 : wr.drew.cell? ⟨b, o + i, none⟩ = some (.int .i64 E) := x1
        have hlw2 : w.heap.size < wr.heap.size := hX.lt
        simp [go_sem, IntWalk.iteOmega, IntWalk.toNatUp, e1, e3, e4, y0, y1, hh, hlw, hlw2, hb2, hlb, hlb2, hlt, hlt', hi1.2]
        refine callE_of (num_any _ hi1 wr.drew) ?_
        rintro _ w1 ⟨rfl, k1⟩
        have hh1 := hh.below k1
        simp [go_sem, IntWalk.iteOmega, IntWalk.toNatUp, hh1, lit_move, lit_sp, lit_nl, strOf_app, strOf_size, hlb, hlb2]
        refine callE_of (num_any _ hI w1) ?_
        rintro _ w2 ⟨rfl, k2⟩
        have hh2 := hh1.below k2
        simp [go_sem, IntWalk.iteOmega, IntWalk.toNatUp, hh2, lit_move, lit_sp, lit_nl, strOf_app, strOf_size, hlb, hlb2, e3]
        have K2 : Below wr.heap.size wr w2 := ext_trans (ext_trans (ext_drew wr) k1) k2
        have hO2 := row_below hO K2
        have hB2 := ext_trans hB K2
        refine appendSE W.heap.size hO2 _ (by simp at hll ⊢; omega) hB2.size ?_
        intro v3 w3 own3 g3
        have hB3 : Below W.heap.size W w3 := hB2.grown g3 hB2.size fun k hk => (hO2.lt k hk).1
        have hh3 : heldE (fun j => j < w.heap.size + 1) wr.drew w3 := ⟨Nat.le_trans K2.size g3.size, fun j hj hjl => (hB3.block j (by omega)).trans (hB.block j (by omega)).symm⟩
        simp [go_sem, IntWalk.iteOmega, IntWalk.toNatUp, hh3, e4]
        refine roundEnd.mk ⟨i + 1, v3, by omega, by simp [go_sem, e1], by simp [go_sem], by simp [go_sem], ?_, hB3⟩ ?_
        · unfold OwnB
          rw [htk]
          have he : errLine i E = 109 :: 111 :: 118 :: 101 :: 32 :: (Lib.itoa ((i : Int) + 1) ++ 32 :: (Lib.itoa E ++ [10])) := by
            simp [errLine, hE, lineV, errWords, Lib.join, List.intercalate]
          rw [he, List.length_append]
          simpa using own3
        · simp [go_sem, intOf]; omega
    · obtain rfl : i = r.errs.length := by omega
      rw [List.take_length] at hO
      simp [go_sem, IntWalk.iteOmega, IntWalk.toNatUp, e1, e3, e4, x0]
      clear e4 hrd hEA hec hec2 hr0 x0 hX kB
      have hbase : (errsV 0 r.errs).length ≤ 20000 := by
        have := errsV_len r.errs 0 hr.errs (by have := hr.many; omega)
        have := hr.many
        omega
      generalize hXe : errsV 0 r.errs = XS at *
      refine W_loop (fun s wr => ∃ (i : Nat) (v : Value), i ≤ r.stands.length ∧ s 1 = .pointer (some ⟨w.heap.size, 0, none⟩) ∧ s 3 = v ∧ s 5 = .int .i64 i ∧ OwnB wr W.heap.size v (XS ++ standsV (r.stands.take i)) ∧ Below W.heap.size W wr) (fun s _ => r.stands.length - (intOf (s 5)).toNat) ?_ ?_
      · exact ⟨0, v, by omega, by simp [go_sem, e1], by simp [go_sem, e3], by simp [go_sem], by simpa [standsV] using hO, hB⟩
      · clear hO hB e1 e3
        rintro s wr ⟨i, v, hi, e1, e3, e5, hO, hB⟩
        have kB : Below w.heap.size w wr := kW.trans (hB.mono kW.size)
        have hX := hX0.keep hB
        have x1 : wr.cell? ⟨w.heap.size, 1, none⟩ = some (.slice SA r.stands.length sc) := by rw [hX.cell, ← hRc]; rfl
        by_cases hlt : i < r.stands.length
        · have hlt' : (i : Int) < r.stands.length := by omega
          obtain ⟨b, o, rfl, hb, hc⟩ := hsd.cells (by omega)
          have hF := hr.stands _ (List.getElem_mem hlt)
          have x0 := stand_cells hr hlt hc kB hb
          have hb2 : b < wr.heap.size := by have := kB.size; omega
          have htk := standsV_take r.stands i hlt
          have hll := standsV_len (r.stands.take i) (fun e he => hr.stands e (List.mem_of_mem_take he))
          have hs32 := hr.stood
          generalize r.stands[i] = E at *
          have hl69 : (stdCells E).length = 69 := std_len hF.1
          have hone := std_one E
          have hzs : (Tryz.zeroCells60).size = 69 := by kernel_rfl
          have y2 : ∀ (k : Array Value) (t : TypeId), k.size = 69 → canWrite (wr.alloc (.cells k t)) ⟨wr.heap.size, 0, none⟩ 0 69 = true := fun k t hk => canWrite_all (Blk.self_ rfl) 69 hk
          obtain ⟨A, hA, a, c0, c1, c2, c3, c4, c5, c6⟩ := std_cells E hF.1
          have hAl : A.toList = stdCells E := by rw [← hA]
          have honeA : allOne A.toList = true := by rw [hAl]; exact hone
          have y3 : ∀ (k : Array Value) (t : TypeId), k.size = 69 → storeSeg (wr.alloc (.cells k t)) ⟨wr.heap.size, 0, none⟩ 0 A.toList = wr.alloc (.cells A t) := fun k t hk => by
            have := storeSeg_all (w := wr.alloc (.cells k t)) (Blk.self_ rfl) A.toList (by rw [hk, hAl, hl69])
            rw [this, setRow_new]
          have hself : Blk (wr.alloc (.cells A 60)) wr.heap.size 60 A := Blk.self_ rfl
          have z1 := hself.cell 1
          rw [c1] at z1
          simp [go_sem, IntWalk.iteOmega, IntWalk.toNatUp, e1, e3, e5, x1, hlt', hlt, x0, hb2, hl69, honeA, a, y2, y3, hzs, hA, z1]
          clear y2 y3 x0 x1 hzs z1 hX
          obtain ⟨Wa, hWa⟩ : ∃ Wa, wr.alloc (.cells A 60) = Wa := ⟨_, rfl⟩
          rw [hWa] at hself ⊢
          have kA : Below wr.heap.size wr Wa := by rw [← hWa]; exact ext_alloc _ _
          have hOa := row_below hO kA
          have hBa := ext_trans hB kA
          have z0 := hself.cell 0
          rw [c0] at z0
          have hsl := stdLine_len hF
          have hnm := hF.2.1
          have hlE : (XS ++ standsV (r.stands.take i)).length ≤ 2000000000 := by simp at hll ⊢; omega
          cases hb : E.byz with
          | true =>
            have hws : lineV (stdWords E) = 98 :: 121 :: 122 :: 32 :: (E.name ++ [10]) := by simp [lineV, stdWords, hb, Lib.join, List.intercalate]
            simp [go_sem, IntWalk.iteOmega, IntWalk.toNatUp, z0, e3, lit_byz, lit_nl, strOf_app, strOf_size]
            refine appendSE W.heap.size hOa _ (by simp at hlE ⊢; omega) hBa.size ?_
            intro v3 w3 own3 g3
            have hB3 : Below W.heap.size W w3 := hBa.grown g3 hBa.size fun k hk => (hOa.lt k hk).1
            simp [go_sem, IntWalk.iteOmega, IntWalk.toNatUp, e1, e5]
            refine roundEnd.mk ⟨i + 1, v3, by omega, by simp [go_sem, e1], by simp [go_sem], by simp [go_sem], ?_, hB3⟩ ?_
            · unfold OwnB
              rw [htk, ← List.append_assoc, hws, List.length_append]
              simpa using own3
            · simp [go_sem, intOf]; omega
          | false =>
            have z2 := hself.cell 2
            rw [c2] at z2
            have z3 := hself.cell 3
            rw [c3] at z3
            simp [go_sem, IntWalk.iteOmega, IntWalk.toNatUp, z3]
            refine callE_of (rword_any E.phase Wa) ?_
            rintro _ w1 ⟨rfl, rfl⟩
            have z4 := hself.drew.cell 4
            rw [c4] at z4
            have z0' : w1.drew.cell? ⟨wr.heap.size, 0, none⟩ = some (.string (strOf E.name)) := z0
            have q5 : readCells w1.drew ⟨wr.heap.size, 5, none⟩ 0 32 = some (bl E.last) := readCells_blk hself.drew 32 5 0 _ (by rw [bl_length, hF.1.1]) fun j v hv => by
              have := part_at c5 hv
              simpa [Nat.add_comm] using this
            have q6 : readCells w1.drew ⟨wr.heap.size, 37, none⟩ 0 32 = some (bl E.pref) := readCells_blk hself.drew 32 37 0 _ (by rw [bl_length, hF.1.2]) fun j v hv => by
              have := part_at c6 hv
              simpa [Nat.add_comm] using this
            have hl5 : (bl E.last).length = 32 := by rw [bl_length, hF.1.1]
            have hl6 : (bl E.pref).length = 32 := by rw [bl_length, hF.1.2]
            have hh5 : (hexOf E.last).length = 64 := by rw [hexOf_length, hF.1.1]
            have hh6 : (hexOf E.pref).length = 64 := by rw [hexOf_length, hF.1.2]
            have ih4 := itoa_length E.height hF.2.2.1.1 hF.2.2.1.2
            have hw7 := wordV_len E.phase
            have hlw : wr.heap.size < w1.drew.heap.size := hself.lt
            have hlw2 : wr.heap.size < w1.heap.size := hself.lt
            have hfin : ∀ wd : List UInt8, (if E.down then [100, 111, 119, 110] else wordV E.phase) = wd → lineV (stdWords E) = 110 :: 111 :: 100 :: 101 :: 32 :: (E.name ++ 32 :: (wd ++ 32 :: (Lib.itoa E.height ++ 32 :: ((hexOf E.last).take 16 ++ 32 :: ((hexOf E.pref).take 16 ++ [10]))))) := by
              intro wd hwd
              simp [lineV, stdWords, hb, hwd, Lib.join, List.intercalate]
            cases hd : E.down
            all_goals
              rw [hd] at z2 hfin
              simp only [if_true, if_false, Bool.false_eq_true] at hfin
              replace hfin := hfin _ rfl
              simp [go_sem, IntWalk.iteOmega, IntWalk.toNatUp, z2]
              refine W_flow (fun j => j = wr.heap.size) (.pure 0 (.pure 1 (.pure 2 (.pure 3 (.pure 4 (.pure 5 (.pure 6 (.pure 7 (.pure 8 (.pure 9 (.pure 13 (.pure 14 (.pure 18 (.pure 19 (.one 10 (.pure 11 (.pure 12 (.one 15 (.pure 16 (.pure 17 (.one 20 (.pure 21 (.pure 22 (.one 23 (.pure 24 (.done)))))))))))))))))))))))))) follows (by kernel_rfl) ?_
              have hr0 := held_refl (fun j => j = wr.heap.size) w1.drew
              simp [go_sem, IntWalk.iteOmega, IntWalk.toNatUp, z0', z4, q5, q6, hr0, hlw, hlw2, hl5, hl6, e3, lit_node, lit_sp, lit_nl, lit_down, strOf_app, strOf_size]
              clear z0' z4 q5 q6 z0 z3 z2
              refine callE_of (num_any _ hF.2.2.1 w1.drew) ?_
              rintro _ w2 ⟨rfl, k2⟩
              have hr2 := hr0.below k2
              simp [go_sem, IntWalk.iteOmega, IntWalk.toNatUp, hr2, lit_sp, lit_nl, lit_down, strOf_app, strOf_size]
              refine callE_of (short_any E.last w2 hF.1.1) ?_
              rintro _ w3 ⟨rfl, k3⟩
              have hr3 := hr2.below k3
              have hs5 : ((hexOf E.last).take 16).length = 16 := by rw [List.length_take, hh5]; rfl
              have hs6 : ((hexOf E.pref).take 16).length = 16 := by rw [List.length_take, hh6]; rfl
              generalize (hexOf E.last).take 16 = H5 at hs5 hfin ⊢
              simp [go_sem, IntWalk.iteOmega, IntWalk.toNatUp, hr3, lit_sp, lit_nl, lit_down, strOf_app, strOf_size]
              refine callE_of (short_any E.pref w3 hF.1.2) ?_
              rintro _ w4 ⟨rfl, k4⟩
              have hr4 := hr3.below k4
              generalize (hexOf E.pref).take 16 = H6 at hs6 hfin ⊢
              simp [go_sem, IntWalk.iteOmega, IntWalk.toNatUp, hr4, lit_sp, lit_nl, lit_down, strOf_app, strOf_size]
              have K4 : Below w1.heap.size w1 w4 := ext_trans (ext_trans (ext_trans (ext_drew w1) k2) k3) k4
              have hO4 := row_below hOa K4
              have hB4 := ext_trans hBa K4
              have hX4 := hself.keep K4
              have hlen9 : (lineV (stdWords E)).length ≤ 13000000 := hsl
              rw [hfin] at hlen9
              refine appendSE W.heap.size hO4 _ (by simp at hlE hlen9 ⊢; omega) hB4.size ?_
              intro v5 w5 own5 g5
              have hB5 : Below W.heap.size W w5 := hB4.grown g5 hB4.size fun k hk => (hO4.lt k hk).1
              have hX5 : Blk w5 wr.heap.size 60 A := (g5.block _ hX4.lt fun e => row_ne hO4 hX4 (by decide) e.symm).trans hX4
              have hr5 : heldE (fun j => j = wr.heap.size) w1.drew w5 := ⟨Nat.le_trans K4.size g5.size, fun j hj _ => by subst hj; exact hX5.trans hself.symm⟩
              simp [go_sem, IntWalk.iteOmega, IntWalk.toNatUp, hr5, e1, e5]
              refine roundEnd.mk ⟨i + 1, v5, by omega, by simp [go_sem, e1], by simp [go_sem], by simp [go_sem], ?_, hB5⟩ ?_
              · unfold OwnB
                rw [htk, ← List.append_assoc, hfin, List.length_append]
                simpa using own5
              · simp [go_sem, intOf]; omega
        · obtain rfl : i = r.stands.length := by omega
          rw [List.take_length] at hO
          have hsl := standsV_len r.stands hr.stands
          have hs32 := hr.stood
          have hXS : (XS ++ standsV r.stands).length ≤ 2000000000 := by simp; omega
          have htx : textV r = (XS ++ standsV r.stands) ++ lineV (netWords r) ++ lineV [[102, 97, 99, 116, 115], Lib.itoa r.facts] ++ lineV (judgeWords r) := by rw [← hXe]; rfl
          rw [htx]
          generalize XS ++ standsV r.stands = YS at *
          have x2 : wr.cell? ⟨w.heap.size, 2, none⟩ = some (.int .i64 r.sent) := by rw [hX.cell, ← hRc]; rfl
          have x3 : wr.cell? ⟨w.heap.size, 3, none⟩ = some (.int .i64 r.forged) := by rw [hX.cell, ← hRc]; rfl
          have x4 : wr.cell? ⟨w.heap.size, 4, none⟩ = some (.int .i64 r.delivered) := by rw [hX.cell, ← hRc]; rfl
          have x5 : wr.cell? ⟨w.heap.size, 5, none⟩ = some (.int .i64 r.refused) := by rw [hX.cell, ← hRc]; rfl
          have x6 : wr.cell? ⟨w.heap.size, 6, none⟩ = some (.int .i64 r.lost) := by rw [hX.cell, ← hRc]; rfl
          have x7 : wr.cell? ⟨w.heap.size, 7, none⟩ = some (.int .i64 r.dropped) := by rw [hX.cell, ← hRc]; rfl
          have x8 : wr.cell? ⟨w.heap.size, 8, none⟩ = some (.int .i64 r.doubled) := by rw [hX.cell, ← hRc]; rfl
          have hltw := hX.lt
          simp [go_sem, IntWalk.iteOmega, IntWalk.toNatUp, e1, e3, e5, x1, x2, x3, x4, x5, x6, x7, x8]
          clear x1 x2 x3 x4 x5 x6 x7 x8 e5 hsl hs32 hXe htx hsd hSA hsc hsc2 hlt hi
          generalize hC0 : (#[Value.int .i64 r.sent, .int .i64 r.forged, .int .i64 r.delivered, .int .i64 r.refused, .int .i64 r.lost, .int .i64 r.dropped, .int .i64 r.doubled] : Array Value) = C0
          obtain ⟨Wb, hWb⟩ : ∃ Wb, wr.alloc (.cells C0 25) = Wb := ⟨_, rfl⟩
          rw [hWb]
          have kb : Below wr.heap.size wr Wb := by rw [← hWb]; exact ext_alloc _ _
          have hN : Blk Wb wr.heap.size 25 C0 := by rw [← hWb]; exact Blk.self_ rfl
          have hXb := hX.keep kb
          have hOb := row_below hO kb
          have hBb := ext_trans hB kb
          have y0 : Wb.drew.cell? ⟨wr.heap.size, 0, none⟩ = some (.int .i64 r.sent) := by rw [hN.drew.cell, ← hC0]; rfl
          have y1 : Wb.drew.cell? ⟨wr.heap.size, 1, none⟩ = some (.int .i64 r.forged) := by rw [hN.drew.cell, ← hC0]; rfl
          have y2 : Wb.drew.cell? ⟨wr.heap.size, 2, none⟩ = some (.int .i64 r.delivered) := by rw [hN.drew.cell, ← hC0]; rfl
          have y3 : Wb.drew.cell? ⟨wr.heap.size, 3, none⟩ = some (.int .i64 r.refused) := by rw [hN.drew.cell, ← hC0]; rfl
          have y4 : Wb.drew.cell? ⟨wr.heap.size, 4, none⟩ = some (.int .i64 r.lost) := by rw [hN.drew.cell, ← hC0]; rfl
          have y5 : Wb.drew.cell? ⟨wr.heap.size, 5, none⟩ = some (.int .i64 r.dropped) := by rw [hN.drew.cell, ← hC0]; rfl
          have y6 : Wb.drew.cell? ⟨wr.heap.size, 6, none⟩ = some (.int .i64 r.doubled) := by rw [hN.drew.cell, ← hC0]; rfl
          have y7 : Wb.drew.cell? ⟨w.heap.size, 9, none⟩ = some (.int .i64 r.flight) := by rw [hXb.drew.cell, ← hRc]; rfl
          have hn1 : wr.heap.size < Wb.drew.heap.size := hN.lt
          have hn2 : w.heap.size < Wb.drew.heap.size := hXb.lt
          have hn3 : wr.heap.size < Wb.heap.size := hN.lt
          have hn4 : w.heap.size < Wb.heap.size := hXb.lt
          have hrn := hr.nums
          have I0 := hrn r.sent (by simp [Rep.nums])
          have I1 := hrn r.forged (by simp [Rep.nums])
          have I2 := hrn r.delivered (by simp [Rep.nums])
          have I3 := hrn r.refused (by simp [Rep.nums])
          have I4 := hrn r.lost (by simp [Rep.nums])
          have I5 := hrn r.dropped (by simp [Rep.nums])
          have I6 := hrn r.doubled (by simp [Rep.nums])
          have I7 := hrn r.flight (by simp [Rep.nums])
          have hnw : lineV (netWords r) = 110 :: 101 :: 116 :: 32 :: (Lib.itoa r.sent ++ 32 :: (Lib.itoa r.forged ++ 32 :: (Lib.itoa r.delivered ++ 32 :: (Lib.itoa r.refused ++ 32 :: (Lib.itoa r.lost ++ 32 :: (Lib.itoa r.dropped ++ 32 :: (Lib.itoa r.doubled ++ 32 :: (Lib.itoa r.flight ++ [10])))))))) := by
            simp [lineV, netWords, Rep.nums, Lib.join, List.intercalate]
          have hjw : lineV (judgeWords r) = 106 :: 117 :: 100 :: 103 :: 101 :: 100 :: 32 :: (yesV r.agree ++ 32 :: (yesV r.share ++ 32 :: (yesV r.noFlip ++ 32 :: (yesV r.boots ++ [10])))) := by
            simp [lineV, judgeWords, Lib.join, List.intercalate]
          have hfw : lineV [[102, 97, 99, 116, 115], Lib.itoa r.facts] = 102 :: 97 :: 99 :: 116 :: 115 :: 32 :: (Lib.itoa r.facts ++ [10]) := by
            simp [lineV, Lib.join, List.intercalate]
          refine W_flow (fun j => j = wr.heap.size ∨ j = w.heap.size) (.pure 0 (.pure 1 (.pure 2 (.pure 6 (.pure 7 (.pure 11 (.pure 12 (.pure 16 (.pure 17 (.pure 21 (.pure 22 (.pure 26 (.pure 27 (.pure 31 (.pure 32 (.pure 36 (.pure 37 (.one 3 (.pure 4 (.pure 5 (.one 8 (.pure 9 (.pure 10 (.one 13 (.pure 14 (.pure 15 (.one 18 (.pure 19 (.pure 20 (.one 23 (.pure 24 (.pure 25 (.one 28 (.pure 29 (.pure 30 (.one 33 (.pure 34 (.pure 35 (.one 38 (.pure 39 (.pure 40 (.one 41 (.pure 42 (.done)))))))))))))))))))))))))))))))))))))))))))) follows (by kernel_rfl) ?_
          have g0 := held_refl (fun j => j = wr.heap.size ∨ j = w.heap.size) Wb.drew
          simp [go_sem, IntWalk.iteOmega, IntWalk.toNatUp, e1, e3, y0, y1, y2, y3, y4, y5, y6, y7, hn1, hn2, hn3, hn4, g0]
          clear y0 y1 y2 y3 y4 y5 y6 y7
          refine callE_of (num_any r.sent I0 Wb.drew) ?_
          rintro _ v1 ⟨rfl, k1⟩
          have g1 := g0.below k1
          have j1 := itoa_length r.sent I0.1 I0.2
          generalize Lib.itoa r.sent = D1 at j1 hnw ⊢
          simp [go_sem, IntWalk.iteOmega, IntWalk.toNatUp, g1, lit_net, lit_sp, lit_nl, strOf_app, strOf_size]
          refine callE_of (num_any r.forged I1 v1) ?_
          rintro _ v2 ⟨rfl, k2⟩
          have g2 := g1.below k2
          have j2 := itoa_length r.forged I1.1 I1.2
          generalize Lib.itoa r.forged = D2 at j2 hnw ⊢
          simp [go_sem, IntWalk.iteOmega, IntWalk.toNatUp, g2, lit_net, lit_sp, lit_nl, strOf_app, strOf_size]
          refine callE_of (num_any r.delivered I2 v2) ?_
          rintro _ v3 ⟨rfl, k3⟩
          have g3 := g2.below k3
          have j3 := itoa_length r.delivered I2.1 I2.2
          generalize Lib.itoa r.delivered = D3 at j3 hnw ⊢
          simp [go_sem, IntWalk.iteOmega, IntWalk.toNatUp, g3, lit_net, lit_sp, lit_nl, strOf_app, strOf_size]
          refine callE_of (num_any r.refused I3 v3) ?_
          rintro _ v4 ⟨rfl, k4⟩
          have g4 := g3.below k4
          have j4 := itoa_length r.refused I3.1 I3.2
          generalize Lib.itoa r.refused = D4 at j4 hnw ⊢
          simp [go_sem, IntWalk.iteOmega, IntWalk.toNatUp, g4, lit_net, lit_sp, lit_nl, strOf_app, strOf_size]
          refine callE_of (num_any r.lost I4 v4) ?_
          rintro _ v5 ⟨rfl, k5⟩
          have g5 := g4.below k5
          have j5 := itoa_length r.lost I4.1 I4.2
          generalize Lib.itoa r.lost = D5 at j5 hnw ⊢
          simp [go_sem, IntWalk.iteOmega, IntWalk.toNatUp, g5, lit_net, lit_sp, lit_nl, strOf_app, strOf_size]
          refine callE_of (num_any r.dropped I5 v5) ?_
          rintro _ v6 ⟨rfl, k6⟩
          have g6 := g5.below k6
          have j6 := itoa_length r.dropped I5.1 I5.2
          generalize Lib.itoa r.dropped = D6 at j6 hnw ⊢
          simp [go_sem, IntWalk.iteOmega, IntWalk.toNatUp, g6, lit_net, lit_sp, lit_nl, strOf_app, strOf_size]
          refine callE_of (num_any r.doubled I6 v6) ?_
          rintro _ v7 ⟨rfl, k7⟩
          have g7 := g6.below k7
          have j7 := itoa_length r.doubled I6.1 I6.2
          generalize Lib.itoa r.doubled = D7 at j7 hnw ⊢
          simp [go_sem, IntWalk.iteOmega, IntWalk.toNatUp, g7, lit_net, lit_sp, lit_nl, strOf_app, strOf_size]
          refine callE_of (num_any r.flight I7 v7) ?_
          rintro _ v8 ⟨rfl, k8⟩
          have g8 := g7.below k8
          have j8 := itoa_length r.flight I7.1 I7.2
          generalize Lib.itoa r.flight = D8 at j8 hnw ⊢
          simp [go_sem, IntWalk.iteOmega, IntWalk.toNatUp, g8, lit_net, lit_sp, lit_nl, strOf_app, strOf_size]
          have K8 : Below Wb.heap.size Wb v8 := ext_trans (ext_trans (ext_trans (ext_trans (ext_trans (ext_trans (ext_trans (ext_trans (ext_drew Wb) k1) k2) k3) k4) k5) k6) k7) k8
          have hO8 := row_below hOb K8
          have hB8 := ext_trans hBb K8
          clear g0 g1 g2 g3 g4 g5 g6 g7 k1 k2 k3 k4 k5 k6 k7 k8
          refine appendSE W.heap.size hO8 _ (by simp at hXS ⊢; omega) hB8.size ?_
          intro u9 w9 own9 q9
          have hB9 : Below W.heap.size W w9 := hB8.grown q9 hB8.size fun k hk => (hO8.lt k hk).1
          have hN8 := hN.keep K8
          have hX8 := hXb.keep K8
          have hN9 : Blk w9 wr.heap.size 25 C0 := (q9.block _ hN8.lt fun e => row_ne hO8 hN8 (by decide) e.symm).trans hN8
          have hX9 : Blk w9 w.heap.size 27 R := hX0.keep hB9
          have g9 : heldE (fun j => j = wr.heap.size ∨ j = w.heap.size) Wb.drew w9 := ⟨Nat.le_trans K8.size q9.size, fun j hj _ => by
            rcases hj with rfl | rfl
            · exact hN9.trans hN.symm
            · exact hX9.trans hXb.symm⟩
          have z10 : w9.cell? ⟨w.heap.size, 10, none⟩ = some (.int .i64 r.facts) := by rw [hX9.cell, ← hRc]; rfl
          simp [go_sem, IntWalk.iteOmega, IntWalk.toNatUp, g9, e1, z10]
          refine callE_of (num_any r.facts hr.facts w9) ?_
          rintro _ w10 ⟨rfl, k10⟩
          have jf := itoa_length r.facts hr.facts.1 hr.facts.2
          have own9' : w9.ownsRow W.heap.size 5 1 u9 (YS ++ lineV (netWords r)).length (Lib.byteCells (YS ++ lineV (netWords r))) := by
            rw [hnw, List.length_append]
            simpa using own9
          have hnl : (lineV (netWords r)).length ≤ 1000 := by rw [hnw]; simp; omega
          generalize lineV (netWords r) = NW at *
          clear hnw own9 g9 hN hN8 hN9 hX8 hXb hOb hO8 hB8 K8
          have hO10 := row_below own9' k10
          have hB10 := ext_trans hB9 k10
          simp [go_sem, IntWalk.iteOmega, IntWalk.toNatUp, lit_facts, lit_nl, strOf_app, strOf_size]
          refine appendSE W.heap.size hO10 _ (by simp at hXS ⊢; omega) hB10.size ?_
          intro u11 w11 own11 q11
          have hB11 : Below W.heap.size W w11 := hB10.grown q11 hB10.size fun k hk => (hO10.lt k hk).1
          have hX11 : Blk w11 w.heap.size 27 R := hX0.keep hB11
          have own11' : w11.ownsRow W.heap.size 5 1 u11 (YS ++ NW ++ lineV [[102, 97, 99, 116, 115], Lib.itoa r.facts]).length (Lib.byteCells (YS ++ NW ++ lineV [[102, 97, 99, 116, 115], Lib.itoa r.facts])) := by
            rw [hfw, List.length_append]
            simpa using own11
          have hfl : (lineV [[102, 97, 99, 116, 115], Lib.itoa r.facts]).length ≤ 100 := by rw [hfw]; simp; omega
          generalize lineV [[102, 97, 99, 116, 115], Lib.itoa r.facts] = FW at *
          clear hfw own11
          have y11 : w11.drew.cell? ⟨w.heap.size, 11, none⟩ = some (.bool r.agree) := by rw [hX11.drew.cell, ← hRc]; rfl
          have y12 : w11.drew.cell? ⟨w.heap.size, 12, none⟩ = some (.bool r.share) := by rw [hX11.drew.cell, ← hRc]; rfl
          have y13 : w11.drew.cell? ⟨w.heap.size, 13, none⟩ = some (.bool r.noFlip) := by rw [hX11.drew.cell, ← hRc]; rfl
          have y14 : w11.drew.cell? ⟨w.heap.size, 14, none⟩ = some (.bool r.boots) := by rw [hX11.drew.cell, ← hRc]; rfl
          have yl : ∀ b : Bool, (yesV b).length ≤ 3 := by intro b; unfold yesV; split <;> decide
          have yl1 := yl r.agree
          have yl2 := yl r.share
          have yl3 := yl r.noFlip
          have yl4 := yl r.boots
          have hl1 : w.heap.size < w11.drew.heap.size := hX11.lt
          have hl2 : w.heap.size < w11.heap.size := hX11.lt
          simp [go_sem, IntWalk.iteOmega, IntWalk.toNatUp, e1]
          refine W_flow (fun j => j = w.heap.size) (.pure 0 (.pure 1 (.pure 2 (.pure 5 (.pure 6 (.pure 9 (.pure 10 (.pure 13 (.pure 14 (.one 3 (.pure 4 (.one 7 (.pure 8 (.one 11 (.pure 12 (.one 15 (.pure 16 (.pure 17 (.one 18 (.pure 19 (.done))))))))))))))))))))) follows (by kernel_rfl) ?_
          have g11 := held_refl (fun j => j = w.heap.size) w11.drew
          simp [go_sem, IntWalk.iteOmega, IntWalk.toNatUp, e1, y11, y12, y13, y14, hl1, hl2, g11, ryesE, lit_judged, lit_nl, strOf_app, strOf_size]
          have hO12 := row_below own11' (ext_drew w11)
          have hB12 := ext_trans hB11 (ext_drew w11)
          refine appendSE W.heap.size hO12 _ (by simp at hXS ⊢; omega) hB12.size ?_
          intro u13 w13 own13 q13
          have hB13 : Below W.heap.size W w13 := hB12.grown q13 hB12.size fun k hk => (hO12.lt k hk).1
          have hX13 : Blk w13 w.heap.size 27 R := hX0.keep hB13
          have g13 : heldE (fun j => j = w.heap.size) w11.drew w13 := ⟨q13.size, fun j hj _ => by subst hj; exact hX13.trans hX11.symm⟩
          have own13' : w13.ownsRow W.heap.size 5 1 u13 (YS ++ NW ++ FW ++ lineV (judgeWords r)).length (Lib.byteCells (YS ++ NW ++ FW ++ lineV (judgeWords r))) := by
            rw [hjw, List.length_append]
            simpa using own13
          have hpos : 0 < (YS ++ NW ++ FW ++ lineV (judgeWords r)).length := by rw [hjw]; simp; omega
          generalize YS ++ NW ++ FW ++ lineV (judgeWords r) = ZS at *
          obtain ⟨⟨A9, c9, rfl, hrd9, -⟩, -⟩ := own_sl own13'
          simp [go_sem, IntWalk.iteOmega, IntWalk.toNatUp, g13]
          refine stringE ZS hrd9 hpos ?_
          simp [go_sem, IntWalk.iteOmega, IntWalk.toNatUp]
          exact kW.trans (hB13.mono kW.size)
end Go.Proofs.YtjjopoigbonjbaaGreatDoor.Ho
