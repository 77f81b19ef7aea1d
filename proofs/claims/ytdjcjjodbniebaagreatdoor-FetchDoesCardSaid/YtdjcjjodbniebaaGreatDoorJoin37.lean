/-
  Texts joined: FRMiss, FRWants, FRNew.
-/
import Derived.Test.YtdjcjjodbniebaaGreatDoorJoin36
namespace Go.Proofs.YtdjcjjodbniebaaGreatDoor
open Go.RowKit
set_option linter.unusedVariables false
set_option linter.unusedSimpArgs false
set_option maxRecDepth 10000
noncomputable def endR (R : RF) (id : List UInt8) : List Bk × List UInt8 × Int := wayR R (R.K.length + 1) [] id
open Classical in
noncomputable def missStepR (R : RF) (out : List (List UInt8)) (t : List UInt8 × List Int) : List (List UInt8) := if (endR R t.1).2.2 ≠ 0 ∨ (endR R t.1).2.1 ∈ out then out else out ++ [(endR R t.1).2.1]
noncomputable def missR (R : RF) : List (List UInt8) := R.T.foldl (missStepR R) []
theorem rtcell_len {R : RF} (hok : ROk R) {vs : List Value} : ∀ x ∈ (R.T.map Prod.fst).zip vs, (tcell x).length = 33 := fun x hx => by
  obtain ⟨y, hy, e⟩ := List.mem_map.1 (List.of_mem_zip hx).1
  have h2 : x.1.length = 32 := by rw [← e]; exact (hok.t _ hy).1
  simp [tcell, bl, h2]
section
variable {w : World} {O : Nat → Prop} {g : Nat} {R : RF} {tv kv av : Value} {vs : List Value} {ds : List (List UInt8 × Bk × Value)}
theorem RIn.tid (h : RIn w O g R tv kv av vs ds) (hok : ROk R) {i : Nat} (hi : i < R.T.length) : ∃ b o c, tv = .slice (some ⟨b, o, none⟩) R.T.length c ∧ b < w.heap.size ∧ ∃ v, vs[i]? = some v ∧ ∀ W, Below w.heap.size w W → readCells W ⟨b, o + i * 33, none⟩ 0 32 = some (bl (R.T[i]).1) ∧ W.cell? ⟨b, o + i * 33 + 32, none⟩ = some v := by
  obtain ⟨-, tA, tc, rfl⟩ := own_sl h.trow
  have hzl : ((R.T.map Prod.fst).zip vs).length = R.T.length := by simp [h.vlen]
  have hr := Rd.of_own h.trow
  rw [← hzl] at hr
  have hiz : i < ((R.T.map Prod.fst).zip vs).length := by omega
  obtain ⟨b, o, rfl, hb, hat⟩ := rd_rec (rtcell_len hok) hr hiz
  have hiv : i < vs.length := by rw [h.vlen]; exact hi
  have he : ((R.T.map Prod.fst).zip vs)[i] = ((R.T[i]).1, vs[i]) := by simp
  have l32 : (bl (R.T[i]).1).length = 32 := by rw [bl_length]; exact (hok.t _ (List.getElem_mem hi)).1
  have e2 : tcell ((R.T[i]).1, vs[i]) = bl (R.T[i]).1 ++ [vs[i]] := rfl
  refine ⟨b, o, tc, rfl, hb, vs[i], List.getElem?_eq_getElem hiv, fun W hW => ⟨readCells_cells 32 0 _ l32 fun j v hj => ?_, ?_⟩⟩
  · rw [Nat.add_zero]
    refine hat W hW j v ?_
    rw [he, e2]
    rw [List.getElem?_append_left (List.getElem?_eq_some_iff.1 hj).1]
    exact hj
  · refine hat W hW 32 _ ?_
    rw [he, e2, List.getElem?_append_right (by omega), l32]
    rfl
set_option maxHeartbeats 12800000 in
theorem rmissing_any (h : RIn w O g R tv kv av vs ds) (hok : ROk R) :
    callE Tryz.prog 66 #[.pointer (some ⟨g, 0, none⟩)] w fun r w' => w'.ownsRow w.heap.size 27 32 r (missR R).length (flatI (missR R)) ∧ (∀ x ∈ missR R, x.length = 32) ∧ (missR R).length ≤ 32 ∧ Below w.heap.size w w' := by
  have htn := hok.tn
  obtain ⟨-, tA, tc, etv⟩ := own_sl h.trow
  refine calls_E Tryz.func66 rfl rfl rfl (Nat.le_of_ble_eq_true rfl) ?_
  simp [go_sem, IntWalk.iteOmega, IntWalk.toNatUp]
  refine W_loop (fun st wr => ∃ (i : Nat) (out : List (List UInt8)) (ov : Value), i ≤ R.T.length ∧ st 0 = .pointer (some ⟨g, 0, none⟩) ∧ st 3 = ov ∧ st 4 = .int .i64 i ∧ wr.ownsRow w.heap.size 27 32 ov out.length (flatI out) ∧ out = (R.T.take i).foldl (missStepR R) [] ∧ (∀ x ∈ out, x.length = 32) ∧ out.length ≤ i ∧ Below w.heap.size w wr) (fun st _ => R.T.length - (intOf (st 4)).toNat) ?_ ?_
  · exact ⟨0, [], .slice none 0 0, by omega, by simp [go_sem], by simp [go_sem], by simp [go_sem], World.ownsRow_nil _ _ _ _, rfl, by simp, by simp, Below.refl _ _⟩
  · rintro st wr ⟨i, out, ov, hi, e0, e3, e4, hov, hout, ho32, hon, hB⟩
    have hw := h.keep hB
    have c34 := hw.c34 hok
    rw [etv] at c34
    by_cases hlt : i < R.T.length
    · have hlt' : (i : Int) < R.T.length := by omega
      obtain ⟨b, o, tc', e, hb, tv', -, hat⟩ := h.tid hok hlt
      rw [e] at etv
      injection etv with ev1 ev2 ev3
      subst ev1 ev3
      have xt := (hat wr hB).1
      have ht32 := (hok.t _ (List.getElem_mem hlt)).1
      have hstep : (R.T.take (i + 1)).foldl (missStepR R) [] = missStepR R out R.T[i] := by
        rw [take_snoc' hlt, List.foldl_append, ← hout]
        rfl
      obtain ⟨tt, htt⟩ : ∃ tt, tt = R.T[i] := ⟨_, rfl⟩
      rw [← htt] at xt ht32 hstep
      simp [go_sem, IntWalk.iteOmega, IntWalk.toNatUp, e0, e3, e4, c34, hlt, hlt', xt]
      refine callE_of (rway_any hw hok ht32) ?_
      rintro _ w2 ⟨lv, rfl, -, hend32, k2⟩
      obtain ⟨Z, hZ⟩ : ∃ Z, wayR R (R.K.length + 1) [] tt.1 = Z := ⟨_, rfl⟩
      rw [hZ] at hend32 ⊢
      have hstep2 : missStepR R out tt = if Z.2.2 ≠ 0 ∨ Z.2.1 ∈ out then out else out ++ [Z.2.1] := by
        unfold missStepR endR
        rw [hZ]
      have hB2 := hB.trans (k2.mono hB.size)
      have hov2 := row_below hov k2
      have lZ : (bl Z.2.1).length = 32 := by rw [bl_length]; exact hend32
      have y2 : ∀ (k : Array Value) (t : TypeId), k.size = 32 → canWrite (w2.alloc (.cells k t)) ⟨w2.heap.size, 0, none⟩ 0 32 = true := fun k t hk => canWrite_all (Blk.self_ rfl) 32 hk
      have y3 : ∀ (k : Array Value) (t : TypeId) (l : List Value), k.size = 32 → l.length = 32 → storeSeg (w2.alloc (.cells k t)) ⟨w2.heap.size, 0, none⟩ 0 l = (w2.alloc (.cells k t)).setRow w2.heap.size l.toArray := fun k t l hk hl => storeSeg_all (Blk.self_ rfl) l (by omega)
      have hq0 : ∀ W : World, W = W := fun _ => rfl
      simp [go_sem, IntWalk.iteOmega, IntWalk.toNatUp, e0, e3, e4, y2, y3, lZ, bl_one]
      rw [← zeroI_lit]
      have kV : Below w2.heap.size w2 ((w2.alloc (.cells zeroI.toArray 27)).setRow w2.heap.size (bl Z.2.1).toArray) := below_setRow (ext_alloc w2 _) (Nat.le_refl _) _
      have hV : Blk ((w2.alloc (.cells zeroI.toArray 27)).setRow w2.heap.size (bl Z.2.1).toArray) w2.heap.size 27 (bl Z.2.1).toArray := Blk_setRow (Blk.self_ rfl)
      have hov3 := row_below hov2 kV
      have hB3 := hB2.trans (kV.mono hB2.size)
      have hqb : ∀ j, ov.ownBlock = some j → j < w2.heap.size := fun j hj => (hov2.lt j hj).2
      generalize (w2.alloc (.cells zeroI.toArray 27)).setRow w2.heap.size (bl Z.2.1).toArray = w3 at *
      generalize w2.heap.size = q at *
      clear y2 y3 kV hov2 hB2 xt hat hq0 k2
      have hhow : ∃ hb : Bool, hb = (Z.2.2 != 0) := ⟨_, rfl⟩
      obtain ⟨hb0, hhb⟩ := hhow
      rw [← hhb]
      obtain ⟨-, oA, oc, rfl⟩ := own_sl hov3
      refine W_loop (fun st wz => ∃ j : Nat, j ≤ out.length ∧ st 0 = .pointer (some ⟨g, 0, none⟩) ∧ st 3 = .slice oA out.length oc ∧ st 4 = .int .i64 i ∧ st 6 = .pointer (some ⟨q, 0, none⟩) ∧ st 8 = .bool (hb0 || decide (Z.2.1 ∈ out.take j)) ∧ st 9 = .int .i64 j ∧ Below w3.heap.size w3 wz) (fun st _ => out.length - (intOf (st 9)).toNat) ?_ ?_
      · exact ⟨0, by omega, by simp [go_sem, e0], by simp [go_sem, e3], by simp [go_sem, e4], by simp [go_sem], by simp [go_sem], by simp [go_sem], Below.refl _ _⟩
      clear e0 e3 e4
      rintro s4 w4 ⟨j, hj, e0, e3, e4, e6, e8, e9, hB4⟩
      by_cases hjl : j < out.length
      · have hjI : (j : Int) < out.length := by omega
        obtain ⟨nb, no, rfl, hnb, hnat⟩ := rd_name (Rd.of_own hov3) ho32 hjl
        have hx32 := ho32 _ (List.getElem_mem hjl)
        have xd := hnat w4.drew hB4.drew
        have xV := readCells_all (hV.keep hB4).drew 32 (by simpa using lZ)
        have hmem : (Z.2.1 ∈ out.take (j + 1)) ↔ (Z.2.1 ∈ out.take j ∨ out[j] = Z.2.1) := by
          rw [take_snoc' hjl, List.mem_append, List.mem_singleton]
          exact or_congr Iff.rfl eq_comm
        have hqe := fun W => id_eq out[j] Z.2.1 hx32 hend32 W
        simp [go_sem, IntWalk.iteOmega, IntWalk.toNatUp, e0, e3, e4, e6, e9, hjl, hjI]
        refine W_still follows (by kernel_rfl) ?_
        by_cases hc : hb0 = true ∨ Z.2.1 ∈ out.take j
        · have hcb : (hb0 || decide (Z.2.1 ∈ out.take j)) = true := by simpa using hc
          have hcb2 : (hb0 || decide (Z.2.1 ∈ out.take (j + 1))) = true := by
            rw [Bool.or_eq_true, decide_eq_true_iff]
            exact hc.imp (fun h => h) fun h => hmem.2 (.inl h)
          rw [hcb] at e8
          simp [go_sem, IntWalk.iteOmega, IntWalk.toNatUp, e0, e3, e4, e6, e8, e9, hjl, hjI]
          refine roundEnd.mk ⟨j + 1, by omega, by simp [go_sem, e0], by simp [go_sem, e3], by simp [go_sem, e4], by simp [go_sem, e6], by rw [hcb2]; simp [go_sem], by simp [go_sem], hB4.drew⟩ ?_
          simp [go_sem, intOf, e9]; omega
        · have hcb : (hb0 || decide (Z.2.1 ∈ out.take j)) = false := by
            rw [Bool.eq_false_iff]
            intro hh
            rw [Bool.or_eq_true, decide_eq_true_iff] at hh
            exact hc hh
          rw [hcb] at e8
          by_cases hx : out[j] = Z.2.1
          · have hx' : (out[j] == Z.2.1) = true := by simpa using hx
            have hcb2 : (hb0 || decide (Z.2.1 ∈ out.take (j + 1))) = true := by
              rw [Bool.or_eq_true, decide_eq_true_iff]
              exact .inr (hmem.2 (.inr hx))
            simp [go_sem, IntWalk.iteOmega, IntWalk.toNatUp, e0, e3, e4, e6, e8, e9, hjl, hjI, xd, xV, hqe, hx']
            refine roundEnd.mk ⟨j + 1, by omega, by simp [go_sem, e0], by simp [go_sem, e3], by simp [go_sem, e4], by simp [go_sem, e6], by rw [hcb2]; simp [go_sem], by simp [go_sem], hB4.drew⟩ ?_
            simp [go_sem, intOf, e9]; omega
          · have hx' : (out[j] == Z.2.1) = false := by simpa using hx
            have hcb2 : (hb0 || decide (Z.2.1 ∈ out.take (j + 1))) = false := by
              rw [Bool.eq_false_iff]
              intro hh
              rw [Bool.or_eq_true, decide_eq_true_iff] at hh
              rcases hh with hh | hh
              · exact hc (.inl hh)
              · exact (hmem.1 hh).elim (fun h => hc (.inr h)) hx
            simp [go_sem, IntWalk.iteOmega, IntWalk.toNatUp, e0, e3, e4, e6, e8, e9, hjl, hjI, xd, xV, hqe, hx']
            refine roundEnd.mk ⟨j + 1, by omega, by simp [go_sem, e0], by simp [go_sem, e3], by simp [go_sem, e4], by simp [go_sem, e6], by rw [hcb2]; simp [go_sem], by simp [go_sem], hB4.drew⟩ ?_
            simp [go_sem, intOf, e9]; omega
      · obtain rfl : j = out.length := by omega
        rw [List.take_of_length_le (Nat.le_refl _)] at e8
        have hB34 := hB3.trans (hB4.mono hB3.size)
        have hov4 := row_below hov3 hB4
        by_cases hc : hb0 = true ∨ Z.2.1 ∈ out
        · have hcb : (hb0 || decide (Z.2.1 ∈ out)) = true := by simpa using hc
          have hstep3 : missStepR R out tt = out := by
            rw [hstep2, if_pos (hc.imp (fun h => by rw [hhb] at h; simpa using h) fun h => h)]
          rw [hcb] at e8
          simp [go_sem, IntWalk.iteOmega, IntWalk.toNatUp, e0, e3, e4, e6, e8, e9]
          refine roundEnd.mk ⟨i + 1, out, _, by omega, by simp [go_sem, e0], by simp [go_sem, e3], by simp [go_sem], hov4, by rw [hstep, hstep3], ho32, by omega, hB34⟩ ?_
          simp [go_sem, intOf, e4]; omega
        · have hcb : (hb0 || decide (Z.2.1 ∈ out)) = false := by
            rw [Bool.eq_false_iff]
            intro hh
            rw [Bool.or_eq_true, decide_eq_true_iff] at hh
            exact hc hh
          have hstep3 : missStepR R out tt = out ++ [Z.2.1] := by
            rw [hstep2, if_neg fun hh => hc (hh.imp (fun h => by rw [hhb]; simpa using h) fun h => h)]
          rw [hcb] at e8
          have xV := readCells_all (hV.keep hB4) 32 (by simpa using lZ)
          simp [go_sem, IntWalk.iteOmega, IntWalk.toNatUp, e0, e3, e4, e6, e8, e9, xV, lZ]
          rw [fold_i (bl Z.2.1) lZ]
          have kI := ext_alloc w4 (.cells (bl Z.2.1).toArray 27)
          have hrI := rd_one (Blk.self_ (w := w4) (t := 27) (cs := (bl Z.2.1).toArray) rfl) lZ
          have hov5 := row_below hov4 kI
          have hB5 := hB34.trans (kI.mono hB34.size)
          generalize w4.alloc (.cells (bl Z.2.1).toArray 27) = w5 at *
          refine appendE w.heap.size 27 32 32 Tryz.underlying37 el27 hov5 hrI (bl_one Z.2.1) (by unfold maxLen; omega) (by omega) hB5.size ?_
          intro v' w6 hr6 hg6 hb6
          have hB6 := hB5.grown hg6 hB5.size fun j hj => (hov5.lt j hj).1
          simp [go_sem, IntWalk.iteOmega, IntWalk.toNatUp, e0, e4]
          refine roundEnd.mk ⟨i + 1, out ++ [Z.2.1], v', by omega, by simp [go_sem, e0], by simp [go_sem], by simp [go_sem], ?_, by rw [hstep, hstep3], ?_, by rw [List.length_append]; show out.length + 1 ≤ i + 1; omega, hB6⟩ ?_
          · have e1 : flatI out ++ bl Z.2.1 = flatI (out ++ [Z.2.1]) := by simp [flatI]
            rw [e1] at hr6
            rw [List.length_append]
            exact hr6
          · intro x hx
            rcases List.mem_append.1 hx with hx | hx
            · exact ho32 x hx
            · obtain rfl : x = Z.2.1 := by simpa using hx
              exact hend32
          · simp [go_sem, intOf, e4]; omega
    · obtain rfl : i = R.T.length := by omega
      have hlt' : ¬ (R.T.length : Int) < R.T.length := by omega
      rw [List.take_of_length_le (Nat.le_refl _)] at hout
      change out = missR R at hout
      subst hout
      simp [go_sem, IntWalk.iteOmega, IntWalk.toNatUp, e0, e3, e4, c34, hlt']
      exact ⟨hov, ho32, by omega, hB⟩
end
def nowR (R : RF) (id : List UInt8) : Bool := ((atL id R.A).map Prod.snd).getD false
noncomputable def wantsR (R : RF) : List (List UInt8) := (missR R).filter fun x => !nowR R x
section
variable {w : World} {O : Nat → Prop} {g : Nat} {R : RF} {tv kv av : Value} {vs : List Value} {ds : List (List UInt8 × Bk × Value)}
theorem RIn.acell (h : RIn w O g R tv kv av vs ds) (hok : ROk R) {k : Nat} (hk : k < R.A.length) : ∃ b c, av = .slice (some ⟨b, 0, none⟩) R.A.length c ∧ b < w.heap.size ∧ ∀ W, Below w.heap.size w W → W.cell? ⟨b, k * 34 + 32, none⟩ = some (.int .i64 (R.A[k]).2.1) ∧ W.cell? ⟨b, k * 34 + 33, none⟩ = some (.bool (R.A[k]).2.2) := by
  have harow := h.arow
  obtain ⟨-, aA, ac, rfl⟩ := own_sl harow
  have hr := Rd.of_own harow
  have hao : ∃ b, aA = some ⟨b, 0, none⟩ := by
    rcases harow.2 with ⟨e, h0⟩ | ⟨gg, cap, cur, e, _⟩
    · omega
    · injection e with e1
      exact ⟨gg, e1⟩
  obtain ⟨b0, rfl⟩ := hao
  obtain ⟨b, o, e, hb, hat⟩ := rd_rec (aEnc_len hok) hr hk
  injection e with e
  injection e with e1 e2
  subst e1 e2
  have l32 : (bl (R.A[k]).1).length = 32 := by rw [bl_length]; exact (hok.a _ (List.getElem_mem hk)).1
  have e3 : aEnc R.A[k] = bl (R.A[k]).1 ++ [.int .i64 (R.A[k]).2.1, .bool (R.A[k]).2.2] := rfl
  refine ⟨b0, ac, rfl, hb, fun W hW => ⟨?_, ?_⟩⟩
  · have := hat W hW 32 (.int .i64 (R.A[k]).2.1) (by rw [e3, List.getElem?_append_right (by omega), l32]; rfl)
    rw [Nat.zero_add] at this
    exact this
  · have := hat W hW 33 (.bool (R.A[k]).2.2) (by rw [e3, List.getElem?_append_right (by omega), l32]; rfl)
    rw [Nat.zero_add] at this
    exact this
set_option maxHeartbeats 12800000 in
theorem rwants_any (h : RIn w O g R tv kv av vs ds) (hok : ROk R) :
    callE Tryz.prog 34 #[.pointer (some ⟨g, 0, none⟩)] w fun r w' => w'.ownsRow w.heap.size 27 32 r (wantsR R).length (flatI (wantsR R)) ∧ (∀ x ∈ wantsR R, x.length = 32) ∧ (wantsR R).length ≤ 32 ∧ Below w.heap.size w w' := by
  have han := hok.an
  refine calls_E Tryz.func34 rfl rfl rfl (Nat.le_of_ble_eq_true rfl) ?_
  simp [go_sem, IntWalk.iteOmega, IntWalk.toNatUp]
  refine callE_of (rmissing_any h hok) ?_
  rintro mv w1 ⟨hmv, hm32, hmn, k1⟩
  have hwr : wantsR R = (missR R).filter fun x => !nowR R x := rfl
  generalize missR R = M at *
  have h1 := h.keep k1
  obtain ⟨-, mA, mc, rfl⟩ := own_sl hmv
  simp [go_sem, IntWalk.iteOmega, IntWalk.toNatUp]
  refine W_loop (fun st wr => ∃ (i : Nat) (ov : Value), i ≤ M.length ∧ st 0 = .pointer (some ⟨g, 0, none⟩) ∧ st 3 = .slice mA M.length mc ∧ st 4 = ov ∧ st 5 = .int .i64 i ∧ wr.ownsRow w1.heap.size 27 32 ov ((M.take i).filter fun x => !nowR R x).length (flatI ((M.take i).filter fun x => !nowR R x)) ∧ Below w1.heap.size w1 wr) (fun st _ => M.length - (intOf (st 5)).toNat) ?_ ?_
  · exact ⟨0, .slice none 0 0, by omega, by simp [go_sem], by simp [go_sem], by simp [go_sem], by simp [go_sem], World.ownsRow_nil _ _ _ _, Below.refl _ _⟩
  · rintro st wr ⟨i, ov, hi, e0, e3, e4, e5, hov, hB⟩
    by_cases hlt : i < M.length
    · have hlt' : (i : Int) < M.length := by omega
      obtain ⟨nb, no, rfl, hnb, hnat⟩ := rd_name (Rd.of_own hmv) hm32 hlt
      have hx32 := hm32 _ (List.getElem_mem hlt)
      have hw := h1.keep hB
      have hfil : (M.take (i + 1)).filter (fun x => !nowR R x) = (M.take i).filter (fun x => !nowR R x) ++ (if nowR R M[i] = false then [M[i]] else []) := by
        rw [take_snoc' hlt, List.filter_append]
        congr 1
        simp only [List.filter_cons, List.filter_nil]
        cases nowR R M[i] <;> rfl
      have hfl : ((M.take i).filter fun x => !nowR R x).length ≤ i := by
        have := List.length_filter_le (fun x => !nowR R x) (M.take i)
        rw [List.length_take] at this
        omega
      obtain ⟨x, hx⟩ : ∃ x, x = M[i] := ⟨_, rfl⟩
      rw [← hx] at hx32 hfil
      simp only [← hx] at hnat
      have lx : (bl x).length = 32 := by rw [bl_length]; exact hx32
      have xn := hnat wr hB
      simp [go_sem, IntWalk.iteOmega, IntWalk.toNatUp, e0, e3, e4, e5, hlt, hlt', xn]
      refine callE_of (rasked_any hw hok hx32) ?_
      rintro _ w2 ⟨hcase, k2⟩
      have hB2 := hB.trans (k2.mono hB.size)
      have hov2 := row_below hov k2
      have hw2 := hw.keep k2
      have xn2 := hnat w2 hB2
      generalize (M.take i).filter (fun x => !nowR R x) = P at *
      rcases hcase with ⟨k, hk, rfl, hka, hkno⟩ | ⟨rfl, hno⟩
      · have hnow : nowR R x = (R.A[k]).2.2 := by
          unfold nowR
          rw [atL_first hk hka hkno]
          rfl
        have c36 := hw2.c36 hok
        obtain ⟨ab, ac, rfl, hab, hac⟩ := hw2.acell hok hk
        have xa := (hac w2 (Below.refl _ _)).2
        rw [← hnow] at xa
        have hkI : (k : Int) < R.A.length := by omega
        have hk0 : ¬ (k : Int) < 0 := by omega
        cases hb : nowR R x with
        | true =>
          rw [hb] at xa hfil
          simp [go_sem, IntWalk.iteOmega, IntWalk.toNatUp, e0, e3, e4, e5, hk, hkI, hk0, c36, xa]
          refine roundEnd.mk ⟨i + 1, ov, by omega, by simp [go_sem, e0], by simp [go_sem, e3], by simp [go_sem, e4], by simp [go_sem], by rw [hfil]; simpa using hov2, hB2⟩ ?_
          simp [go_sem, intOf, e5]; omega
        | false =>
          rw [hb] at xa hfil
          simp [go_sem, IntWalk.iteOmega, IntWalk.toNatUp, e0, e3, e4, e5, hk, hkI, hk0, c36, xa, xn2, hlt, hlt', lx]
          rw [fold_i (bl x) lx]
          have kI := ext_alloc w2 (.cells (bl x).toArray 27)
          have hrI := rd_one (Blk.self_ (w := w2) (t := 27) (cs := (bl x).toArray) rfl) lx
          have hov5 := row_below hov2 kI
          have hB5 := hB2.trans (kI.mono hB2.size)
          generalize w2.alloc (.cells (bl x).toArray 27) = w5 at *
          refine appendE w1.heap.size 27 32 32 Tryz.underlying37 el27 hov5 hrI (bl_one x) (by unfold maxLen; omega) (by omega) hB5.size ?_
          intro v' w6 hr6 hg6 hb6
          have hB6 := hB5.grown hg6 hB5.size fun j hj => (hov5.lt j hj).1
          rw [if_pos rfl] at hfil
          simp [go_sem, IntWalk.iteOmega, IntWalk.toNatUp, e0, e3, e5]
          refine roundEnd.mk ⟨i + 1, v', by omega, by simp [go_sem, e0], by simp [go_sem, e3], by simp [go_sem], by simp [go_sem], ?_, hB6⟩ ?_
          · have e1 : flatI P ++ bl x = flatI (P ++ [x]) := by simp [flatI]
            rw [e1] at hr6
            rw [hfil, List.length_append]
            exact hr6
          · simp [go_sem, intOf, e5]; omega
      · have hnow : nowR R x = false := by
          unfold nowR
          rw [atL_no hno]
          rfl
        rw [hnow] at hfil
        simp [go_sem, IntWalk.iteOmega, IntWalk.toNatUp, e0, e3, e4, e5, xn2, hlt, hlt', lx]
        rw [fold_i (bl x) lx]
        have kI := ext_alloc w2 (.cells (bl x).toArray 27)
        have hrI := rd_one (Blk.self_ (w := w2) (t := 27) (cs := (bl x).toArray) rfl) lx
        have hov5 := row_below hov2 kI
        have hB5 := hB2.trans (kI.mono hB2.size)
        generalize w2.alloc (.cells (bl x).toArray 27) = w5 at *
        refine appendE w1.heap.size 27 32 32 Tryz.underlying37 el27 hov5 hrI (bl_one x) (by unfold maxLen; omega) (by omega) hB5.size ?_
        intro v' w6 hr6 hg6 hb6
        have hB6 := hB5.grown hg6 hB5.size fun j hj => (hov5.lt j hj).1
        rw [if_pos rfl] at hfil
        simp [go_sem, IntWalk.iteOmega, IntWalk.toNatUp, e0, e3, e5]
        refine roundEnd.mk ⟨i + 1, v', by omega, by simp [go_sem, e0], by simp [go_sem, e3], by simp [go_sem], by simp [go_sem], ?_, hB6⟩ ?_
        · have e1 : flatI P ++ bl x = flatI (P ++ [x]) := by simp [flatI]
          rw [e1] at hr6
          rw [hfil, List.length_append]
          exact hr6
        · simp [go_sem, intOf, e5]; omega
    · obtain rfl : i = M.length := by omega
      have hlt' : ¬ (M.length : Int) < M.length := by omega
      rw [List.take_of_length_le (Nat.le_refl _), ← hwr] at hov
      simp [go_sem, IntWalk.iteOmega, IntWalk.toNatUp, e0, e3, e4, e5, hlt']
      refine ⟨own_mono hov k1.size, fun x hx => hm32 x ?_, ?_, k1.trans (hB.mono k1.size)⟩
      · rw [hwr] at hx
        exact (List.mem_filter.1 hx).1
      · rw [hwr]
        exact Nat.le_trans (List.length_filter_le _ _) hmn
theorem rdone_any (h : RIn w O g R tv kv av vs ds) (hok : ROk R) : callE Tryz.prog 74 #[.pointer (some ⟨g, 0, none⟩)] w fun r w' => r = .bool (decide (missR R = [])) ∧ Below w.heap.size w w' := by
  refine calls_E Tryz.func74 rfl rfl rfl (Nat.le_of_ble_eq_true rfl) ?_
  simp [go_sem, IntWalk.iteOmega, IntWalk.toNatUp]
  refine callE_of (rmissing_any h hok) ?_
  rintro mv w1 ⟨hmv, hm32, hmn, k1⟩
  obtain ⟨-, mA, mc, rfl⟩ := own_sl hmv
  by_cases hm : missR R = []
  · rw [hm]
    simp [go_sem, IntWalk.iteOmega, IntWalk.toNatUp]
    exact k1
  · have h0 : ¬ ((missR R).length : Int) = 0 := by
      have := List.length_pos_iff.2 hm
      omega
    have h0' : (((missR R).length : Int) == 0) = false := by
      rw [beq_eq_false_iff_ne]
      exact h0
    simp [go_sem, IntWalk.iteOmega, IntWalk.toNatUp, hm, h0, h0']
    exact k1
open Classical in
noncomputable def stateR (R : RF) (id : List UInt8) : Int × Int := if ∀ t ∈ R.T, t.1 ≠ id then (0, 4) else ((endR R id).2.2, 0)
set_option maxHeartbeats 12800000 in
theorem rstate_any (h : RIn w O g R tv kv av vs ds) (hok : ROk R) {id : List UInt8} (hid : id.length = 32) :
    callE Tryz.prog 72 #[.pointer (some ⟨g, 0, none⟩), .agg (bl id).toArray] w fun r w' => r = .tuple #[.int .i64 (stateR R id).1, .int .i64 (stateR R id).2] ∧ Below w.heap.size w w' := by
  have htn := hok.tn
  have l32 : (bl id).length = 32 := by rw [bl_length]; exact hid
  have kA := ext_alloc w (.cells (bl id).toArray 27)
  have hI : Blk (w.alloc (.cells (bl id).toArray 27)) w.heap.size 27 (bl id).toArray := Blk.self_ rfl
  obtain ⟨-, tA, tc, etv⟩ := own_sl h.trow
  refine calls_E Tryz.func72 rfl rfl rfl (Nat.le_of_ble_eq_true rfl) ?_
  simp [go_sem, IntWalk.iteOmega, IntWalk.toNatUp]
  generalize w.alloc (.cells (bl id).toArray 27) = w1 at *
  refine W_loop (fun st wr => ∃ i : Nat, i ≤ R.T.length ∧ st 0 = .pointer (some ⟨g, 0, none⟩) ∧ st 3 = .pointer (some ⟨w.heap.size, 0, none⟩) ∧ st 6 = .int .i64 i ∧ (∀ m (hm : m < R.T.length), m < i → (R.T[m]).1 ≠ id) ∧ Below w1.heap.size w1 wr) (fun st _ => R.T.length - (intOf (st 6)).toNat) ?_ ?_
  · exact ⟨0, by omega, by simp [go_sem], by simp [go_sem], by simp [go_sem], fun m hm h => by omega, Below.refl _ _⟩
  · rintro st wr ⟨i, hi, e0, e3, e6, hno, hB⟩
    have kw := kA.trans (hB.mono kA.size)
    have hw := h.keep kw
    have c34 := hw.c34 hok
    rw [etv] at c34
    have c34d : wr.drew.cell? ⟨g, 34, none⟩ = some (.slice tA R.T.length tc) := c34
    by_cases hlt : i < R.T.length
    · have hlt' : (i : Int) < R.T.length := by omega
      obtain ⟨b, o, tc', e, hb, tv', -, hat⟩ := h.tid hok hlt
      rw [e] at etv
      injection etv with ev1 ev2 ev3
      subst ev1 ev3
      have x1d := (hat wr.drew kw.drew).1
      have x2d := readCells_all (hI.keep hB).drew 32 (by simpa using l32)
      have x2 := readCells_all (hI.keep hB) 32 (by simpa using l32)
      have ht32 := (hok.t _ (List.getElem_mem hlt)).1
      have hqe := fun W => id_eq (R.T[i]).1 id ht32 hid W
      simp [go_sem, IntWalk.iteOmega, IntWalk.toNatUp, e0, e3, e6, c34, hlt, hlt']
      refine W_still follows (by kernel_rfl) ?_
      by_cases hq : (R.T[i]).1 = id
      · have hq' : ((R.T[i]).1 == id) = true := by simpa using hq
        simp [go_sem, IntWalk.iteOmega, IntWalk.toNatUp, e0, e3, e6, c34d, hlt, hlt', x1d, x2d, hqe, hq']
        refine callE_of (rway_any (hw.keep (ext_drew wr)) hok hid) ?_
        rintro _ w2 ⟨lv, rfl, -, hend32, k2⟩
        have hst : stateR R id = ((endR R id).2.2, 0) := by
          unfold stateR
          rw [if_neg fun hh => hh _ (List.getElem_mem hlt) hq]
        obtain ⟨Z, hZ⟩ : ∃ Z, wayR R (R.K.length + 1) [] id = Z := ⟨_, rfl⟩
        have hZ2 : endR R id = Z := hZ
        rw [hst, hZ2]
        rw [hZ] at hend32 ⊢
        have lZ : (bl Z.2.1).length = 32 := by rw [bl_length]; exact hend32
        have y2 : ∀ (k : Array Value) (t : TypeId), k.size = 32 → canWrite (w2.alloc (.cells k t)) ⟨w2.heap.size, 0, none⟩ 0 32 = true := fun k t hk => canWrite_all (Blk.self_ rfl) 32 hk
        have y3 : ∀ (k : Array Value) (t : TypeId) (l : List Value), k.size = 32 → l.length = 32 → storeSeg (w2.alloc (.cells k t)) ⟨w2.heap.size, 0, none⟩ 0 l = (w2.alloc (.cells k t)).setRow w2.heap.size l.toArray := fun k t l hk hl => storeSeg_all (Blk.self_ rfl) l (by omega)
        simp [go_sem, IntWalk.iteOmega, IntWalk.toNatUp, e0, e3, e6, y2, y3, lZ, bl_one]
        have k12 := kw.drew.trans (k2.mono kw.drew.size)
        exact k12.trans ((below_setRow (ext_alloc w2 _) (Nat.le_refl _) _).mono k12.size)
      · have hq' : ((R.T[i]).1 == id) = false := by simpa using hq
        simp [go_sem, IntWalk.iteOmega, IntWalk.toNatUp, e0, e3, e6, c34d, hlt, hlt', x1d, x2d, hqe, hq']
        refine roundEnd.mk ⟨i + 1, by omega, by simp [go_sem, e0], by simp [go_sem, e3], by simp [go_sem], fun m hm h => ?_, hB.drew⟩ ?_
        · by_cases hmi : m = i
          · subst hmi; exact hq
          · exact hno m hm (by omega)
        · simp [go_sem, intOf, e6]; omega
    · have hlt' : ¬ (i : Int) < R.T.length := by omega
      have hst : stateR R id = (0, 4) := by
        unfold stateR
        rw [if_pos fun t ht => by
          obtain ⟨m, hm, rfl⟩ := List.getElem_of_mem ht
          exact hno m hm (by omega)]
      rw [hst]
      simp [go_sem, IntWalk.iteOmega, IntWalk.toNatUp, e0, e3, e6, c34, hlt, hlt']
      exact kw
end
theorem fold_r (x : List Value) (hx : x.length = 32) : List.foldl (fun (cs : Array Value) (x : Value × Nat) => cs.setIfInBounds x.snd x.fst) #[Value.int IntKind.u8 0, Value.int IntKind.u8 0, Value.int IntKind.u8 0, Value.int IntKind.u8 0, Value.int IntKind.u8 0, Value.int IntKind.u8 0, Value.int IntKind.u8 0, Value.int IntKind.u8 0, Value.int IntKind.u8 0, Value.int IntKind.u8 0, Value.int IntKind.u8 0, Value.int IntKind.u8 0, Value.int IntKind.u8 0, Value.int IntKind.u8 0, Value.int IntKind.u8 0, Value.int IntKind.u8 0, Value.int IntKind.u8 0, Value.int IntKind.u8 0, Value.int IntKind.u8 0, Value.int IntKind.u8 0, Value.int IntKind.u8 0, Value.int IntKind.u8 0, Value.int IntKind.u8 0, Value.int IntKind.u8 0, Value.int IntKind.u8 0, Value.int IntKind.u8 0, Value.int IntKind.u8 0, Value.int IntKind.u8 0, Value.int IntKind.u8 0, Value.int IntKind.u8 0, Value.int IntKind.u8 0, Value.int IntKind.u8 0, Value.int IntKind.i64 0, Value.int IntKind.i64 0, Value.slice none 0 0, Value.slice none 0 0, Value.slice none 0 0] x.zipIdx = (x ++ [Value.int .i64 0, Value.int .i64 0, Value.slice none 0 0, Value.slice none 0 0, Value.slice none 0 0]).toArray := by
  rw [foldl_set x 0 _ (by rw [hx]; decide), hx]
  rfl
set_option maxHeartbeats 3200000 in
theorem r22new_any {w : World} {last : List UInt8} {height room : Int} (hl : last.length = 32) (hpos : 0 < w.heap.size) :
    callE Tryz.prog 33 #[.agg (bl last).toArray, .int .i64 height, .int .i64 room] w fun r w' =>
      ((height < 0 ∨ room < 1 ∨ 4096 < room) ∧ r = .tuple #[.pointer none, .int .i64 1] ∨
      (¬ (height < 0 ∨ room < 1 ∨ 4096 < room) ∧ ∃ g O, r = .tuple #[.pointer (some ⟨g, 0, none⟩), .int .i64 0] ∧ RAt w' O g ⟨last, height, room, [], [], []⟩ ∧ ∀ j, O j → w.heap.size ≤ j)) ∧ Below w.heap.size w w' := by
  have l32 : (bl last).length = 32 := by rw [bl_length]; exact hl
  have kA := ext_alloc w (.cells (bl last).toArray 27)
  refine calls_E Tryz.func33 rfl rfl rfl (Nat.le_of_ble_eq_true rfl) ?_
  by_cases h1 : height < 0
  · simp [go_sem, IntWalk.iteOmega, IntWalk.toNatUp, h1]
    exact kA
  · by_cases h2 : room < 1
    · simp [go_sem, IntWalk.iteOmega, IntWalk.toNatUp, h1, h2]
      exact kA
    · by_cases h3 : 4096 < room
      · simp [go_sem, IntWalk.iteOmega, IntWalk.toNatUp, h1, h2, h3]
        exact kA
      · have hI : Blk (w.alloc (.cells (bl last).toArray 27)) w.heap.size 27 (bl last).toArray := Blk.self_ rfl
        have x1 := readCells_all hI 32 (by simpa using l32)
        have hfd := fold_r (bl last) l32
        simp [go_sem, IntWalk.iteOmega, IntWalk.toNatUp, h1, h2, h3, x1, hfd, l32]
        have hR : Blk ((w.alloc (.cells (bl last).toArray 27)).alloc (.cells (rcells last height room (.slice none 0 0) (.slice none 0 0) (.slice none 0 0)).toArray 125)) (w.heap.size + 1) 125 (rcells last height room (.slice none 0 0) (.slice none 0 0) (.slice none 0 0)).toArray := Blk.self_ (by simp)
        refine ⟨?_, kA.alloc kA.size _⟩
        exact ⟨fun j => j = w.heap.size + 1, ⟨.slice none 0 0, .slice none 0 0, .slice none 0 0, [], [], rfl, fun j hj => by subst hj; exact hR.lt, by omega, hR, World.ownsRow_nil _ _ _ _, by simp [Value.ownBlock], rfl, by simp, World.ownsRow_nil _ _ _ _, by simp [Value.ownBlock], rfl, by simp, World.ownsRow_nil _ _ _ _, by simp [Value.ownBlock]⟩, fun j hj => by omega⟩
/-! a cell of an own row of records turned -/
theorem rec_set {α : Type} {m : Nat} {enc : α → List Value} : ∀ (xs : List α) (hlen : ∀ x ∈ xs, (enc x).length = m) (k : Nat) (hk : k < xs.length) (x' : α) (j : Nat) (v : Value), j < m → enc x' = (enc xs[k]).set j v → (xs.flatMap enc).set (k * m + j) v = (xs.set k x').flatMap enc
  | [], _, k, hk, _, _, _, _, _ => by simp at hk
  | y :: l, hl, 0, hk, x', j, v, hj, he => by
    have hy : (enc y).length = m := hl y (by simp)
    show (enc y ++ l.flatMap enc).set (0 * m + j) v = enc x' ++ l.flatMap enc
    rw [Nat.zero_mul, Nat.zero_add, List.set_append_left _ _ (by omega), he]
    rfl
  | y :: l, hl, k + 1, hk, x', j, v, hj, he => by
    have hy : (enc y).length = m := hl y (by simp)
    show (enc y ++ l.flatMap enc).set ((k + 1) * m + j) v = enc y ++ (l.set k x').flatMap enc
    have e : (k + 1) * m + j = m + (k * m + j) := by rw [Nat.succ_mul]; omega
    rw [e, List.set_append_right _ _ (by omega), hy, Nat.add_sub_cancel_left, rec_set l (fun x hx => hl x (by simp [hx])) k (by simpa using hk) x' j v hj he]
def setA (a : List UInt8) (y : Int × Bool) : List (List UInt8 × Int × Bool) → List (List UInt8 × Int × Bool)
  | [] => []
  | x :: L => if a = x.1 then (x.1, y) :: L else x :: setA a y L
theorem setA_first {a : List UInt8} {y : Int × Bool} : ∀ {L : List (List UInt8 × Int × Bool)} {k : Nat} (hk : k < L.length), (L[k]).1 = a → (∀ m (hm : m < L.length), m < k → (L[m]).1 ≠ a) → setA a y L = L.set k (a, y)
  | [], k, hk, _, _ => by simp at hk
  | x :: L, 0, hk, h, _ => by
    have h' : x.1 = a := h
    unfold setA
    rw [if_pos h'.symm, h']
    rfl
  | x :: L, k + 1, hk, h, hno => by
    have h0 : x.1 ≠ a := hno 0 (by simp) (by omega)
    unfold setA
    rw [if_neg fun e => h0 e.symm, setA_first (L := L) (k := k) (by simpa using hk) h fun m hm hmk => hno (m + 1) (by simpa using hm) (by omega)]
    rfl
end Go.Proofs.YtdjcjjodbniebaaGreatDoor
