/-
  Texts joined: FREq, FPairS, FRTarget, Stru.
-/
import Derived.Test.YtdjcjjodbniebaaGreatDoorJoin43
import Derived.ChangeArms
namespace Go.Proofs.YtdjcjjodbniebaaGreatDoor
open Go.RowKit
set_option linter.unusedVariables false
set_option linter.unusedSimpArgs false
set_option maxRecDepth 10000
set_option maxHeartbeats 1600000 in
theorem equalN_any {w : World} {A B : Option Addr} {c d : Nat} {L M : List (List UInt8)} (hr : Rd w 32 A L.length (flatI L)) (hL : ∀ x ∈ L, x.length = 32) (hlen : L.length ≤ 100000) (hm : Rd w 32 B M.length (flatI M)) (hM : ∀ x ∈ M, x.length = 32) (hlen2 : M.length ≤ 100000) :
    callE Tryz.prog 75 #[.slice A L.length c, .slice B M.length d] w fun r w' => r = .bool (decide (L = M)) ∧ Below w.heap.size w w' := by
  refine calls_E Tryz.func75 rfl rfl rfl (Nat.le_of_ble_eq_true rfl) ?_
  by_cases hlm : L.length = M.length
  · have hlm' : ((L.length : Int) == M.length) = true := by rw [beq_iff_eq]; omega
    have hlmI : (L.length : Int) = M.length := by omega
    simp [go_sem, IntWalk.iteOmega, IntWalk.toNatUp, hlm, hlm', hlmI]
    refine W_loop (fun st wr => ∃ i : Nat, i ≤ M.length ∧ st 0 = .slice A M.length c ∧ st 1 = .slice B M.length d ∧ st 12 = .int .i64 M.length ∧ st 13 = .int .i64 i ∧ L.take i = M.take i ∧ Below w.heap.size w wr) (fun st _ => M.length - (intOf (st 13)).toNat) ?_ ?_
    · exact ⟨0, by omega, by simp [go_sem, hlm], by simp [go_sem], by simp [go_sem, hlm], by simp [go_sem], rfl, Below.refl _ _⟩
    · rintro st wr ⟨i, hi, e0, e1, e12, e13, heq, hB⟩
      by_cases hlt : i < M.length
      · have hlt' : (i : Int) < M.length := by omega
        obtain ⟨b, o, rfl, hb, hat⟩ := rd_name hr hL (i := i) (by omega)
        obtain ⟨b2, o2, rfl, hb2, hat2⟩ := rd_name hm hM hlt
        have hxL := hL _ (List.getElem_mem (show i < L.length by omega))
        have hxM := hM _ (List.getElem_mem hlt)
        have x1 := hat wr hB
        have x2 := hat2 wr hB
        have x1d := hat wr.drew hB.drew
        have x2d := hat2 wr.drew hB.drew
        have hqe := fun W => id_eq L[i] M[i] hxL hxM W
        have h1 : L.take (i + 1) = L.take i ++ [L[i]] := take_snoc' (by omega)
        have h2 : M.take (i + 1) = M.take i ++ [M[i]] := take_snoc' hlt
        generalize L[i] = x at *
        generalize M[i] = y at *
        simp [go_sem, IntWalk.iteOmega, IntWalk.toNatUp, e0, e1, e12, e13, hlt, hlt']
        refine W_still follows (by kernel_rfl) ?_
        by_cases hq : x = y
        · have hq' : (x == y) = true := by simpa using hq
          simp [go_sem, IntWalk.iteOmega, IntWalk.toNatUp, e0, e1, e12, e13, hlt, hlt', x1, x2, x1d, x2d, hqe, hq']
          refine roundEnd.mk ⟨i + 1, by omega, by simp [go_sem, e0], by simp [go_sem, e1], by simp [go_sem, e12], by simp [go_sem], by rw [h1, h2, heq, hq], hB.drew⟩ ?_
          simp [go_sem, intOf, e13]; omega
        · have hq' : (x == y) = false := by simpa using hq
          simp [go_sem, IntWalk.iteOmega, IntWalk.toNatUp, e0, e1, e12, e13, hlt, hlt', x1, x2, x1d, x2d, hqe, hq']
          refine ⟨?_, hB.drew⟩
          rintro rfl
          rw [h1] at h2
          exact hq (by simpa using h2)
      · obtain rfl : i = M.length := by omega
        have hlt' : ¬ (M.length : Int) < M.length := by omega
        simp [go_sem, IntWalk.iteOmega, IntWalk.toNatUp, e0, e1, e12, e13, hlt']
        refine ⟨?_, hB⟩
        rw [List.take_of_length_le (by omega), List.take_of_length_le (by omega)] at heq
        exact heq
  · have hlm' : ((L.length : Int) != M.length) = true := by rw [bne_iff_ne]; omega
    have hlmI : ¬ (L.length : Int) = M.length := by omega
    simp [go_sem, IntWalk.iteOmega, IntWalk.toNatUp, hlm, hlm', hlmI]
    refine ⟨?_, Below.refl _ _⟩
    rintro rfl
    exact hlm rfl
theorem state_rel {m : Nat} {S : FS} {R : RF} (h : Both m S R) (id : List UInt8) : stateR R id = stateF S id := state_eq h.rel.rel h.ok h.named id
theorem wants_len {w : World} {r : Value} {L : List (List UInt8)} (h : WantsAt w r L) : L.length ≤ 32 ∧ ∀ x ∈ L, x.length = 32 := by
  obtain ⟨g, A, c, _, _, _, h1, h2⟩ := h
  exact ⟨h2, h1⟩
set_option maxHeartbeats 12800000 in
theorem same_any {w : World} {O P : Nat → Prop} {f g m : Nat} {S : FS} {R : RF} (hF : FAt w O f S) (hR : RAt w P g R) (hb : Both m S R) (hm : m ≤ 1000) (hC : Cubes w) :
    callE Tryz.prog 36 #[.pointer (some ⟨f, 0, none⟩), .pointer (some ⟨g, 0, none⟩)] w fun r w' => r = .bool true ∧ Below w.heap.size w w' := by
  have hok := hb.ok
  have hrok := hb.rok (by omega)
  have rel := hb.rel.rel
  obtain ⟨tv, kv, av, vs, ds, hR⟩ := hR
  refine calls_E Tryz.func36 rfl rfl rfl (Nat.le_of_ble_eq_true rfl) ?_
  simp [go_sem, IntWalk.iteOmega, IntWalk.toNatUp]
  refine callE_of (fat_chain hF hok hC) ?_
  rintro _ w1 ⟨xv, rfl, hxv, hxn, k1⟩
  simp [go_sem, IntWalk.iteOmega, IntWalk.toNatUp]
  have hR1 := hR.keep k1
  refine callE_of (rchain_any hR1 hrok) ?_
  rintro _ w2 ⟨yv, rfl, hyv, hyn, k2⟩
  have k02 := k1.trans (k2.mono k1.size)
  rw [chain_eq rel hok hb.named] at hyv hyn ⊢
  simp [go_sem, IntWalk.iteOmega, IntWalk.toNatUp]
  refine callE_of (rwants_any (hR.keep k02) hrok) ?_
  rintro lv w3 ⟨hlv, hl32, hln, k3⟩
  rw [wants_eq rel hok hb.named] at hlv hl32 hln
  have k03 := k02.trans (k3.mono k02.size)
  have hF3 := hF.keep k03
  have hR3 := hR.keep k03
  have hxv3 : BksR w3 xv (chainF S).1 := by
    obtain ⟨xs, h1, h2, h3⟩ := hxv
    have h4 := bksR_own (xs := xs) (by rw [show xs.length = (chainF S).1.length by rw [← h1, List.length_map]]; exact h2) fun x hx => ⟨(h3 x hx).1, RdB.of_own (h3 x hx).2⟩
    rw [h1] at h4
    exact (h4.keep k2).keep k3
  have hyv3 := hyv.keep k3
  obtain ⟨xA, xc, -, rfl, -⟩ := id hxv3
  obtain ⟨yA, yc, -, rfl, -⟩ := id hyv3
  obtain ⟨-, lA, lc, rfl⟩ := own_sl hlv
  obtain ⟨-, kA, kc, rfl⟩ := own_sl hR.krow
  have hdl := kds_len hR.kmap
  clear hxv hyv k1 k2 k3 k02 hR1
  simp [go_sem, IntWalk.iteOmega, IntWalk.toNatUp]
  refine W_flow (fun j => j = g) (.pure 0 (.pure 2 (.pure 3 (.pure 4 (.pure 5 (.pure 6 (.one 1 (.pure 7 (.pure 8 (.pure 9 (.pure 11 (.one 10 (.one 12 (.pure 13 (.pure 14 (.pure 15 (.pure 16 (.pure 17 (.one 18 (.pure 19 (.pure 20 (.pure 21 (.pure 22 (.pure 23 (.pure 24 (.pure 25 (.pure 26 (.pure 27 (.pure 30 (.one 28 (.one 29 (.one 31 (.pure 32 (.pure 33 (.pure 34 (.pure 35 (.pure 39 (.pure 40 (.pure 41 (.one 36 (.one 37 (.pure 38 (.pure 42 (.pure 43 (.done))))))))))))))))))))))))))))))))))))))))))))) follows (by kernel_rfl) ?_
  have hq3 := held_refl (fun j => j = g) w3.drew
  have hF3 := hF3.keep (ext_drew w3)
  have hR3 := hR3.keep (ext_drew w3)
  have hxv3 := hxv3.keep (ext_drew w3)
  have hyv3 := hyv3.keep (ext_drew w3)
  have hl3 := (Rd.of_own hlv).keep (ext_drew w3)
  have k03 := k03.drew
  generalize w3.drew = v3 at *
  have c35 := hR3.c35 hrok
  have hgl := hR3.blk.lt
  have r0 := fun k => callE_eq noinit_flen (fat_len hF3 hok) k
  have hlen : (S.kept.length : Int) = ds.length := by rw [hdl, rel.K]
  have hlen' : ((S.kept.length : Int) != ds.length) = false := by rw [hlen]; simp
  have hcn : (chainF S).1.length = (chainF S).1.length := rfl
  obtain ⟨cl, hcl⟩ : ∃ cl, cl = (chainF S).1 := ⟨_, rfl⟩
  obtain ⟨ce, hce⟩ : ∃ ce, ce = (chainF S).2 := ⟨_, rfl⟩
  rw [← hcl] at hxv3 hyv3 hyn hxn
  simp [go_sem, IntWalk.iteOmega, IntWalk.toNatUp, hq3, r0, c35, hgl, hlen, hlen', ← hcl, ← hce]
  have hCv := hC.keep k03
  refine callE_of (fat_done hF3 hok hCv) ?_
  rintro _ w4 ⟨rfl, k4⟩
  have hq4 := hq3.below k4
  simp [go_sem, IntWalk.iteOmega, IntWalk.toNatUp, hq4]
  refine callE_of (rdone_any (hR3.keep k4) hrok) ?_
  rintro _ w5 ⟨rfl, k5⟩
  have hq5 := hq4.below k5
  have hdn : decide (missR R = []) = decide (missL S = []) := by rw [decide_eq_decide]; exact done_eq rel hok hb.named
  rw [hdn]
  have hdd : (decide (missL S = []) != decide (missL S = [])) = false := by simp
  have k35 := k4.trans (k5.mono k4.size)
  generalize decide (missL S = []) = dn at *
  simp [go_sem, IntWalk.iteOmega, IntWalk.toNatUp, hq5, hdd]
  refine callE_of (sameAll_any (hxv3.keep k35) (hyv3.keep k35)) ?_
  rintro _ w6 ⟨rfl, k6⟩
  have hq6 := hq5.below k6
  have k36 := k35.trans (k6.mono k35.size)
  simp [go_sem, IntWalk.iteOmega, IntWalk.toNatUp, hq6]
  refine callE_of (fat_wants (hF3.keep k36) hok (hCv.keep k36)) ?_
  rintro r7 w7 ⟨hw7, k7⟩
  have hq7 := hq6.below k7
  have k37 := k36.trans (k7.mono k36.size)
  obtain ⟨hwl, hw32⟩ := wants_len hw7
  simp [go_sem, IntWalk.iteOmega, IntWalk.toNatUp, hq7]
  refine callE_of (told_wants hw7 1048576 (by decide) 1048576 rfl) ?_
  rintro r8 w8 ⟨hw8, k8⟩
  rw [List.take_of_length_le (by omega)] at hw8
  have hq8 := hq7.below k8
  have k38 := k37.trans (k8.mono k37.size)
  obtain ⟨-, tA, tc, rfl⟩ := own_sl hw8
  obtain ⟨W, hW⟩ : ∃ W, W = wantsF S := ⟨_, rfl⟩
  rw [← hW] at hwl hw32 hw8 hl3 hl32 hln ⊢
  simp [go_sem, IntWalk.iteOmega, IntWalk.toNatUp, hq8]
  refine callE_of (equalN_any (L := W) (M := W) (Rd.of_own hw8) hw32 (by omega) (hl3.keep k38) hl32 (by omega)) ?_
  rintro _ w9 ⟨rfl, k9⟩
  have hq9 := hq8.below k9
  have k39 := k38.trans (k9.mono k38.size)
  simp [go_sem, IntWalk.iteOmega, IntWalk.toNatUp, hq9]
  refine callE_of (fat_wants (hF3.keep k39) hok (hCv.keep k39)) ?_
  rintro r10 w10 ⟨hw10, k10⟩
  rw [← hW] at hw10
  have hq10 := hq9.below k10
  have k310 := k39.trans (k10.mono k39.size)
  simp [go_sem, IntWalk.iteOmega, IntWalk.toNatUp, hq10]
  refine callE_of (told_wants hw10 1 (by decide) 1 rfl) ?_
  rintro r11 w11 ⟨hw11, k11⟩
  have hq11 := hq10.below k11
  have k311 := k310.trans (k11.mono k310.size)
  have hmin : min (1 : Int) (W.length : Int) = ((W.take 1).length : Int) := by rw [List.length_take]; omega
  obtain ⟨-, sA, sc, rfl⟩ := own_sl hw11
  have hF11 := hF3.keep k311
  have hR11 := hR3.keep k311
  have hC11 := hCv.keep k311
  have k011 := k03.trans (k311.mono k03.size)
  obtain ⟨n1, hn1⟩ : ∃ n1, n1 = (W.take 1).length := ⟨_, rfl⟩
  rw [← hn1] at hmin ⊢
  clear hw11 hw10 hw8 hw7 hq3 hq4 hq5 hq6 hq7 hq8 hq9 hq10 r0 hxv3 hyv3 hl3 c35
  obtain ⟨-, tvA, tvc, rfl⟩ := own_sl hR11.trow
  have c34 := hR11.c34 hrok
  simp [go_sem, IntWalk.iteOmega, IntWalk.toNatUp, hq11, hmin, c34]
  have htn := hrok.tn
  clear hR11 hF11 c34 hq11 hmin hlen hlen' k311 k310 k39 k38 k37 k36 k35 hdn hdd hCv hC11
  refine W_loop (fun st wr => ∃ i : Nat, i ≤ R.T.length ∧ st 0 = .pointer (some ⟨f, 0, none⟩) ∧ st 1 = .pointer (some ⟨g, 0, none⟩) ∧ st 75 = .slice tvA R.T.length tvc ∧ st 76 = .int .i64 R.T.length ∧ st 77 = .int .i64 i ∧ Below w.heap.size w wr) (fun st _ => R.T.length - (intOf (st 77)).toNat) ?_ ?_
  · exact ⟨0, by omega, by simp [go_sem], by simp [go_sem], by simp [go_sem], by simp [go_sem], by simp [go_sem], k011⟩
  · clear k011
    rintro st wr ⟨i, hi, d0, d1, d75, d76, d77, kw⟩
    by_cases hlt : i < R.T.length
    · have hlt' : (i : Int) < R.T.length := by omega
      have hRr := hR.keep kw
      have hti : R.T[i]? = some R.T[i] := List.getElem?_eq_getElem hlt
      obtain ⟨ht1, ht2⟩ := hrok.t _ (List.getElem_mem hlt)
      obtain ⟨t, htt⟩ : ∃ t, t = R.T[i] := ⟨_, rfl⟩
      rw [← htt] at hti ht1 ht2
      obtain ⟨tb, to_, eA, htb, htc⟩ := (Rd.of_own hRr.trow).cells (by omega)
      obtain ⟨fv, hfv⟩ : ∃ fv, vs[i]? = some fv := ⟨_, List.getElem?_eq_getElem (by rw [hR.vlen]; exact hlt)⟩
      have hz : ((R.T.map Prod.fst).zip vs)[i]? = some (t.1, fv) := by
        rw [List.getElem?_zip_eq_some]
        exact ⟨by simp [hti], hfv⟩
      have hzl : ∀ x ∈ (R.T.map Prod.fst).zip vs, x.1.length = 32 := fun x hx => by
        obtain ⟨y, hy, e⟩ := List.mem_map.1 (List.of_mem_zip hx).1
        rw [← e]
        exact (hrok.t _ hy).1
      have hcell := flatT_at _ hzl i _ hz
      have l33 : (tcell (t.1, fv)).length = 33 := tcell_len ht1
      have rt : readCells wr ⟨tb, to_ + i * 33, none⟩ 0 33 = some (tcell (t.1, fv)) := readCells_cells 33 0 _ l33 (fun j v hj => by rw [show to_ + i * 33 + 0 + j = to_ + (33 * i + j) by omega]; exact htc _ _ (hcell j v hj))
      obtain ⟨-, fA, fc, rfl⟩ := own_sl (hRr.rows i fv t.2 hfv (by simp [hti])).1
      have y2 : ∀ (k : Array Value) (t : TypeId), k.size = 33 → canWrite (wr.alloc (.cells k t)) ⟨wr.heap.size, 0, none⟩ 0 33 = true := fun k t hk => canWrite_all (Blk.self_ rfl) 33 hk
      have y3 : ∀ (k : Array Value) (t : TypeId) (l : List Value), k.size = 33 → l.length = 33 → storeSeg (wr.alloc (.cells k t)) ⟨wr.heap.size, 0, none⟩ 0 l = (wr.alloc (.cells k t)).setRow wr.heap.size l.toArray := fun k t l hk hl => storeSeg_all (Blk.self_ rfl) l (by omega)
      have rT : ∀ {W' : World}, Blk W' wr.heap.size 132 (tcell (t.1, .slice fA t.2.length fc)).toArray → readCells W' ⟨wr.heap.size, 0, none⟩ 0 32 = some (bl t.1) := fun hT => readCells_blk hT 32 0 0 (bl t.1) (by simp [bl, ht1]) (fun j v hj => by
        have : (tcell (t.1, .slice fA t.2.length fc))[j]? = some v := by unfold tcell; rw [List.getElem?_append_left (List.getElem?_eq_some_iff.1 hj).1]; exact hj
        simpa using this)
      simp [go_sem, IntWalk.iteOmega, IntWalk.toNatUp, d0, d1, d75, d76, d77, hlt', hlt, eA, rt, y2, y3, l33, tcell_one]
      rw [← zeroT_lit]
      have kT : Below wr.heap.size wr ((wr.alloc (.cells zeroT.toArray 132)).setRow wr.heap.size (tcell (t.1, .slice fA t.2.length fc)).toArray) := below_setRow (ext_alloc wr _) (Nat.le_refl _) _
      have hT : Blk ((wr.alloc (.cells zeroT.toArray 132)).setRow wr.heap.size (tcell (t.1, .slice fA t.2.length fc)).toArray) wr.heap.size 132 (tcell (t.1, .slice fA t.2.length fc)).toArray := Blk_setRow (Blk.self_ rfl)
      generalize (wr.alloc (.cells zeroT.toArray 132)).setRow wr.heap.size (tcell (t.1, .slice fA t.2.length fc)).toArray = wa at *
      have x1 := rT hT
      have kwa := kw.trans (kT.mono kw.size)
      simp [go_sem, IntWalk.iteOmega, IntWalk.toNatUp, d0, d1, d75, d76, d77, x1]
      refine callE_of (fat_state (hF.keep kwa) hok (hC.keep kwa) ht1) ?_
      rintro _ wb ⟨rfl, kb⟩
      have x2 := rT (hT.keep kb)
      have kwb := kwa.trans (kb.mono kwa.size)
      simp [go_sem, IntWalk.iteOmega, IntWalk.toNatUp, d0, d1, d75, d76, d77, x2]
      refine callE_of (rstate_any (hR.keep kwb) hrok ht1) ?_
      rintro _ wc ⟨rfl, kc⟩
      have kwc := kwb.trans (kc.mono kwb.size)
      rw [state_rel hb t.1]
      obtain ⟨q1, hq1⟩ : ∃ q1, q1 = (stateF S t.1).1 := ⟨_, rfl⟩
      obtain ⟨q2, hq2⟩ : ∃ q2, q2 = (stateF S t.1).2 := ⟨_, rfl⟩
      rw [← hq1, ← hq2]
      simp [go_sem, IntWalk.iteOmega, IntWalk.toNatUp, d0, d1, d75, d76, d77]
      refine roundEnd.mk ⟨i + 1, by omega, by simp [go_sem, d0], by simp [go_sem, d1], by simp [go_sem, d75, eA], by simp [go_sem, d76], by simp [go_sem], kwc⟩ ?_
      simp [go_sem, intOf, d77]; omega
    · obtain rfl : i = R.T.length := by omega
      have hlt' : ¬ (R.T.length : Int) < R.T.length := by omega
      simp [go_sem, IntWalk.iteOmega, IntWalk.toNatUp, d0, d1, d75, d76, d77, hlt']
      exact kw
theorem putAt_first {α : Type} {a : List UInt8} {v : α} : ∀ {L : List (List UInt8 × α)} {k : Nat} (hk : k < L.length), (L[k]).1 = a → (∀ m (hm : m < L.length), m < k → (L[m]).1 ≠ a) → putAt a v L = L.set k (a, v)
  | [], k, hk, _, _ => by simp at hk
  | x :: L, 0, hk, h, _ => by
    have h' : x.1 = a := h
    unfold putAt
    rw [if_pos h'.symm]
    rfl
  | x :: L, k + 1, hk, h, hno => by
    have h0 : x.1 ≠ a := hno 0 (by simp) (by omega)
    unfold putAt
    rw [if_neg fun e => h0 e.symm, putAt_first (L := L) (k := k) (by simpa using hk) h fun m hm hmk => hno (m + 1) (by simpa using hm) (by omega)]
    rfl
section
variable {w : World} {O : Nat → Prop} {g : Nat} {R : RF} {tv kv av : Value} {vs : List Value} {ds : List (List UInt8 × Bk × Value)}
def RMutT (w w' : World) (O : Nat → Prop) (g : Nat) (R' : RF) (kv av : Value) (ds : List (List UInt8 × Bk × Value)) : Prop := ∃ O' tv' vs', RIn w' O' g R' tv' kv av vs' ds ∧ Mine O O' w w'
set_option maxHeartbeats 12800000 in
theorem rtarget_any (h : RIn w O g R tv kv av vs ds) (hok : ROk R) {id : List UInt8} (hid : id.length = 32) {A : Option Addr} {c : Nat} {us : List Int} (hr : Rd w 1 A us.length (intsK .i64 us)) (hus : us.length ≤ 100000) :
    callE Tryz.prog 68 #[.pointer (some ⟨g, 0, none⟩), .agg (bl id).toArray, .slice A us.length c] w fun r w' => r = .int .i64 (targetR R id us).1 ∧ RMutT w w' O g (targetR R id us).2 kv av ds := by
  have htn := hok.tn
  have l32 : (bl id).length = 32 := by rw [bl_length]; exact hid
  have kA := ext_alloc w (.cells (bl id).toArray 27)
  have hI : Blk (w.alloc (.cells (bl id).toArray 27)) w.heap.size 27 (bl id).toArray := Blk.self_ rfl
  obtain ⟨-, tA, tc, etv⟩ := own_sl h.trow
  have stayR : ∀ {wz : World}, Below w.heap.size w wz → RMutT w wz O g R kv av ds := fun {wz} hk => ⟨O, tv, vs, h.keep hk, Mine.same (Keeps.of_ext hk) h.lt⟩
  refine calls_E Tryz.func68 rfl rfl rfl (Nat.le_of_ble_eq_true rfl) ?_
  by_cases h0 : us = []
  · subst h0
    have ht : targetR R id [] = (1, R) := by unfold targetR; rw [if_pos (.inl rfl)]
    rw [ht]
    simp [go_sem, IntWalk.iteOmega, IntWalk.toNatUp]
    exact stayR kA
  have hl0 : 0 < us.length := List.length_pos_iff.2 h0
  have hl1 : ¬ (us.length : Int) = 0 := by omega
  have hl2 : ((us.length : Int) == 0) = false := by rw [beq_eq_false_iff_ne]; exact hl1
  simp [go_sem, IntWalk.iteOmega, IntWalk.toNatUp, h0, hl1, hl2]
  generalize w.alloc (.cells (bl id).toArray 27) = w1 at *
  refine W_loop (fun st wr => ∃ i : Nat, i ≤ us.length ∧ st 0 = .pointer (some ⟨g, 0, none⟩) ∧ st 2 = .slice A us.length c ∧ st 4 = .pointer (some ⟨w.heap.size, 0, none⟩) ∧ st 7 = .int .i64 i ∧ (∀ m (hm : m < us.length), m < i → 0 ≤ us[m] ∧ us[m] < 32) ∧ wr = w1) (fun st _ => us.length - (intOf (st 7)).toNat) ?_ ?_
  · exact ⟨0, by omega, by simp [go_sem], by simp [go_sem], by simp [go_sem], by simp [go_sem], fun m hm hh => by omega, rfl⟩
  · rintro st wr ⟨i, hi, e0, e2, e4, e7, hgood, rfl⟩
    by_cases hlt : i < us.length
    · have hlt' : (i : Int) < us.length := by omega
      obtain ⟨gb, go, rfl, hgb, hgc⟩ := (hr.keep kA).cells (by omega)
      have x0 := hgc i (.int .i64 us[i]) (by simp [intsK, hlt])
      have hbad : ¬ (0 ≤ us[i] ∧ us[i] < 32) → targetR R id us = (1, R) := fun hh => by
        unfold targetR
        rw [if_pos (.inr (List.any_eq_true.2 ⟨us[i], List.getElem_mem hlt, by unfold wrongI; rw [decide_eq_true_iff]; omega⟩))]
      have hstep : 0 ≤ us[i] ∧ us[i] < 32 → ∀ m (hm : m < us.length), m < i + 1 → 0 ≤ us[m] ∧ us[m] < 32 := fun hh m hm hmi => by
        by_cases hmm : m = i
        · subst hmm; exact hh
        · exact hgood m hm (by omega)
      generalize us[i] = u at *
      by_cases h1 : u < 0
      · rw [hbad (by omega)]
        simp [go_sem, IntWalk.iteOmega, IntWalk.toNatUp, e0, e2, e4, e7, hlt, hlt', x0, h1]
        exact stayR kA
      · by_cases h2 : 32 ≤ u
        · rw [hbad (by omega)]
          simp [go_sem, IntWalk.iteOmega, IntWalk.toNatUp, e0, e2, e4, e7, hlt, hlt', x0, h1, h2]
          exact stayR kA
        · simp [go_sem, IntWalk.iteOmega, IntWalk.toNatUp, e0, e2, e4, e7, hlt, hlt', x0, h1, h2]
          refine roundEnd.mk ⟨i + 1, by omega, by simp [go_sem, e0], by simp [go_sem, e2], by simp [go_sem, e4], by simp [go_sem], hstep (by omega), rfl⟩ ?_
          simp [go_sem, intOf, e7]; omega
    · obtain rfl : i = us.length := by omega
      have hlt' : ¬ (us.length : Int) < us.length := by omega
      simp [go_sem, IntWalk.iteOmega, IntWalk.toNatUp, e0, e2, e4, e7, hlt']
      have husR : ∀ v ∈ us, 0 ≤ v ∧ v < 32 := fun v hv => by
        obtain ⟨m, hm, rfl⟩ := List.getElem_of_mem hv
        exact hgood m hm (by omega)
      have hgoodR : ¬ (us = [] ∨ us.any wrongI = true) := by
        rintro (hh | hh)
        · exact h0 hh
        · obtain ⟨v, hv, hw⟩ := List.any_eq_true.1 hh
          have := husR v hv
          unfold wrongI at hw
          rw [decide_eq_true_iff] at hw
          omega
      clear hgood
      refine W_loop (fun st wr => ∃ i : Nat, i ≤ R.T.length ∧ st 0 = .pointer (some ⟨g, 0, none⟩) ∧ st 2 = .slice A us.length c ∧ st 4 = .pointer (some ⟨w.heap.size, 0, none⟩) ∧ st 8 = .int .i64 i ∧ (∀ m (hm : m < R.T.length), m < i → (R.T[m]).1 ≠ id) ∧ Below w.heap.size w wr ∧ Blk wr w.heap.size 27 (bl id).toArray) (fun st _ => R.T.length - (intOf (st 8)).toNat) ?_ ?_
      · exact ⟨0, by omega, by simp [go_sem, e0], by simp [go_sem, e2], by simp [go_sem, e4], by simp [go_sem], fun m hm hh => by omega, kA, hI⟩
      clear e0 e2 e4 e7
      rintro s2 wr ⟨i, hi2, e0, e2, e4, e8, hno, kw, hIr⟩
      have hw := h.keep kw
      have c34 := hw.c34 hok
      rw [etv] at c34
      have c34d : wr.drew.cell? ⟨g, 34, none⟩ = some (.slice tA R.T.length tc) := c34
      by_cases hlt : i < R.T.length
      · have hlt3 : (i : Int) < R.T.length := by omega
        obtain ⟨b, o, tc', e, hb, tvi, hvi, hat⟩ := h.tid hok hlt
        rw [e] at etv
        injection etv with ev1 ev2 ev3
        subst ev1 ev3
        have x1d := (hat wr.drew kw.drew).1
        have x2d := readCells_all hIr.drew 32 (by simpa using l32)
        have ht32 := (hok.t _ (List.getElem_mem hlt)).1
        have hqe := fun W => id_eq (R.T[i]).1 id ht32 hid W
        simp [go_sem, IntWalk.iteOmega, IntWalk.toNatUp, e0, e2, e4, e8, c34, hlt, hlt3]
        refine W_still follows (by kernel_rfl) ?_
        by_cases hq : (R.T[i]).1 = id
        · have hq' : ((R.T[i]).1 == id) = true := by simpa using hq
          simp [go_sem, IntWalk.iteOmega, IntWalk.toNatUp, e0, e2, e4, e8, c34d, hlt, hlt3, x1d, x2d, hqe, hq']
          refine W_flow (fun j => j = g) (.pure 0 (.pure 1 (.pure 2 (.pure 3 (.pure 4 (.pure 5 (.pure 6 (.pure 7 (.pure 8 (.pure 9 (.pure 10 (.pure 11 (.pure 13 (.one 12 (.one 14 (.pure 15 (.pure 16 (.one 17 (.done))))))))))))))))))) follows (by kernel_rfl) ?_
          have hqq := held_refl (fun j => j = g) wr.drew.drew
          have kwd := kw.drew.drew
          generalize wr.drew.drew = v1 at *
          have c34v := (h.keep kwd).c34 hok
          rw [e] at c34v
          have hgl := (h.keep kwd).blk.lt
          obtain ⟨hrow, -⟩ := h.rows i tvi (R.T[i]).2 hvi (by simp [hlt])
          obtain ⟨-, rA, rc, rfl⟩ := own_sl hrow
          have c32v := (hat v1 kwd).2
          simp [go_sem, IntWalk.iteOmega, IntWalk.toNatUp, e0, e2, e4, e8, hqq, c34v, hgl, hlt, hlt3, c32v]
          have hol := (hok.t _ (List.getElem_mem hlt)).2
          refine callE_of (joined_any ((Rd.of_own hrow).keep kwd) (hr.keep kwd) (by omega) hus) ?_
          rintro jv w2 ⟨hjv, k2⟩
          have kw2 := kwd.trans (k2.mono kwd.size)
          have hq2 := hqq.below k2
          have htrow := h.trow
          rw [e] at htrow
          have hbo : o = 0 ∧ ∃ cur, Blk w b 132 cur := by
            rcases htrow.2 with ⟨e', h0'⟩ | ⟨gg, cap, cur, e', _, hbk, _⟩
            · omega
            · injection e' with e1 e2 e3
              injection e1 with e1
              injection e1 with e1 e4
              exact ⟨e4, cur, by rw [e1]; exact hbk⟩
          obtain ⟨rfl, cur, hbk⟩ := hbo
          subst e
          have hP := h.putT hok hlt kw2 (own_mono hjv kwd.size)
          have hfz := (hbk.keep kw2).frozen
          have c32w := (hat w2 kw2).2
          have hjL : joinL (R.T[i]).2 us = (joinL (R.T[i]).2 us) := rfl
          obtain ⟨-, jA, jc, rfl⟩ := own_sl hjv
          rw [Nat.zero_add] at c32w
          have hbne : ¬ b = g := fun hh => row_ne h.trow h.blk (by decide) (by rw [← hh]; rfl)
          have hq3 := hq2.set (g := b) (o := i * 33 + 32) (.slice jA (joinL (R.T[i]).2 us).length jc) hbne
          simp [go_sem, IntWalk.iteOmega, IntWalk.toNatUp, e0, e2, e4, e8, hq2, hfz, c32w, hq3]
          have htg : targetR R id us = (0, { R with T := R.T.set i ((R.T[i]).1, joinL (R.T[i]).2 us) }) := by
            unfold targetR
            rw [if_neg hgoodR, atL_first hlt hq hno]
            dsimp only
            rw [putAt_first hlt hq hno, hq]
          rw [htg]
          exact ⟨rfl, _, _, _, hP.1, hP.2⟩
        · have hq' : ((R.T[i]).1 == id) = false := by simpa using hq
          simp [go_sem, IntWalk.iteOmega, IntWalk.toNatUp, e0, e2, e4, e8, c34d, hlt, hlt3, x1d, x2d, hqe, hq']
          refine roundEnd.mk ⟨i + 1, by omega, by simp [go_sem, e0], by simp [go_sem, e2], by simp [go_sem, e4], by simp [go_sem], fun m hm hh => ?_, kw.drew, hIr.drew⟩ ?_
          · by_cases hmi : m = i
            · subst hmi; exact hq
            · exact hno m hm (by omega)
          · simp [go_sem, intOf, e8]; omega
      · have hlt3 : ¬ (i : Int) < R.T.length := by omega
        have hnone : atL id R.T = none := atL_no fun m hm => hno m hm (by omega)
        by_cases hf : 32 ≤ R.T.length
        · have hf' : (32 : Int) ≤ R.T.length := by omega
          have htg : targetR R id us = (6, R) := by
            unfold targetR
            rw [if_neg hgoodR, hnone]
            dsimp only
            rw [if_pos hf]
          rw [htg]
          simp [go_sem, IntWalk.iteOmega, IntWalk.toNatUp, e0, e2, e4, e8, c34, hlt, hlt3, hf, hf']
          exact stayR kw
        · have hf' : ¬ (32 : Int) ≤ R.T.length := by omega
          have htg : targetR R id us = (0, { R with T := R.T ++ [(id, joinL us [])] }) := by
            unfold targetR
            rw [if_neg hgoodR, hnone]
            dsimp only
            rw [if_neg hf]
          rw [htg]
          simp [go_sem, IntWalk.iteOmega, IntWalk.toNatUp, e0, e2, e4, e8, c34, hlt, hlt3, hf, hf']
          refine W_flow (fun j => j = w.heap.size) (.pure 0 (.pure 1 (.pure 2 (.pure 3 (.pure 6 (.pure 7 (.one 4 (.one 5 (.one 8 (.pure 9 (.one 10 (.one 11 (.pure 12 (.pure 13 (.one 14 (.done)))))))))))))))) follows (by kernel_rfl) ?_
          have hq := held_refl (fun j => j = w.heap.size) wr.drew
          have hId := hIr.drew
          have kd := kw.drew
          generalize wr.drew = v2 at *
          have hwd := h.keep kd
          have hrd := hr.keep kd
          have c34v := hwd.c34 hok
          have xi := readCells_all hId 32 (by simpa using l32)
          have hil := hId.lt
          have hfix : ∀ (u jv : Value) (wz : World), wz.ownsRow v2.heap.size 132 33 u (0 + R.T.length + 1) ([] ++ ((R.T.map Prod.fst).zip vs).flatMap tcell ++ tcell (id, jv)) → wz.ownsRow v2.heap.size 132 33 u (R.T ++ [(id, joinL us [])]).length ((((R.T ++ [(id, joinL us [])]).map Prod.fst).zip (vs ++ [jv])).flatMap tcell) := fun u jv wz hh => by
            have e1 : (R.T ++ [(id, joinL us [])]).length = 0 + R.T.length + 1 := by simp
            have e2 : (((R.T ++ [(id, joinL us [])]).map Prod.fst).zip (vs ++ [jv])).flatMap tcell = [] ++ ((R.T.map Prod.fst).zip vs).flatMap tcell ++ tcell (id, jv) := by
              rw [List.map_append, List.zip_append (by rw [List.length_map, h.vlen]), List.flatMap_append]
              simp
            rw [e1, e2]
            exact hh
          have h1t : allOne (((R.T.map Prod.fst).zip vs).flatMap tcell) = true := allOne_of fun v hv => by
            obtain ⟨x, hx, hv⟩ := List.mem_flatMap.1 hv
            unfold tcell at hv
            rcases List.mem_append.1 hv with hv | hv
            · exact allOne_mem (bl_one x.1) v hv
            · obtain ⟨-, hx2⟩ := List.of_mem_zip hx
              obtain ⟨i, hi, e⟩ := List.getElem_of_mem hx2
              have hi' : i < R.T.length := by rw [← h.vlen]; exact hi
              obtain ⟨-, vA, vc, e'⟩ := own_sl (h.rows i vs[i] (R.T[i]).2 (by simp) (by simp [hi'])).1
              simp at hv
              rw [hv, ← e, e']
              rfl
          have hnilR : ∀ wz : World, Rd wz 1 none ([] : List Int).length (intsK .i64 []) := fun wz => ⟨rfl, fun h => absurd h (by decide)⟩
          have hlT : ∀ jv : Value, (tcell (id, jv)).length = 33 := fun jv => by simp [tcell, l32]
          have hoT : ∀ jv : Value, allOne [jv] = true → allOne (tcell (id, jv)) = true := fun jv hj => allOne_of fun v hv => by
            unfold tcell at hv
            rcases List.mem_append.1 hv with hv | hv
            · exact allOne_mem (bl_one id) v hv
            · exact allOne_mem hj v hv
          rw [etv] at c34v
          have htrow := hwd.trow
          rw [etv] at htrow
          simp [go_sem, IntWalk.iteOmega, IntWalk.toNatUp, e0, e2, e4, e8, hq, c34v, xi, hil, l32]
          refine appendE v2.heap.size 132 33 56 Tryz.underlying121 el132 (World.ownsRow_nil _ _ _ _) ((Rd.of_own htrow).keep (Below.refl v2.heap.size v2)) h1t (by unfold maxLen; omega) (by omega) (Below.refl v2.heap.size v2).size ?_
          intro u1 w4 hrT hg4 hb4
          have k_ : Below v2.heap.size v2 w4 := (Below.refl _ _).grown hg4 (Nat.le_refl _) (fun j hj => by cases hj)
          have k4 := (Below.refl v2.heap.size v2).trans (k_.mono (Below.refl v2.heap.size v2).size)
          have hq4 := hq.below k4
          simp [go_sem, IntWalk.iteOmega, IntWalk.toNatUp, hq4]
          have hjo := joined_any (w := w4) (aA := A) (ac := c) (bA := none) (bc := 0) (a := us) (b := []) (hrd.keep k4) (hnilR w4) hus (Nat.zero_le _)
          refine callE_of hjo ?_
          clear hjo
          rintro jv w5 ⟨hjv, k_⟩
          have hjv5 := own_mono (base' := v2.heap.size) hjv k4.size
          have k5 := k4.trans (k_.mono k4.size)
          have hq5 := hq.below k5
          have hrT := row_below hrT k_
          obtain ⟨-, jA, jc, rfl⟩ := own_sl hjv5
          have hj1 : allOne (tcell (id, .slice jA (joinL us []).length jc)) = true := hoT _ rfl
          have l33 := hlT (.slice jA (joinL us []).length jc)
          have hf1 := fold_t32 (bl id) l32
          obtain ⟨z0, hz0⟩ : ∃ z0, z0 = (bl id ++ [Value.slice none 0 0]).toArray := ⟨_, rfl⟩
          rw [← hz0] at hf1
          have hz1 : z0.size = 33 := by rw [hz0]; simp [l32]
          have hz2 : ∀ v, z0.setIfInBounds 32 v = (tcell (id, v)).toArray := fun v => by
            rw [hz0, List.setIfInBounds_toArray, List.set_append_right _ _ (by omega), l32]
            rfl
          have hf2 := fold_t33 (tcell (id, .slice jA (joinL us []).length jc)) l33
          clear hz0
          simp [go_sem, IntWalk.iteOmega, IntWalk.toNatUp, hq5, l32, hf1, hz1, hz2, l33]
          rw [hf2]
          have kI := ext_alloc w5 (.cells (tcell (id, .slice jA (joinL us []).length jc)).toArray 132)
          have hrI := rd_one (Blk.self_ (w := w5) (t := 132) (cs := (tcell (id, .slice jA (joinL us []).length jc)).toArray) rfl) l33
          have hrT := row_below hrT kI
          have hjv6 := row_below hjv5 kI
          have k6 := k5.trans (kI.mono k5.size)
          refine ⟨hq.below k6, ?_⟩
          generalize w5.alloc (.cells (tcell (id, .slice jA (joinL us []).length jc)).toArray 132) = wA at *
          refine appendE v2.heap.size 132 33 56 Tryz.underlying121 el132 hrT hrI hj1 (by unfold maxLen; omega) (by omega) k6.size ?_
          intro u2 w6 hr6 hg6 hb6
          have k7 := k6.grown hg6 k6.size fun j hj => (hrT.lt j hj).1
          have hjv7 := row_keeps hjv6 (Keeps.grown (O := fun j => u1.ownBlock ≠ some j) hg6 fun k hk h => h hk) (fun j hj e => rows_ne hrT hjv6 (by decide) j e hj)
          have hfz := (hwd.keep k7).blk.frozen
          have c34x := (hwd.keep k7).c34 hok
          rw [etv] at c34x
          have hq6 := hq.below k7
          have hrow := hfix _ _ _ hr6
          obtain ⟨-, uA, uc, rfl⟩ := own_sl hr6
          have hgne : g < w.heap.size := h.lt g h.og
          have hlT1 : 0 + R.T.length + 1 = R.T.length + 1 := by omega
          have hq7 := hq6.set (g := g) (o := 34) (.slice uA (0 + R.T.length + 1) uc) (by omega)
          rw [hlT1] at hrow hq7
          simp [go_sem, IntWalk.iteOmega, IntWalk.toNatUp, hq6, hfz, c34x, hq7]
          have hN := hwd.newT hok.last k7 hrow hjv7
          exact ⟨_, _, _, hN.1, hN.2.before (Keeps.of_ext kd)⟩
end
end Go.Proofs.YtdjcjjodbniebaaGreatDoor
namespace Go.Proofs.YtdjcjjodbniebaaGreatDoor
open Go.RowKit Go.ChangeShapes Go.WideShapes
set_option linter.unusedVariables false
section
variable {H : Type} {enc : TypeId × Value → H} {P : Program} {t : TypeId} {fs : Array Field}
def structOf (P : Program) (t : TypeId) : Option (List (Nat × Option TypeDesc × Nat)) :=
  match P.underlying t with
  | some (.struct fs) => some (fs.toList.map fun f => (f.offset, P.underlying f.type, P.cellsOf f.type))
  | _ => none
/-! Structs of ints, strings and bools. -/
theorem list_of_elems {α : Type} {m : Nat} (enc' : α → List Value) (Q : α → Prop) : ∀ (n : Nat) (xs : List Value), xs.length = n * m → (∀ i, i < n → ∃ x, (xs.drop (i * m)).take m = enc' x ∧ Q x) →
    ∃ l : List α, l.length = n ∧ xs = l.flatMap enc' ∧ ∀ x ∈ l, Q x
  | 0, xs, hlen, _ => ⟨[], rfl, by simpa using hlen, fun x hx => by cases hx⟩
  | n + 1, xs, hlen, h => by
    obtain ⟨x, hx, hq⟩ := h 0 (by omega)
    obtain ⟨l, h1, h2, h3⟩ := list_of_elems (m := m) enc' Q n (xs.drop m) (by rw [List.length_drop, hlen, Nat.succ_mul]; omega) (fun i hi => by
      obtain ⟨y, hy, hqy⟩ := h (i + 1) (by omega)
      refine ⟨y, ?_, hqy⟩
      rw [List.drop_drop, ← hy]
      congr 2
      rw [Nat.succ_mul]; omega)
    refine ⟨x :: l, by simp [h1], ?_, fun y hy => ?_⟩
    · rw [List.flatMap_cons, ← h2, ← hx]
      simp
    · rcases List.mem_cons.1 hy with rfl | hy
      · exact hq
      · exact h3 y hy
end
end Go.Proofs.YtdjcjjodbniebaaGreatDoor
