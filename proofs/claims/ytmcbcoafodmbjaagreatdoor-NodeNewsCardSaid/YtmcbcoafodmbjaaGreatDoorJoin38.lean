/-
  Texts joined: NWalk, Stru, NOpenA.
-/
import Derived.Test.YtmcbcoafodmbjaaGreatDoorJoin37
import Derived.ChangeArms
import Derived.KernelRfl

/-
  NodeNews: its walk, over begun().
-/
namespace Go.Proofs.YtmcbcoafodmbjaaGreatDoor
open Go.RowKit
set_option linter.unusedVariables false
set_option linter.unusedSimpArgs false
set_option maxRecDepth 10000
theorem checkV_vals (l : List Vd) : checkV l = 0 ∨ checkV l = 3 ∨ checkV l = 50 ∨ checkV l = 51 := by
  unfold checkV
  repeat' split
  all_goals simp
theorem newE_none (c : Nat → Int) (l : List Vd) (me : Int) (b : Bk) (now : Int) : newE c l me none b now ≠ 0 := by
  have e : openE none b = 2 := rfl
  unfold newE
  rw [e]
  repeat' split
  all_goals first | assumption | decide
theorem newE_made (c : Nat → Int) (l : List Vd) (me : Int) (off : Bool) (b : Bk) (now : Int) (h : newE c l me (some off) b now = 0 ∨ newE c l me (some off) b now = 5 ∨ newE c l me (some off) b now = 30) : newE c l me none b now = 2 := by
  have hv := checkV_vals l
  unfold newE at h ⊢
  repeat' split at h
  all_goals first | omega | skip
  all_goals simp_all [openE]
  all_goals omega
theorem newE_len {c : Nat → Int} {l : List Vd} {me : Int} {tp : Option Bool} {b : Bk} {now : Int} (h : newE c l me tp b now = 0) : l.length ≤ 32 := by
  by_cases hv : checkV l = 0
  · exact (check_len hv).2
  · exfalso
    unfold newE at h
    split at h
    · cases h
    · exact hv h
set_option maxHeartbeats 3200000 in
theorem nodeNews_any (hL : ∀ w : World, Cubes w → callE Tryz.prog 4 #[] w fun v w' => v = .bool true ∧ Below w.heap.size w w') (c : Nat → Int) (l : List Vd) (vl : Value) (me : Int) (b : Bk) (A : Option Addr) (n k : Nat) (now : Int) (off : Bool) (w : World) (hs : Sl w 2 vl l.length (vdrs l)) (hN : ∀ x ∈ l, x.name.size ≤ 9223372036854775807) (hW : ∀ x ∈ l, -9223372036854775808 ≤ x.weight ∧ x.weight ≤ 9223372036854775807)
    (hok : BkOk b) (hd : RdB w (.slice A n k) b.data) (hC : Cubes w) :
    callE Tryz.prog 3 #[.agg (cfL c).toArray, vl, .int .i64 me, .agg (bkv b (.slice A n k)).toArray, .int .i64 now, .bool off] w fun v w' => v = .bool true ∧ Below w.heap.size w w' := by
  have hlen : (bkv b (.slice A n k)).length = 34 := bkv_len hok.len
  obtain ⟨CC, hCC⟩ : ∃ CC, (cfL c).toArray = CC := ⟨_, rfl⟩
  have hCs : CC.size = 28 := by rw [← hCC]; rfl
  obtain ⟨BB, hBB⟩ : ∃ BB, (bkv b (.slice A n k)).toArray = BB := ⟨_, rfl⟩
  have hBs : BB.size = 34 := by rw [← hBB]; simpa using hlen
  rw [hCC, hBB]
  have k1 := (ext_alloc w (.cells CC 33))
  have k2 := k1.alloc k1.size (.cells BB 39)
  have hX : Blk ((w.alloc (.cells CC 33)).alloc (.cells BB 39)) w.heap.size 33 CC := (Blk.self_ rfl).more _
  have hB : Blk ((w.alloc (.cells CC 33)).alloc (.cells BB 39)) (w.heap.size + 1) 39 BB := Blk.self_ (by simp)
  refine calls_E Tryz.func3 rfl rfl rfl (Nat.le_of_ble_eq_true rfl) ?_
  simp [go_sem, IntWalk.iteOmega, IntWalk.toNatUp]
  generalize (w.alloc (.cells CC 33)).alloc (.cells BB 39) = w1 at *
  refine callE_of (hL w1 (hC.keep k2)) ?_
  rintro _ w2 ⟨rfl, k3⟩
  have kk := k2.trans (k3.mono k2.size)
  have hX2 := hX.keep k3
  have hB2 := hB.keep k3
  simp [go_sem, IntWalk.iteOmega, IntWalk.toNatUp]
  refine callE_of (few_any l vl w2 (Sl_on hs kk)) ?_
  rintro _ w3 ⟨⟨t, rfl⟩, k4⟩
  have kk3 := kk.trans (k4.mono kk.size)
  have hX3 := hX2.keep k4
  have hB3 := hB2.keep k4
  have out : ∀ w', Below w3.heap.size w3 w' → Cubes w' := fun w' h => hC.keep (kk3.trans (h.mono kk3.size))
  rcases t with _ | _
  · simp [go_sem, IntWalk.iteOmega, IntWalk.toNatUp]
    refine callE_of (hL w3 (out _ (Below.refl _ _))) ?_
    rintro _ w4 ⟨rfl, k5⟩
    simp [go_sem, IntWalk.iteOmega, IntWalk.toNatUp]
    exact kk3.trans (k5.mono kk3.size)
  have hdat : w3.cell? ⟨w.heap.size + 1, 33, none⟩ = some (.slice A n k) := by
    rw [hB3.cell, ← hBB]
    have := bkv_33 hok.len (dv := .slice A n k)
    simpa using this
  have lB := hB3.lt
  have hnl : n = b.data.length := by
    obtain ⟨_, _, e, _⟩ := id hd
    injection e with _ e _
  by_cases h1000 : (1000 : Int) < n
  · simp [go_sem, IntWalk.iteOmega, IntWalk.toNatUp, hdat, lB, h1000]
    refine callE_of (hL w3 (out _ (Below.refl _ _))) ?_
    rintro _ w4 ⟨rfl, k5⟩
    simp [go_sem, IntWalk.iteOmega, IntWalk.toNatUp]
    exact kk3.trans (k5.mono kk3.size)
  simp [go_sem, IntWalk.iteOmega, IntWalk.toNatUp, hdat, lB, h1000]
  refine callE_of (tnew_any w3) ?_
  rintro _ w4 ⟨rfl, hT4, k5, s4⟩
  simp [go_sem, IntWalk.iteOmega, IntWalk.toNatUp]
  refine callE_of (rtnew_any w4) ?_
  rintro _ w5 ⟨rfl, hU5, k6, s5⟩
  have hT5 : TapeIn w5 w3.heap.size false := Blk.keep hT4 k6
  have k35 := k5.trans (k6.mono k5.size)
  have hX5 := hX3.keep k35
  have hB5 := hB3.keep k35
  cases off
  · simp [go_sem, IntWalk.iteOmega, IntWalk.toNatUp]
    have hXz := hX5
    have hBz := hB5
    have hTz := hT5
    have hUz := hU5
    have kz := kk3.trans (k35.mono kk3.size)
    clear hX5 hB5 hT5 hU5
    generalize w5 = wz at *
    have d1 := nodenew_any c l vl me (some (w3.heap.size, false)) b A n k now wz (Sl_on hs kz) hN hW (by rintro _ _ ⟨⟩; exact hTz) hok (hd.keep kz) (by omega) (hC.keep kz)
    have rX := readCells_all hXz 28 hCs
    have rB := readCells_all hBz 34 hBs
    have lX := hXz.lt
    have lB := hBz.lt
    rw [hCC, hBB] at d1
    simp only [Option.map_some, tapeV] at d1
    simp [go_sem, IntWalk.iteOmega, IntWalk.toNatUp, rX, rB, lX, lB]
    refine callE_of d1 ?_
    rintro v1 wa ⟨p1, ka⟩
    have kza := kz.trans (ka.mono kz.size)
    have hXa := hXz.keep ka
    have hBa := hBz.keep ka
    have hUa : RTapeIn wa w4.heap.size false := Blk.keep hUz ka
    have d2 := rnodenew_any c l vl me w4.heap.size false b A n k now wa (Sl_on hs kza) hN hW hUa hok (hd.keep kza) (by omega)
    rw [hCC, hBB] at d2
    have rXa := readCells_all hXa 28 hCs
    have rBa := readCells_all hBa 34 hBs
    have lXa := hXa.lt
    have lBa := hBa.lt
    have hm := newE_made c l me false b now
    have h32 := @newE_len c l me (some false) b now
    unfold NewPost at p1
    unfold RNewPost at d2
    generalize newE c l me (some false) b now = E at *
    have d3 := fun w' (h : Below w.heap.size w w') => nodenew_any c l vl me none b A n k now w' (Sl_on hs h) hN hW (by rintro _ _ ⟨⟩) hok (hd.keep h) (by omega) (hC.keep h)
    rw [hCC, hBB] at d3
    unfold NewPost at d3
    simp only [Option.map_none, tapeV, if_neg (newE_none c l me b now)] at d3
    by_cases hE : E = 0
    · subst hE
      rw [if_pos rfl] at p1
      simp only [if_true] at d2
      obtain ⟨nn, rfl, hNN⟩ := p1
      have g2 := hm (.inl rfl)
      rw [g2] at d3
      simp [go_sem, IntWalk.iteOmega, IntWalk.toNatUp, rXa, rBa, lXa, lBa]
      refine callE_of d2 ?_
      rintro _ wb ⟨⟨rr, rfl, hRR⟩, kb⟩
      have kzb := kza.trans (kb.mono kza.size)
      have hXb := hXa.keep kb
      have hBb := hBa.keep kb
      have rXb := readCells_all hXb 28 hCs
      have rBb := readCells_all hBb 34 hBs
      have lXb := hXb.lt
      have lBb := hBb.lt
      simp [go_sem, IntWalk.iteOmega, IntWalk.toNatUp, rXb, rBb, lXb, lBb]
      refine callE_of (d3 wb kzb) ?_
      rintro _ wc ⟨rfl, kc⟩
      have kzc := kzb.trans (kc.mono kzb.size)
      have hXc := hXb.keep kc
      simp [go_sem, IntWalk.iteOmega, IntWalk.toNatUp]
      have k9 := (kb.trans (kc.mono kb.size)).drew
      have hNN9 := hNN.keep k9
      have hRR9 := (hRR.keep kc).keep (ext_drew wc)
      have hX9 := hXc.drew
      have kz9 := kzc.drew
      refine W_flow (fun q => q = w.heap.size) (.pure 0 (.pure 1 (.pure 2 (.pure 3 (.pure 4 (.pure 5 (.pure 6 (.pure 7 (.pure 8 (.pure 9 (.pure 10 (.pure 11 (.pure 13 (.one 12 (.one 14 (.pure 15 (.pure 16 (.done)))))))))))))))))) follows (by kernel_rfl) ?_
      generalize wc.drew = w9 at *
      have hr := held_refl (fun q => q = w.heap.size) w9
      have r9 := readCells_all hX9 28 hCs
      have l9 := hX9.lt
      have q1 := ncheck_any c
      have q2 := rncheck_any c
      rw [hCC] at q1 q2
      simp [go_sem, IntWalk.iteOmega, IntWalk.toNatUp, hr, r9, l9]
      refine callE_of (q1 w9) ?_
      rintro _ w10 ⟨rfl, k10⟩
      have hr10 := hr.below k10
      simp [go_sem, IntWalk.iteOmega, IntWalk.toNatUp, hr10]
      refine callE_of (q2 w10) ?_
      rintro _ w11 ⟨rfl, k11⟩
      have k911 := k10.trans (k11.mono k10.size)
      have hr11 := hr.below k911
      simp [go_sem, IntWalk.iteOmega, IntWalk.toNatUp, hr11]
      refine callE_of (alike_any hok (h32 rfl) (hNN9.keep k911) (hRR9.keep k911)) ?_
      rintro _ w12 ⟨rfl, k12⟩
      simp [go_sem, IntWalk.iteOmega, IntWalk.toNatUp]
      exact (kz9.trans (k911.mono kz9.size)).trans (k12.mono (Nat.le_trans kz9.size k911.size))
    · rw [if_neg hE] at p1
      simp only [if_neg hE] at d2
      subst p1
      have hE' : (E != 0) = true := by simpa using hE
      simp [go_sem, IntWalk.iteOmega, IntWalk.toNatUp, rXa, rBa, lXa, lBa]
      refine callE_of d2 ?_
      rintro _ wb ⟨rfl, kb⟩
      have kzb := kza.trans (kb.mono kza.size)
      have hXb := hXa.keep kb
      have hBb := hBa.keep kb
      have rXb := readCells_all hXb 28 hCs
      have rBb := readCells_all hBb 34 hBs
      have lXb := hXb.lt
      have lBb := hBb.lt
      simp [go_sem, IntWalk.iteOmega, IntWalk.toNatUp, rXb, rBb, lXb, lBb]
      refine callE_of (d3 wb kzb) ?_
      rintro _ wc ⟨rfl, kc⟩
      have kzc := kzb.trans (kc.mono kzb.size)
      have hXc := hXb.keep kc
      simp [go_sem, IntWalk.iteOmega, IntWalk.toNatUp]
      have hX9 := hXc.drew
      have kz9 := kzc.drew
      refine W_flow (fun q => q = w.heap.size) (.pure 0 (.pure 1 (.pure 2 (.pure 3 (.pure 4 (.pure 5 (.pure 6 (.pure 7 (.pure 8 (.pure 9 (.pure 10 (.pure 11 (.pure 13 (.one 12 (.one 14 (.pure 15 (.pure 16 (.done)))))))))))))))))) follows (by kernel_rfl) ?_
      generalize wc.drew = w9 at *
      have hr := held_refl (fun q => q = w.heap.size) w9
      have r9 := readCells_all hX9 28 hCs
      have l9 := hX9.lt
      have q1 := ncheck_any c
      have q2 := rncheck_any c
      rw [hCC] at q1 q2
      simp [go_sem, IntWalk.iteOmega, IntWalk.toNatUp, hr, r9, l9, hE']
      refine callE_of (q1 w9) ?_
      rintro _ w10 ⟨rfl, k10⟩
      have hr10 := hr.below k10
      simp [go_sem, IntWalk.iteOmega, IntWalk.toNatUp, hr10]
      refine callE_of (q2 w10) ?_
      rintro _ w11 ⟨rfl, k11⟩
      have k911 := k10.trans (k11.mono k10.size)
      have hr11 := hr.below k911
      have kend := kz9.trans (k911.mono kz9.size)
      by_cases h5 : E = 5
      · rw [hm (.inr (.inl h5))]
        simp [go_sem, IntWalk.iteOmega, IntWalk.toNatUp, hr11, hE', h5]
        exact kend
      · by_cases h30 : E = 30
        · rw [hm (.inr (.inr h30))]
          simp [go_sem, IntWalk.iteOmega, IntWalk.toNatUp, hr11, hE', h30]
          exact kend
        · have h5' : (E != 5) = true := by simpa using h5
          have h30' : (E != 30) = true := by simpa using h30
          simp [go_sem, IntWalk.iteOmega, IntWalk.toNatUp, hr11, hE', h5', h30']
          exact kend
  · simp [go_sem, IntWalk.iteOmega, IntWalk.toNatUp]
    refine callE_of (crash_any hT5) ?_
    rintro _ w6 ⟨rfl, hT6, k7, f7⟩
    have hU6 : RTapeIn w6 w4.heap.size false := Blk_farh hU5 (f7 _ (by omega))
    simp [go_sem, IntWalk.iteOmega, IntWalk.toNatUp]
    refine callE_of (rcrash_any hU6) ?_
    rintro _ wz ⟨rfl, hUz, k8⟩
    have hTz : TapeIn wz w3.heap.size true := Blk.below hT6 (k8 _ (Nat.le_refl _)) (by omega)
    have k37 := (k35.trans (k7 _ (Nat.le_refl _))).trans (k8 w3.heap.size (by omega))
    have hXz := hX3.keep k37
    have hBz := hB3.keep k37
    have kz := kk3.trans (k37.mono kk3.size)
    simp [go_sem, IntWalk.iteOmega, IntWalk.toNatUp]
    have d1 := nodenew_any c l vl me (some (w3.heap.size, true)) b A n k now wz (Sl_on hs kz) hN hW (by rintro _ _ ⟨⟩; exact hTz) hok (hd.keep kz) (by omega) (hC.keep kz)
    have rX := readCells_all hXz 28 hCs
    have rB := readCells_all hBz 34 hBs
    have lX := hXz.lt
    have lB := hBz.lt
    rw [hCC, hBB] at d1
    simp only [Option.map_some, tapeV] at d1
    simp [go_sem, IntWalk.iteOmega, IntWalk.toNatUp, rX, rB, lX, lB]
    refine callE_of d1 ?_
    rintro v1 wa ⟨p1, ka⟩
    have kza := kz.trans (ka.mono kz.size)
    have hXa := hXz.keep ka
    have hBa := hBz.keep ka
    have hUa : RTapeIn wa w4.heap.size true := Blk.keep hUz ka
    have d2 := rnodenew_any c l vl me w4.heap.size true b A n k now wa (Sl_on hs kza) hN hW hUa hok (hd.keep kza) (by omega)
    rw [hCC, hBB] at d2
    have rXa := readCells_all hXa 28 hCs
    have rBa := readCells_all hBa 34 hBs
    have lXa := hXa.lt
    have lBa := hBa.lt
    have hm := newE_made c l me true b now
    have h32 := @newE_len c l me (some true) b now
    unfold NewPost at p1
    unfold RNewPost at d2
    generalize newE c l me (some true) b now = E at *
    have d3 := fun w' (h : Below w.heap.size w w') => nodenew_any c l vl me none b A n k now w' (Sl_on hs h) hN hW (by rintro _ _ ⟨⟩) hok (hd.keep h) (by omega) (hC.keep h)
    rw [hCC, hBB] at d3
    unfold NewPost at d3
    simp only [Option.map_none, tapeV, if_neg (newE_none c l me b now)] at d3
    by_cases hE : E = 0
    · subst hE
      rw [if_pos rfl] at p1
      simp only [if_true] at d2
      obtain ⟨nn, rfl, hNN⟩ := p1
      have g2 := hm (.inl rfl)
      rw [g2] at d3
      simp [go_sem, IntWalk.iteOmega, IntWalk.toNatUp, rXa, rBa, lXa, lBa]
      refine callE_of d2 ?_
      rintro _ wb ⟨⟨rr, rfl, hRR⟩, kb⟩
      have kzb := kza.trans (kb.mono kza.size)
      have hXb := hXa.keep kb
      have hBb := hBa.keep kb
      have rXb := readCells_all hXb 28 hCs
      have rBb := readCells_all hBb 34 hBs
      have lXb := hXb.lt
      have lBb := hBb.lt
      simp [go_sem, IntWalk.iteOmega, IntWalk.toNatUp, rXb, rBb, lXb, lBb]
      refine callE_of (d3 wb kzb) ?_
      rintro _ wc ⟨rfl, kc⟩
      have kzc := kzb.trans (kc.mono kzb.size)
      have hXc := hXb.keep kc
      simp [go_sem, IntWalk.iteOmega, IntWalk.toNatUp]
      have k9 := (kb.trans (kc.mono kb.size)).drew
      have hNN9 := hNN.keep k9
      have hRR9 := (hRR.keep kc).keep (ext_drew wc)
      have hX9 := hXc.drew
      have kz9 := kzc.drew
      refine W_flow (fun q => q = w.heap.size) (.pure 0 (.pure 1 (.pure 2 (.pure 3 (.pure 4 (.pure 5 (.pure 6 (.pure 7 (.pure 8 (.pure 9 (.pure 10 (.pure 11 (.pure 13 (.one 12 (.one 14 (.pure 15 (.pure 16 (.done)))))))))))))))))) follows (by kernel_rfl) ?_
      generalize wc.drew = w9 at *
      have hr := held_refl (fun q => q = w.heap.size) w9
      have r9 := readCells_all hX9 28 hCs
      have l9 := hX9.lt
      have q1 := ncheck_any c
      have q2 := rncheck_any c
      rw [hCC] at q1 q2
      simp [go_sem, IntWalk.iteOmega, IntWalk.toNatUp, hr, r9, l9]
      refine callE_of (q1 w9) ?_
      rintro _ w10 ⟨rfl, k10⟩
      have hr10 := hr.below k10
      simp [go_sem, IntWalk.iteOmega, IntWalk.toNatUp, hr10]
      refine callE_of (q2 w10) ?_
      rintro _ w11 ⟨rfl, k11⟩
      have k911 := k10.trans (k11.mono k10.size)
      have hr11 := hr.below k911
      simp [go_sem, IntWalk.iteOmega, IntWalk.toNatUp, hr11]
      refine callE_of (alike_any hok (h32 rfl) (hNN9.keep k911) (hRR9.keep k911)) ?_
      rintro _ w12 ⟨rfl, k12⟩
      simp [go_sem, IntWalk.iteOmega, IntWalk.toNatUp]
      exact (kz9.trans (k911.mono kz9.size)).trans (k12.mono (Nat.le_trans kz9.size k911.size))
    · rw [if_neg hE] at p1
      simp only [if_neg hE] at d2
      subst p1
      have hE' : (E != 0) = true := by simpa using hE
      simp [go_sem, IntWalk.iteOmega, IntWalk.toNatUp, rXa, rBa, lXa, lBa]
      refine callE_of d2 ?_
      rintro _ wb ⟨rfl, kb⟩
      have kzb := kza.trans (kb.mono kza.size)
      have hXb := hXa.keep kb
      have hBb := hBa.keep kb
      have rXb := readCells_all hXb 28 hCs
      have rBb := readCells_all hBb 34 hBs
      have lXb := hXb.lt
      have lBb := hBb.lt
      simp [go_sem, IntWalk.iteOmega, IntWalk.toNatUp, rXb, rBb, lXb, lBb]
      refine callE_of (d3 wb kzb) ?_
      rintro _ wc ⟨rfl, kc⟩
      have kzc := kzb.trans (kc.mono kzb.size)
      have hXc := hXb.keep kc
      simp [go_sem, IntWalk.iteOmega, IntWalk.toNatUp]
      have hX9 := hXc.drew
      have kz9 := kzc.drew
      refine W_flow (fun q => q = w.heap.size) (.pure 0 (.pure 1 (.pure 2 (.pure 3 (.pure 4 (.pure 5 (.pure 6 (.pure 7 (.pure 8 (.pure 9 (.pure 10 (.pure 11 (.pure 13 (.one 12 (.one 14 (.pure 15 (.pure 16 (.done)))))))))))))))))) follows (by kernel_rfl) ?_
      generalize wc.drew = w9 at *
      have hr := held_refl (fun q => q = w.heap.size) w9
      have r9 := readCells_all hX9 28 hCs
      have l9 := hX9.lt
      have q1 := ncheck_any c
      have q2 := rncheck_any c
      rw [hCC] at q1 q2
      simp [go_sem, IntWalk.iteOmega, IntWalk.toNatUp, hr, r9, l9, hE']
      refine callE_of (q1 w9) ?_
      rintro _ w10 ⟨rfl, k10⟩
      have hr10 := hr.below k10
      simp [go_sem, IntWalk.iteOmega, IntWalk.toNatUp, hr10]
      refine callE_of (q2 w10) ?_
      rintro _ w11 ⟨rfl, k11⟩
      have k911 := k10.trans (k11.mono k10.size)
      have hr11 := hr.below k911
      have kend := kz9.trans (k911.mono kz9.size)
      by_cases h5 : E = 5
      · rw [hm (.inr (.inl h5))]
        simp [go_sem, IntWalk.iteOmega, IntWalk.toNatUp, hr11, hE', h5]
        exact kend
      · by_cases h30 : E = 30
        · rw [hm (.inr (.inr h30))]
          simp [go_sem, IntWalk.iteOmega, IntWalk.toNatUp, hr11, hE', h30]
          exact kend
        · have h5' : (E != 5) = true := by simpa using h5
          have h30' : (E != 30) = true := by simpa using h30
          simp [go_sem, IntWalk.iteOmega, IntWalk.toNatUp, hr11, hE', h5', h30']
          exact kend
end Go.Proofs.YtmcbcoafodmbjaaGreatDoor
namespace Go.Proofs.YtmcbcoafodmbjaaGreatDoor
open Go.RowKit Go.ChangeShapes Go.WideShapes
set_option linter.unusedVariables false
section
variable {H : Type} {enc : TypeId × Value → H} {P : Program} {t : TypeId} {fs : Array Field}
def structOf (P : Program) (t : TypeId) : Option (List (Nat × Option TypeDesc × Nat)) :=
  match P.underlying t with
  | some (.struct fs) => some (fs.toList.map fun f => (f.offset, P.underlying f.type, P.cellsOf f.type))
  | _ => none
/-! Structs of ints, strings and bools. -/
def leafOf (d : TypeDesc) (v : Value) : Prop := match d with
  | .int k => ∃ a, v = .int k a ∧ (Lit.int k a).wf = true
  | .string => ∃ s : ByteArray, v = .string s ∧ s.size ≤ maxLen
  | .bool => ∃ b, v = .bool b
  | _ => True
def isLeaf (x : Nat × Option TypeDesc × Nat) : Bool := x.2.2 == 1 && (match x.2.1 with | some (.int _) | some .string | some .bool => true | _ => false)
theorem trod_leaf {t : TypeId} {d : TypeDesc} {W : World} {base fuel : Nat} {sp : Nat → Bool} {held : Bool} {cs : List Value} {y : DataW H × List MemPlace} (ht : P.underlying t = some d) (hl : isLeaf (0, some d, 1) = true)
    (hf : DataW.trod enc P W base sp held fuel t cs = some y) : ∃ v, cs = [v] ∧ leafOf d v := by
  cases d <;> simp [isLeaf] at hl
  case int k => obtain ⟨a, e, _, wa⟩ := DataW.trod_int ht hf; exact ⟨_, e, a, rfl, wa⟩
  case string => obtain ⟨s, e, _, ws⟩ := DataW.trod_string ht hf; exact ⟨_, e, s, rfl, ws⟩
  case bool => obtain ⟨b, e, _⟩ := DataW.trod_bool ht hf; exact ⟨_, e, b, rfl⟩
theorem mapM_leafs {W : World} {base : Nat} {sp : Nat → Bool} {held : Bool} {m : Nat} {cs : List Value} : ∀ (L : List Field) (ys : List (DataW H × List MemPlace)), (∀ f ∈ L, isLeaf (f.offset, P.underlying f.type, P.cellsOf f.type) = true) →
    L.mapM (fun f => DataW.trod enc P W base sp held m f.type ((cs.drop f.offset).take (P.cellsOf f.type))) = some ys →
    ∀ f ∈ L, ∃ d v, P.underlying f.type = some d ∧ cs[f.offset]? = some v ∧ leafOf d v
  | [], ys, _, h => fun f hf => by cases hf
  | f :: L, ys, hall, h => by
    rw [List.mapM_cons] at h
    simp only [bind, Option.bind_eq_some_iff, pure, Option.some.injEq] at h
    obtain ⟨y, hy, ys', hys, rfl⟩ := h
    have ih := mapM_leafs L ys' (fun g hg => hall g (List.mem_cons_of_mem _ hg)) hys
    have h0 := hall f (List.mem_cons_self ..)
    have h1 : P.cellsOf f.type = 1 := by simp only [isLeaf, Bool.and_eq_true, beq_iff_eq] at h0; exact h0.1
    obtain ⟨d, hd⟩ : ∃ d, P.underlying f.type = some d := by
      cases hu : P.underlying f.type with
      | none => rw [hu] at h0; simp [isLeaf] at h0
      | some d => exact ⟨d, rfl⟩
    rw [h1] at hy
    have h0' : isLeaf (0, some d, 1) = true := by rw [hd, h1] at h0; simpa [isLeaf] using h0
    obtain ⟨v, ev, hv⟩ := trod_leaf hd h0' hy
    intro g hg
    rcases List.mem_cons.1 hg with rfl | hg
    · refine ⟨d, v, hd, ?_, hv⟩
      have := congrArg (·[0]?) ev
      simpa [List.getElem?_take, List.getElem?_drop] using this
    · exact ih g hg
theorem trod_leafs {t : TypeId} {L : List (Nat × Option TypeDesc × Nat)} (hL : structOf P t = some L) (hall : L.all isLeaf = true) {W : World} {base fuel : Nat} {sp : Nat → Bool} {held : Bool} {cs : List Value} {y : DataW H × List MemPlace}
    (hf : DataW.trod enc P W base sp held fuel t cs = some y) : cs.length = P.cellsOf t ∧ ∀ (o : Nat) (d : TypeDesc), (o, some d, 1) ∈ L → ∃ v, cs[o]? = some v ∧ leafOf d v := by
  unfold structOf at hL
  split at hL
  · rename_i fs ht
    injection hL with hL
    subst hL
    have hall' : ∀ f ∈ fs.toList, isLeaf (f.offset, P.underlying f.type, P.cellsOf f.type) = true := by
      rw [List.all_eq_true] at hall
      intro f hf
      exact hall _ (List.mem_map.2 ⟨f, hf, rfl⟩)
    cases fuel with
    | zero => simp [DataW.trod] at hf
    | succ m =>
      unfold DataW.trod at hf
      simp only [ht] at hf
      split at hf
      · rename_i hlen
        simp only [Option.map_eq_some_iff] at hf
        obtain ⟨ys, hy, e1⟩ := hf
        refine ⟨hlen, fun o d hm => ?_⟩
        obtain ⟨f, hfm, e⟩ := List.mem_map.1 hm
        simp only [Prod.mk.injEq] at e
        obtain ⟨e1, e2, _⟩ := e
        obtain ⟨d', v, h1, h2, h3⟩ := mapM_leafs _ _ hall' hy f hfm
        rw [h1] at e2
        injection e2 with e2
        subst e1; subst e2
        exact ⟨v, h2, h3⟩
      · cases hf
  · cases hL
theorem list_of_elems {α : Type} {m : Nat} (enc' : α → List Value) (Q : α → Prop) : ∀ (n : Nat) (xs : List Value), xs.length = n * m → (∀ i, i < n → ∃ x, (xs.drop (i * m)).take m = enc' x ∧ Q x) →
    ∃ l : List α, l.length = n ∧ xs = l.flatMap enc' ∧ ∀ x ∈ l, Q x
  | 0, xs, hlen, _ => ⟨[], rfl, by simpa using hlen, fun x hx => by cases hx⟩
  | n + 1, xs, hlen, h => by
    obtain ⟨x, hx, hq⟩ := h 0 (by omega)
    obtain ⟨l, h1, h2, h3⟩ := list_of_elems (m := m) enc' Q n (xs.drop m) (by rw [List.length_drop, hlen, Nat.succ_mul]; omega) (fun i hi => by
      obtain ⟨y, hy, hqy⟩ := h (i + 1) (by omega)
      refine ⟨y, ?_, hqy⟩
      rw [List.drop_drop, ← hy]
      congr 2
      rw [Nat.succ_mul]; omega)
    refine ⟨x :: l, by simp [h1], ?_, fun y hy => ?_⟩
    · rw [List.flatMap_cons, ← h2, ← hx]
      simp
    · rcases List.mem_cons.1 hy with rfl | hy
      · exact hq
      · exact h3 y hy
end
end Go.Proofs.YtmcbcoafodmbjaaGreatDoor

/-
  A configuration and a block by value, opened.
-/
namespace Go.Proofs.YtmcbcoafodmbjaaGreatDoor
open Go.RowKit Go.ChangeShapes Go.WideShapes
set_option linter.unusedVariables false
set_option linter.unusedSimpArgs false
set_option maxRecDepth 10000
section
variable {H : Type} {enc : TypeId × Value → H} {P : Program}
theorem na_each {α β : Type} {f : α → Option β} : ∀ (L : List α) (ys : List β), L.mapM f = some ys → ∀ x ∈ L, ∃ y, f x = some y
  | [], ys, _, x, hx => by cases hx
  | z :: L, ys, h, x, hx => by
    rw [List.mapM_cons] at h
    simp only [bind, Option.bind_eq_some_iff, pure, Option.some.injEq] at h
    obtain ⟨y, hy, ys', hys, rfl⟩ := h
    rcases List.mem_cons.1 hx with rfl | hx
    · exact ⟨y, hy⟩
    · exact na_each L ys' hys x hx
def naField (P : Program) (t : TypeId) (j : Nat) : Option (TypeId × Nat) := match P.underlying t with
  | some (.struct fs) => (fs.toList[j]?).map fun f => (f.type, f.offset)
  | _ => none
theorem na_field {t ft : TypeId} {j o m : Nat} (hj : naField P t j = some (ft, o)) (hm : P.cellsOf ft = m) {W : World} {base fuel : Nat} {sp : Nat → Bool} {held : Bool} {cs : List Value} {y : DataW H × List MemPlace}
    (hf : DataW.trod enc P W base sp held fuel t cs = some y) : cs.length = P.cellsOf t ∧ ∃ fuel z, DataW.trod enc P W base sp held fuel ft ((cs.drop o).take m) = some z := by
  subst hm
  unfold naField at hj
  split at hj
  · rename_i fs ht
    simp only [Option.map_eq_some_iff, Prod.mk.injEq] at hj
    obtain ⟨f, hf0, rfl, rfl⟩ := hj
    have hfm : f ∈ fs.toList := List.mem_of_getElem? hf0
    cases fuel with
    | zero => simp [DataW.trod] at hf
    | succ k =>
      unfold DataW.trod at hf
      simp only [ht] at hf
      split at hf
      · rename_i hlen
        simp only [Option.map_eq_some_iff] at hf
        obtain ⟨ys, hy, e1⟩ := hf
        refine ⟨hlen, ?_⟩
        obtain ⟨z, hz⟩ := na_each _ _ hy f hfm
        exact ⟨k, z, hz⟩
      · cases hf
  · cases hj
theorem na_one {cs : List Value} {o : Nat} {v : Value} (h : (cs.drop o).take 1 = [v]) : cs[o]? = some v := by
  have := congrArg (·[0]?) h
  simpa [List.getElem?_take, List.getElem?_drop] using this
theorem na_int {t ft : TypeId} {j o : Nat} (hj : naField P t j = some (ft, o)) (hm : P.cellsOf ft = 1) (hu : P.underlying ft = some (.int .i64)) {W : World} {base fuel : Nat} {sp : Nat → Bool} {held : Bool} {cs : List Value} {y : DataW H × List MemPlace}
    (hf : DataW.trod enc P W base sp held fuel t cs = some y) : ∃ n, cs[o]? = some (.int .i64 n) ∧ -9223372036854775808 ≤ n ∧ n ≤ 9223372036854775807 := by
  obtain ⟨_, f2, z, hz⟩ := na_field hj hm hf
  obtain ⟨n, e, _, wa⟩ := DataW.trod_int hu hz
  exact ⟨n, na_one e, bounds_i64 wa⟩
theorem na_sub {cs : List Value} {o m k : Nat} {v : Value} (h : ((cs.drop o).take m)[k]? = some v) : cs[o + k]? = some v := by
  rw [List.getElem?_take] at h
  split at h
  · rwa [List.getElem?_drop] at h
  · cases h
theorem na_bytes {t e : TypeId} {n : Nat} (ht : P.underlying t = some (.array n e)) (he : P.underlying e = some (.int .u8)) (hc : P.cellsOf e = 1) (hct : P.cellsOf t = n) {W : World} {base fuel : Nat} {sp : Nat → Bool} {held : Bool} {cs : List Value} {y : DataW H × List MemPlace}
    (hf : DataW.trod enc P W base sp held fuel t cs = some y) : ∃ l : List UInt8, l.length = n ∧ cs = bl l := by
  obtain ⟨xs, m, _, _, hlen, hxl, hi⟩ := DataW.trod_array ht hf
  rw [hct] at hlen
  rw [hc] at hi
  have hall : ∀ i, i < n → ∃ c : UInt8, (cs.drop (i * 1)).take 1 = [.int .u8 (c.toNat : Int)] := by
    intro i hin
    obtain ⟨x, hx⟩ : ∃ x, xs[i]? = some x := ⟨_, List.getElem?_eq_getElem (by omega)⟩
    have := hi i hin
    rw [hx] at this
    obtain ⟨a, ea, _, wa⟩ := DataW.trod_int he this
    have hb : 0 ≤ a ∧ a ≤ 255 := by simpa [Lit.wf, IntKind.min, IntKind.max, IntKind.signed, IntKind.bits] using wa
    refine ⟨UInt8.ofNat a.toNat, ?_⟩
    rw [ea]
    congr 2
    simp
    omega
  obtain ⟨l, h1, h2, _⟩ := list_of_elems (m := 1) (fun c : UInt8 => [.int .u8 (c.toNat : Int)]) (fun _ => True) n cs (by omega) (fun i hin => by
    obtain ⟨c, hc⟩ := hall i hin
    exact ⟨c, hc, trivial⟩)
  refine ⟨l, h1, ?_⟩
  rw [h2]
  unfold bl
  clear h1 h2
  induction l with
  | nil => rfl
  | cons a l ih => simp [ih]
end
section
variable {H : Type} {enc : TypeId × Value → H}
theorem open_config {W : World} {base b0 : Nat} {sp : Nat → Bool} {held : Bool} {v : Value} {d : DataW H} {ps : List MemPlace} (hval : Value.okWide Tryz.prog W .any base 33 v) (hd : DataW.Trod enc Tryz.prog W b0 sp held 33 v d ps) :
    ∃ c : Nat → Int, v = .agg (cfL c).toArray := by
  obtain ⟨cs, rfl, hcs⟩ := okWide_struct Tryz.underlying33 hval
  obtain ⟨fuel, hf⟩ := hd
  have hlen : cs.size = 28 := hcs.trans (by kernel_rfl)
  have I := Tryz.underlying3
  have J := Tryz.underlying2
  obtain ⟨_, _, zp, hp⟩ := na_field (j := 0) (o := 0) (ft := 23) (m := 4) (by kernel_rfl) (by kernel_rfl) hf
  obtain ⟨_, _, zg, hg⟩ := na_field (j := 9) (o := 12) (ft := 25) (m := 5) (by kernel_rfl) (by kernel_rfl) hf
  obtain ⟨_, _, ze, he⟩ := na_field (j := 10) (o := 17) (ft := 31) (m := 11) (by kernel_rfl) (by kernel_rfl) hf
  obtain ⟨_, _, zr, hr⟩ := na_field (j := 1) (o := 1) (ft := 27) (m := 5) (by kernel_rfl) (by kernel_rfl) he
  obtain ⟨_, _, zb, hb⟩ := na_field (j := 2) (o := 6) (ft := 29) (m := 5) (by kernel_rfl) (by kernel_rfl) he
  have hall : ∀ i, i < 28 → ∃ n, cs[i]? = some (.int .i64 n) := by
    obtain ⟨n0, g0, -⟩ := na_int (j := 0) (o := 0) (ft := 3) (by kernel_rfl) (by kernel_rfl) I hp
    obtain ⟨n1, g1, -⟩ := na_int (j := 1) (o := 1) (ft := 3) (by kernel_rfl) (by kernel_rfl) I hp
    obtain ⟨n2, g2, -⟩ := na_int (j := 2) (o := 2) (ft := 3) (by kernel_rfl) (by kernel_rfl) I hp
    obtain ⟨n3, g3, -⟩ := na_int (j := 3) (o := 3) (ft := 3) (by kernel_rfl) (by kernel_rfl) I hp
    obtain ⟨n4, g4, -⟩ := na_int (j := 1) (o := 4) (ft := 2) (by kernel_rfl) (by kernel_rfl) J hf
    obtain ⟨n5, g5, -⟩ := na_int (j := 2) (o := 5) (ft := 3) (by kernel_rfl) (by kernel_rfl) I hf
    obtain ⟨n6, g6, -⟩ := na_int (j := 3) (o := 6) (ft := 3) (by kernel_rfl) (by kernel_rfl) I hf
    obtain ⟨n7, g7, -⟩ := na_int (j := 4) (o := 7) (ft := 3) (by kernel_rfl) (by kernel_rfl) I hf
    obtain ⟨n8, g8, -⟩ := na_int (j := 5) (o := 8) (ft := 3) (by kernel_rfl) (by kernel_rfl) I hf
    obtain ⟨n9, g9, -⟩ := na_int (j := 6) (o := 9) (ft := 3) (by kernel_rfl) (by kernel_rfl) I hf
    obtain ⟨n10, g10, -⟩ := na_int (j := 7) (o := 10) (ft := 3) (by kernel_rfl) (by kernel_rfl) I hf
    obtain ⟨n11, g11, -⟩ := na_int (j := 8) (o := 11) (ft := 2) (by kernel_rfl) (by kernel_rfl) J hf
    obtain ⟨n12, g12, -⟩ := na_int (j := 0) (o := 0) (ft := 2) (by kernel_rfl) (by kernel_rfl) J hg
    obtain ⟨n13, g13, -⟩ := na_int (j := 1) (o := 1) (ft := 2) (by kernel_rfl) (by kernel_rfl) J hg
    obtain ⟨n14, g14, -⟩ := na_int (j := 2) (o := 2) (ft := 2) (by kernel_rfl) (by kernel_rfl) J hg
    obtain ⟨n15, g15, -⟩ := na_int (j := 3) (o := 3) (ft := 3) (by kernel_rfl) (by kernel_rfl) I hg
    obtain ⟨n16, g16, -⟩ := na_int (j := 4) (o := 4) (ft := 2) (by kernel_rfl) (by kernel_rfl) J hg
    obtain ⟨n17, g17, -⟩ := na_int (j := 0) (o := 0) (ft := 3) (by kernel_rfl) (by kernel_rfl) I he
    obtain ⟨n18, g18, -⟩ := na_int (j := 0) (o := 0) (ft := 2) (by kernel_rfl) (by kernel_rfl) J hr
    obtain ⟨n19, g19, -⟩ := na_int (j := 1) (o := 1) (ft := 2) (by kernel_rfl) (by kernel_rfl) J hr
    obtain ⟨n20, g20, -⟩ := na_int (j := 2) (o := 2) (ft := 2) (by kernel_rfl) (by kernel_rfl) J hr
    obtain ⟨n21, g21, -⟩ := na_int (j := 3) (o := 3) (ft := 2) (by kernel_rfl) (by kernel_rfl) J hr
    obtain ⟨n22, g22, -⟩ := na_int (j := 4) (o := 4) (ft := 2) (by kernel_rfl) (by kernel_rfl) J hr
    obtain ⟨n23, g23, -⟩ := na_int (j := 0) (o := 0) (ft := 3) (by kernel_rfl) (by kernel_rfl) I hb
    obtain ⟨n24, g24, -⟩ := na_int (j := 1) (o := 1) (ft := 2) (by kernel_rfl) (by kernel_rfl) J hb
    obtain ⟨n25, g25, -⟩ := na_int (j := 2) (o := 2) (ft := 2) (by kernel_rfl) (by kernel_rfl) J hb
    obtain ⟨n26, g26, -⟩ := na_int (j := 3) (o := 3) (ft := 2) (by kernel_rfl) (by kernel_rfl) J hb
    obtain ⟨n27, g27, -⟩ := na_int (j := 4) (o := 4) (ft := 2) (by kernel_rfl) (by kernel_rfl) J hb
    simp only [Value.cells] at *
    have p0 := na_sub g0
    have p1 := na_sub g1
    have p2 := na_sub g2
    have p3 := na_sub g3
    have p12 := na_sub g12
    have p13 := na_sub g13
    have p14 := na_sub g14
    have p15 := na_sub g15
    have p16 := na_sub g16
    have p17 := na_sub g17
    have p18 := na_sub (na_sub g18)
    have p19 := na_sub (na_sub g19)
    have p20 := na_sub (na_sub g20)
    have p21 := na_sub (na_sub g21)
    have p22 := na_sub (na_sub g22)
    have p23 := na_sub (na_sub g23)
    have p24 := na_sub (na_sub g24)
    have p25 := na_sub (na_sub g25)
    have p26 := na_sub (na_sub g26)
    have p27 := na_sub (na_sub g27)
    intro i hi
    rw [← Array.getElem?_toList]
    rcases (by omega : i = 0 ∨ i = 1 ∨ i = 2 ∨ i = 3 ∨ i = 4 ∨ i = 5 ∨ i = 6 ∨ i = 7 ∨ i = 8 ∨ i = 9 ∨ i = 10 ∨ i = 11 ∨ i = 12 ∨ i = 13 ∨ i = 14 ∨ i = 15 ∨ i = 16 ∨ i = 17 ∨ i = 18 ∨ i = 19 ∨ i = 20 ∨ i = 21 ∨ i = 22 ∨ i = 23 ∨ i = 24 ∨ i = 25 ∨ i = 26 ∨ i = 27) with
      rfl | rfl | rfl | rfl | rfl | rfl | rfl | rfl | rfl | rfl | rfl | rfl | rfl | rfl | rfl | rfl | rfl | rfl | rfl | rfl | rfl | rfl | rfl | rfl | rfl | rfl | rfl | rfl
    · exact ⟨_, p0⟩
    · exact ⟨_, p1⟩
    · exact ⟨_, p2⟩
    · exact ⟨_, p3⟩
    · exact ⟨_, g4⟩
    · exact ⟨_, g5⟩
    · exact ⟨_, g6⟩
    · exact ⟨_, g7⟩
    · exact ⟨_, g8⟩
    · exact ⟨_, g9⟩
    · exact ⟨_, g10⟩
    · exact ⟨_, g11⟩
    · exact ⟨_, p12⟩
    · exact ⟨_, p13⟩
    · exact ⟨_, p14⟩
    · exact ⟨_, p15⟩
    · exact ⟨_, p16⟩
    · exact ⟨_, p17⟩
    · exact ⟨_, p18⟩
    · exact ⟨_, p19⟩
    · exact ⟨_, p20⟩
    · exact ⟨_, p21⟩
    · exact ⟨_, p22⟩
    · exact ⟨_, p23⟩
    · exact ⟨_, p24⟩
    · exact ⟨_, p25⟩
    · exact ⟨_, p26⟩
    · exact ⟨_, p27⟩
  refine ⟨fun i => intOf (cs.getD i (.int .i64 0)), ?_⟩
  congr 1
  apply Array.ext_getElem?
  intro i
  have key : ∀ (j : Nat) (hj : j < 28), (cfL (fun i => intOf (cs.getD i (.int .i64 0))))[j]? = some (.int .i64 (intOf (cs.getD j (.int .i64 0)))) := by
    intro j hj
    rcases (by omega : j = 0 ∨ j = 1 ∨ j = 2 ∨ j = 3 ∨ j = 4 ∨ j = 5 ∨ j = 6 ∨ j = 7 ∨ j = 8 ∨ j = 9 ∨ j = 10 ∨ j = 11 ∨ j = 12 ∨ j = 13 ∨ j = 14 ∨ j = 15 ∨ j = 16 ∨ j = 17 ∨ j = 18 ∨ j = 19 ∨ j = 20 ∨ j = 21 ∨ j = 22 ∨ j = 23 ∨ j = 24 ∨ j = 25 ∨ j = 26 ∨ j = 27) with
      rfl | rfl | rfl | rfl | rfl | rfl | rfl | rfl | rfl | rfl | rfl | rfl | rfl | rfl | rfl | rfl | rfl | rfl | rfl | rfl | rfl | rfl | rfl | rfl | rfl | rfl | rfl | rfl <;> rfl
  by_cases hi : i < 28
  · obtain ⟨n, hn⟩ := hall i hi
    rw [hn, List.getElem?_toArray, key i hi, Array.getD_eq_getD_getElem?, hn]
    rfl
  · rw [Array.getElem?_eq_none (by omega), List.getElem?_toArray, List.getElem?_eq_none (by show 28 ≤ i; omega)]
theorem open_block {W : World} {base b0 : Nat} {sp : Nat → Bool} {held : Bool} {v : Value} {d : DataW H} {ps : List MemPlace} (hval : Value.okWide Tryz.prog W .any base 39 v) (hd : DataW.Trod enc Tryz.prog W b0 sp held 39 v d ps) :
    ∃ (b : Bk) (A : Option Addr) (n k : Nat), v = .agg (bkv b (.slice A n k)).toArray ∧ BkOk b ∧ RdB W (.slice A n k) b.data := by
  obtain ⟨cs, rfl, hcs⟩ := okWide_struct Tryz.underlying39 hval
  obtain ⟨fuel, hf⟩ := hd
  have hlen : cs.size = 34 := hcs.trans (by kernel_rfl)
  have c8 : Tryz.prog.cellsOf 5 = 1 := by kernel_rfl
  obtain ⟨_, _, z0, h0⟩ := na_field (j := 0) (o := 0) (ft := 36) (m := 32) (by kernel_rfl) (by kernel_rfl) hf
  obtain ⟨l, hl, g0⟩ := na_bytes Tryz.underlying36 Tryz.underlying5 c8 (by kernel_rfl) h0
  obtain ⟨hh, g1, lo, hi⟩ := na_int (j := 1) (o := 32) (ft := 2) (by kernel_rfl) (by kernel_rfl) Tryz.underlying2 hf
  obtain ⟨_, _, z2, h2⟩ := na_field (j := 2) (o := 33) (ft := 37) (m := 1) (by kernel_rfl) (by kernel_rfl) hf
  obtain ⟨u, n, xs, e2, s2, i2⟩ := open_sl0 Tryz.underlying37 (by rw [c8]; omega) h2
  rw [c8] at s2 i2
  obtain ⟨l7, s7, w7⟩ := ints_of Tryz.underlying5 s2 i2
  obtain ⟨r, s8⟩ := bytes_of s7 w7
  obtain ⟨A, k, rfl, hr, q0, q1, q2⟩ := s8
  refine ⟨⟨l, hh, r⟩, A, r.length, k, ?_, ⟨hl, lo, hi⟩, A, k, rfl, hr, fun h => (q0 h).1, q1, q2⟩
  have g2 := na_one e2
  simp only [Value.cells] at *
  congr 1
  have e : cs.toList = bkv ⟨l, hh, r⟩ (.slice A r.length k) := by
    have h3 : cs.toList = cs.toList.take 32 ++ (cs.toList.drop 32) := (List.take_append_drop 32 _).symm
    rw [h3]
    unfold bkv
    rw [List.drop_zero] at g0
    rw [g0]
    congr 1
    have hd2 : (cs.toList.drop 32).length = 2 := by simp [hlen]
    match hm : cs.toList.drop 32, hd2 with
    | [x, y], _ =>
      have a0 : (cs.toList.drop 32)[0]? = some x := by rw [hm]; rfl
      have a1 : (cs.toList.drop 32)[1]? = some y := by rw [hm]; rfl
      rw [List.getElem?_drop] at a0 a1
      have b0 := g1.symm.trans a0
      have b1 := g2.symm.trans a1
      injection b0 with b0
      injection b1 with b1
      rw [← b0, ← b1]
  rw [← e]
theorem open_vdrsN {W : World} {base b0 : Nat} {sp : Nat → Bool} {held : Bool} {v : Value} {d : DataW H} {ps : List MemPlace} (hval : Value.okWide Tryz.prog W .any base 34 v)
    (hd : DataW.Trod enc Tryz.prog W b0 sp held 34 v d ps) : ∃ l : List Vd, Sl W 2 v l.length (vdrs l) ∧ (∀ x ∈ l, x.name.size ≤ 9223372036854775807) ∧ (∀ x ∈ l, -9223372036854775808 ≤ x.weight ∧ x.weight ≤ 9223372036854775807) := by
  have hc : Tryz.prog.cellsOf 59 = 2 := by kernel_rfl
  obtain ⟨n, xs, hs, hi⟩ := open_sl (P := Tryz.prog) Tryz.underlying34 (by rw [hc]; omega) hval hd
  rw [hc] at hs hi
  have hlen : xs.length = n * 2 := by obtain ⟨A, c, _, h, _⟩ := hs; exact h.len
  obtain ⟨l, h1, h2, h3⟩ := list_of_elems (m := 2) (fun o : Vd => [.string o.name, .int .i64 o.weight]) (fun o => o.name.size ≤ 9223372036854775807 ∧ -9223372036854775808 ≤ o.weight ∧ o.weight ≤ 9223372036854775807) n xs hlen (fun i hin => by
    obtain ⟨fuel, y, hy⟩ := hi i hin
    obtain ⟨hl, hcs⟩ := trod_leafs (L := [(0, some .string, 1), (1, some (.int .i64), 1)]) (by kernel_rfl) (by rfl) hy
    rw [hc] at hl
    obtain ⟨v0, e0, s, rfl, hs0⟩ := hcs 0 .string (by simp)
    obtain ⟨v1, e1, a, rfl, ha⟩ := hcs 1 (.int .i64) (by simp)
    refine ⟨⟨s, a⟩, ?_, by unfold maxLen at hs0; exact hs0, bounds_i64 ha⟩
    match hm : (xs.drop (i * 2)).take 2, hl with
    | [p, q], _ =>
      rw [hm] at e0 e1
      simp at e0 e1
      rw [e0, e1])
  subst h1
  exact ⟨l, by rw [h2] at hs; exact hs, fun x hx => (h3 x hx).1, fun x hx => (h3 x hx).2⟩
end
end Go.Proofs.YtmcbcoafodmbjaaGreatDoor
