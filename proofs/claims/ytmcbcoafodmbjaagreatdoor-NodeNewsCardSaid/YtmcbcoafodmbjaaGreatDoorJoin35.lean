/-
  Texts joined: NNew.
-/
import Derived.Test.YtmcbcoafodmbjaaGreatDoorJoin34

/-
  A node at first.
-/
namespace Go.Proofs.YtmcbcoafodmbjaaGreatDoor
open Go.RowKit
set_option linter.unusedVariables false
set_option linter.unusedSimpArgs false
set_option maxRecDepth 10000
theorem run_eql_nilN {P : Program} {t e : TypeId} (ht : P.underlying t = some (.slice e)) (A : Option Addr) (n c : Nat) (w : World) :
    (binOp .eql t (.slice A n c) (.slice none 0 0)).run P w = .ok (.bool A.isNone) w := by
  unfold binOp Op.equal
  rw [show Op.maxDepth = 9999 + 1 from rfl]
  unfold Op.equalIn
  cases A <;> simp [run_underlying ht, Result.andThen]
theorem clonev_any (l : List Vd) (hl : 1 ≤ l.length ∧ l.length ≤ 32) {A : Option Addr} {cap : Nat} {w : World} (hrd : Rd w 2 A l.length (vdrs l)) : callE Tryz.prog 27 #[.slice A l.length cap] w fun v w' => (∃ A' c', v = .slice A' l.length c') ∧ Below w.heap.size w w' := by
  obtain ⟨g, o, rfl, hg, hc⟩ := hrd.cells (by omega)
  have hz := World.ownsRow_made (base := w.heap.size) (e := 59) (size := 2) w #[] 0 (Nat.le_refl _) (by unfold maxLen; omega) rfl
  have k8 := ext_alloc w (.cells #[] 59)
  have hE := run_eql_nilN (P := Tryz.prog) Tryz.underlying34 (some ⟨g, o, none⟩) l.length cap w
  refine calls_E Tryz.func27 rfl rfl rfl (Nat.le_of_ble_eq_true rfl) ?_
  simp [go_sem, IntWalk.iteOmega, IntWalk.toNatUp, hE]
  refine appendE w.heap.size 59 2 24 Tryz.underlying34 elVdr hz (hrd.keep k8) (vdrs_one l) (by unfold maxLen; omega) (by omega) k8.size ?_
  intro v9 w9 hr9 hg9 hbk9
  rw [Nat.zero_add, List.nil_append] at hr9
  obtain ⟨-, A9, c9, rfl⟩ := own_sl hr9
  simp [go_sem, IntWalk.iteOmega, IntWalk.toNatUp]
  exact k8.trans ((Below.refl w.heap.size _).grown hg9 k8.size (fun k hk => by simp only [Value.ownBlock, Option.some.injEq] at hk; omega))
def weights (l : List Vd) : List Int := l.map Vd.weight
noncomputable def newE (c : Nat → Int) (l : List Vd) (me : Int) (tp : Option Bool) (b : Bk) (now : Int) : Int :=
  if ¬ confOk c then 240 else if checkV l ≠ 0 then checkV l else if me < 0 ∨ (l.length : Int) ≤ me then 4 else if totalV l < c 0 then 60 else if ¬ (0 ≤ now ∧ now ≤ 4611686018427387903) then 131 else openE tp b
def nodeL (c : Nat → Int) (i : Nat) (lv wv gv : Value) (ab gt : Nat) : List Value := pt i :: (cfL c ++ [lv, wv, gv, .slice none 0 0, .int .i64 1, .int .i64 0, .slice none 0 0, .slice none 0 0, .slice none 0 0, .pointer none, .pointer none, .pointer none, .pointer none, .int .i64 0, .map (some ab), .map (some gt), .slice none 0 0, .slice none 0 0, .slice none 0 0, .slice none 0 0, .int .i64 0])
def NodeAt (w : World) (n : Nat) (c : Nat → Int) (l : List Vd) (b : Bk) (now : Int) : Prop := ∃ i ch p lv wv g ab gt B, Blk w n 110 (nodeL c i lv wv (pt g) ab gt).toArray ∧ Blk w i 90 #[pt ch, pt p] ∧ ChainAt w ch b ∧ PeerAt w p c now ∧ GateIn w B g (GS.new (gcf c) (weights l))
theorem NodeAt.keep {w w' : World} {n : Nat} {c : Nat → Int} {l : List Vd} {b : Bk} {now : Int} (h : NodeAt w n c l b now) (hb : Below w.heap.size w w') : NodeAt w' n c l b now := by
  obtain ⟨i, ch, p, lv, wv, g, ab, gt, B, h1, h2, h3, h4, h5⟩ := h
  exact ⟨i, ch, p, lv, wv, g, ab, gt, B, h1.keep hb, h2.keep hb, h3.keep hb, h4.keep hb, h5.grow hb⟩
def NewPost (c : Nat → Int) (l : List Vd) (me : Int) (tp : Option Bool) (b : Bk) (now : Int) (v : Value) (w' : World) : Prop := if newE c l me tp b now = 0 then ∃ n, v = .tuple #[pt n, .int .i64 0] ∧ NodeAt w' n c l b now else v = .tuple #[.pointer none, .int .i64 (newE c l me tp b now)]
theorem newPost_bad {c : Nat → Int} {l : List Vd} {me : Int} {tp : Option Bool} {b : Bk} {now E : Int} (w' : World) (h : newE c l me tp b now = E) (hE : E ≠ 0) : NewPost c l me tp b now (.tuple #[.pointer none, .int .i64 E]) w' := by
  unfold NewPost
  rw [h, if_neg hE]
theorem check_len {l : List Vd} (h : checkV l = 0) : 1 ≤ l.length ∧ l.length ≤ 32 := by
  unfold checkV at h
  split at h
  · cases h
  · omega
theorem wk_at {l : List Vd} {i : Nat} (h : i < l.length) : (weights l).getD i 0 = (vAt l i).weight := by
  rw [← vAt_eq h]
  simp [weights, List.getD, h]
theorem wk_sum {l : List Vd} : ∀ {i : Nat}, i ≤ l.length → sumTo (weights l) i = wSum l i
  | 0, _ => rfl
  | i + 1, h => by
    unfold sumTo wSum
    rw [wk_sum (i := i) (by omega), wk_at (by omega)]
theorem wk_ok {l : List Vd} : ∀ {i : Nat}, i ≤ l.length → wOk l i → okTo (weights l) i
  | 0, _, _ => trivial
  | i + 1, h, hw => by
    refine ⟨wk_ok (by omega) fun j hj => hw j (by omega), ?_⟩
    rw [wk_at (by omega), wk_sum (by omega)]
    exact hw i (by omega)
theorem wk_len (l : List Vd) : (weights l).length = l.length := by simp [weights]
theorem wk_okW {l : List Vd} (h : checkV l = 0) : okW (weights l) = true := by
  obtain ⟨h1, h2, -, h4⟩ := check0 h
  unfold okW
  rw [wk_len]
  exact decide_eq_true ⟨h1, h2, wk_ok (Nat.le_refl _) h4⟩
theorem gate_node {w : World} {B g r o : Nat} {S : GS} {cs : Array Value} (h : GateIn w B g S) (hr : Blk w r 110 cs) (v : Value) : GateIn (w.setCell ⟨r, o, none⟩ v) B g S := by
  obtain ⟨sv, m, b, h1, h2, h3, hg, hsh, hmp, ⟨cs', hst, hq⟩, hn⟩ := h
  have f : ∀ k, k ≠ r → (w.setCell ⟨r, o, none⟩ v).heap[k]? = w.heap[k]? := fun k hk => Below.heap_setCell _ _ _ _ hk
  exact ⟨sv, m, b, h1, h2, h3, Blk_farh hg (f _ (Blk_ne hg hr (by decide))), own_far hsh fun k cs hk => f _ (Blk_ne (t := 2) hk hr (by decide)), Mp_far hmp (f _ fun e => Blk_ne_map hr hmp e.symm), ⟨cs', Blk_farh hst (f _ (Blk_ne hst hr (by decide))), hq⟩, hn⟩
set_option maxHeartbeats 3200000 in
theorem nodebuild {ty : TypeId} {pos : String} {after : Array Edge} {s : Slots} {w : World} {c : Nat → Int} {i n cp ab gt : Nat} {A : Option Addr} (h1 : s 71 = pt i) (h2 : s 72 = .agg (cfL c).toArray) (h3 : s 74 = .slice A n cp) (h4 : s 75 = .map (some ab)) (h5 : s 76 = .map (some gt)) :
    opR Tryz.prog ⟨some 77, .build 110 #[(0, .tmp 71), (1, .tmp 72), (2, .tmp 74), (6, .const (.int .i64 1)), (13, .tmp 75), (14, .tmp 76)], ty, pos, after, none⟩ s w = .ok (.value (.agg (nodeL c i (.slice A n cp) (.slice none 0 0) (.pointer none) ab gt).toArray)) w := by
  unfold cfL at h2
  simp [go_sem, h1, h2, h3, h4, h5]
  rfl
def NIn (ch p : Nat) : Vow := fun v w => ∃ i, v = pt i ∧ Blk w i 90 #[pt ch, pt p]
def NCells (c : Nat → Int) (n ch p : Nat) : Vow := fun v w => ∃ i A cp ab gt, v = .agg (nodeL c i (.slice A n cp) (.slice none 0 0) (.pointer none) ab gt).toArray ∧ Blk w i 90 #[pt ch, pt p]
def NBox (c : Nat → Int) (n ch p B : Nat) : Vow := fun v w => ∃ i A cp ab gt r, v = pt r ∧ B ≤ r ∧ Blk w r 110 (nodeL c i (.slice A n cp) (.slice none 0 0) (.pointer none) ab gt).toArray ∧ Blk w i 90 #[pt ch, pt p]
theorem firm_nin (ch p : Nat) : (NIn ch p).Firm := ⟨fun ⟨i, h1, h2⟩ hb => ⟨i, h1, h2.keep hb⟩⟩
theorem firm_ncells (c : Nat → Int) (n ch p : Nat) : (NCells c n ch p).Firm := ⟨fun ⟨i, A, cp, ab, gt, h1, h2⟩ hb => ⟨i, A, cp, ab, gt, h1, h2.keep hb⟩⟩
theorem firm_nbox (c : Nat → Int) (n ch p B : Nat) : (NBox c n ch p B).Firm := ⟨fun ⟨i, A, cp, ab, gt, r, h1, h0, h2, h3⟩ hb => ⟨i, A, cp, ab, gt, r, h1, h0, h2.keep hb, h3.keep hb⟩⟩
set_option maxHeartbeats 3200000 in
theorem nodenew_any (c : Nat → Int) (l : List Vd) (vl : Value) (me : Int) (tp : Option (Nat × Bool)) (b : Bk) (A : Option Addr) (n k : Nat) (now : Int) (w : World) (hs : Sl w 2 vl l.length (vdrs l)) (hN : ∀ x ∈ l, x.name.size ≤ 9223372036854775807) (hW : ∀ x ∈ l, -9223372036854775808 ≤ x.weight ∧ x.weight ≤ 9223372036854775807)
    (ht : ∀ t off, tp = some (t, off) → TapeIn w t off) (hok : BkOk b) (hd : RdB w (.slice A n k) b.data) (hl : b.data.length ≤ 100000) (hC : Cubes w) :
    callE Tryz.prog 10 #[.agg (cfL c).toArray, vl, .int .i64 me, tapeV tp, .agg (bkv b (.slice A n k)).toArray, .int .i64 now] w fun v w' => NewPost c l me (tp.map Prod.snd) b now v w' ∧ Below w.heap.size w w' := by
  have hlen : (bkv b (.slice A n k)).length = 34 := bkv_len hok.len
  have k1 := (ext_alloc w (.cells (cfL c).toArray 33))
  have k2 := k1.alloc k1.size (.cells (bkv b (.slice A n k)).toArray 39)
  have hX : Blk ((w.alloc (.cells (cfL c).toArray 33)).alloc (.cells (bkv b (.slice A n k)).toArray 39)) w.heap.size 33 (cfL c).toArray := (Blk.self_ rfl).more _
  have hB : Blk ((w.alloc (.cells (cfL c).toArray 33)).alloc (.cells (bkv b (.slice A n k)).toArray 39)) (w.heap.size + 1) 39 (bkv b (.slice A n k)).toArray := Blk.self_ (by simp)
  obtain ⟨CC, hCC⟩ : ∃ CC, (cfL c).toArray = CC := ⟨_, rfl⟩
  have hCs : CC.size = 28 := by rw [← hCC]; rfl
  have d1 := ncheck_any c
  rw [hCC] at hX hB k1 k2 d1 ⊢
  refine calls_E Tryz.func10 rfl rfl rfl (Nat.le_of_ble_eq_true rfl) ?_
  simp [go_sem, IntWalk.iteOmega, IntWalk.toNatUp]
  generalize (w.alloc (.cells CC 33)).alloc (.cells (bkv b (.slice A n k)).toArray 39) = w1 at *
  have r1 := readCells_all hX 28 hCs
  simp [go_sem, IntWalk.iteOmega, IntWalk.toNatUp, r1, hX.lt]
  refine callE_of (d1 w1) ?_
  rintro _ w2 ⟨rfl, k3⟩
  have kk := k2.trans (k3.mono k2.size)
  have hX2 := hX.keep k3
  have hB2 := hB.keep k3
  by_cases hc : confOk c
  rotate_left
  · rw [if_neg hc]
    simp [go_sem, IntWalk.iteOmega, IntWalk.toNatUp]
    exact ⟨newPost_bad _ (by unfold newE; rw [if_pos hc]) (by omega), kk⟩
  rw [if_pos hc]
  simp [go_sem, IntWalk.iteOmega, IntWalk.toNatUp]
  refine callE_of (vcheck_any l vl w2 (Sl_on hs kk) hN hW) ?_
  rintro _ w3 ⟨rfl, k4⟩
  have kk3 := kk.trans (k4.mono kk.size)
  have hX3 := hX2.keep k4
  have hB3 := hB2.keep k4
  have hnn : ¬ ¬ confOk c := fun h => h hc
  by_cases hv : checkV l = 0
  rotate_left
  · have e1 : (checkV l != 0) = true := by simpa using hv
    simp [go_sem, IntWalk.iteOmega, IntWalk.toNatUp, e1, hv]
    exact ⟨newPost_bad _ (by unfold newE; rw [if_neg hnn, if_pos hv]) hv, kk3⟩
  have hvn : ¬ checkV l ≠ 0 := fun h => h hv
  obtain ⟨hl1, hl2⟩ := check_len hv
  obtain ⟨A0, cap, rfl, hrd, hA0, hcap⟩ := id hs
  rw [hv]
  by_cases m1 : me < 0
  · simp [go_sem, IntWalk.iteOmega, IntWalk.toNatUp, m1]
    exact ⟨newPost_bad _ (by unfold newE; rw [if_neg hnn, if_neg hvn, if_pos (.inl m1)]) (by omega), kk3⟩
  by_cases m2 : (l.length : Int) ≤ me
  · simp [go_sem, IntWalk.iteOmega, IntWalk.toNatUp, m1, m2]
    exact ⟨newPost_bad _ (by unfold newE; rw [if_neg hnn, if_neg hvn, if_pos (.inr m2)]) (by omega), kk3⟩
  have mn : ¬ (me < 0 ∨ (l.length : Int) ≤ me) := by omega
  simp [go_sem, IntWalk.iteOmega, IntWalk.toNatUp, m1, m2]
  have tt : vdrs l = vdrs l := rfl
  refine W_rely [isV (.slice A0 l.length cap), isV (.int .i64 (totalV l)), isV (pt w.heap.size), isV (pt w.heap.size), isV (.int .i64 (c 0)), isV (.bool (decide (totalV l < c 0))), isV (.bool (decide (totalV l < c 0)))] follows (by kernel_rfl) ?_ ?_ ?_
  · intro f hf
    simp only [List.mem_cons, List.not_mem_nil, or_false] at hf
    rcases hf with rfl | rfl | rfl | rfl | rfl | rfl | rfl
    all_goals exact firm_is _
  · have b0 := hX3.drew
    refine ⟨?_, ?_, ?_, ?_, ?_, ?_, ?_, trivial⟩ <;> intro _ s' w' hb hd ho
    all_goals
      have e1 := ho 1 rfl
      have e6 := ho 6 rfl
      clear ho
      simp [go_sem] at e1 e6
      simp [relyDeps, Region.binds, vowOf, vowAt, isV] at hd
      dsimp only
    · simp [go_sem, IntWalk.iteOmega, IntWalk.toNatUp, e1, isV]
      exact Below.refl _ _
    · simp [go_sem, IntWalk.iteOmega, IntWalk.toNatUp, hd]
      refine callE_of (vtotal_any l _ w' (Sl_on hs (kk3.drew.trans (hb.mono kk3.drew.size))) hN hW) ?_
      rintro _ w9 ⟨rfl, k9⟩
      simp [go_sem, IntWalk.iteOmega, IntWalk.toNatUp, isV]
      exact k9
    · simp [go_sem, IntWalk.iteOmega, IntWalk.toNatUp, e6, isV]
      exact Below.refl _ _
    · simp [go_sem, IntWalk.iteOmega, IntWalk.toNatUp, hd, isV]
      exact Below.refl _ _
    · have x0 := (b0.keep hb).cell
      rw [← hCC] at x0
      have y0 : (cfL c)[0]? = some (.int .i64 (c 0)) := rfl
      simp [go_sem, IntWalk.iteOmega, IntWalk.toNatUp, hd, isV, x0, y0]
      exact Below.refl _ _
    · simp [go_sem, IntWalk.iteOmega, IntWalk.toNatUp, hd, isV]
      exact Below.refl _ _
    · simp [go_sem, IntWalk.iteOmega, IntWalk.toNatUp, hd, isV]
      exact Below.refl _ _
  · intro s4 w4 hb4 hq ho
    simp [relyQ, vowAt, isV] at hq
    have kk4 := kk3.drew.trans (hb4.mono kk3.drew.size)
    have hX4 := hX3.drew.keep hb4
    have hB4 := hB3.drew.keep hb4
    have hq := hq.2.2.2.2.2.2
    have e1 := ho 1 rfl
    have e3 := ho 3 rfl
    have e5 := ho 5 rfl
    have e6 := ho 6 rfl
    have e10 := ho 10 rfl
    clear ho
    simp [go_sem] at e1 e3 e5 e6 e10
    by_cases hK : totalV l < c 0
    · simp [go_sem, IntWalk.iteOmega, IntWalk.toNatUp, hq, hK]
      exact ⟨newPost_bad _ (by unfold newE; rw [if_neg hnn, if_neg hvn, if_neg mn, if_pos hK]) (by omega), kk4⟩
    have hX4' := hX4.cell
    rw [← hCC] at hX4'
    have y17 : ∀ i, i < 11 → (cfL c)[17 + i]? = (pcL c)[i]? := fun i hi => by
      match i, hi with
      | 0, _ | 1, _ | 2, _ | 3, _ | 4, _ | 5, _ | 6, _ | 7, _ | 8, _ | 9, _ | 10, _ => rfl
    have r17 : readCells w4 ⟨w.heap.size, 17, none⟩ 0 11 = some (pcL c) := readCells_blk hX4 11 17 0 (pcL c) rfl fun j v hj => by
      rw [← hCC]
      have : j < 11 := (List.getElem?_eq_some_iff.1 hj).1
      simpa using (y17 j this).trans hj
    have l4 := hX4.lt
    simp [go_sem, IntWalk.iteOmega, IntWalk.toNatUp, hq, hK, e1, e5, e6, r17, l4]
    refine callE_of (peernew_any c hc.1.2.2 l _ now w4 (Sl_on hs kk4) hN hW hv ⟨hl1, hl2⟩) ?_
    rintro v5 w5 ⟨hP, k5⟩
    have kk5 := kk4.trans (k5.mono kk4.size)
    unfold PeerPost at hP
    by_cases hw : 0 ≤ now ∧ now ≤ 4611686018427387903
    rotate_left
    · rw [if_neg hw] at hP
      subst hP
      simp [go_sem, IntWalk.iteOmega, IntWalk.toNatUp, e6]
      exact ⟨newPost_bad _ (by unfold newE; rw [if_neg hnn, if_neg hvn, if_neg mn, if_neg hK, if_pos hw]) (by omega), kk5⟩
    rw [if_pos hw] at hP
    obtain ⟨p, rfl, hP⟩ := hP
    have hX5 := hX4.keep k5
    have hB5 := hB4.keep k5
    have rB := readCells_all hB5 34 (by simpa using hlen)
    have lB := hB5.lt
    simp [go_sem, IntWalk.iteOmega, IntWalk.toNatUp, e3, e10, rB, lB]
    have hC5 : Cubes w5 := hC.keep kk5
    refine callE_of (chopen_any tp (fun t off h => (ht t off h).keep kk5) hok (hd.keep kk5) hl hC5) ?_
    rintro v6 w6 ⟨hO, k6⟩
    have kk6 := kk5.trans (k6.mono kk5.size)
    have hX6 := hX5.keep k6
    have hP6 := hP.keep k6
    unfold OpenPost at hO
    by_cases hop : openE (tp.map Prod.snd) b = 0
    rotate_left
    · rw [if_neg hop] at hO
      subst hO
      have hop' : (openE (tp.map Prod.snd) b != 0) = true := by simpa using hop
      simp [go_sem, IntWalk.iteOmega, IntWalk.toNatUp, hop']
      exact ⟨newPost_bad _ (by unfold newE; rw [if_neg hnn, if_neg hvn, if_neg mn, if_neg hK, if_neg (by simpa using hw)]) hop, kk6⟩
    rw [if_pos hop] at hO
    obtain ⟨ch, rfl, hO⟩ := hO
    simp [go_sem, IntWalk.iteOmega, IntWalk.toNatUp]
    clear hC5 rB lB r17 y17 hq hX4' d1
    refine W_rely [isV (pt ch), isV (pt p), isV (.agg #[pt ch, pt p]), NIn ch p, isV (.agg (cfL c).toArray), isV (.slice A0 l.length cap), aSl l.length, aMp, aMp, NCells c l.length ch p, NBox c l.length ch p w6.heap.size, NBox c l.length ch p w6.heap.size] follows (by kernel_rfl) ?_ ?_ ?_
    · intro f hf
      simp only [List.mem_cons, List.not_mem_nil, or_false] at hf
      rcases hf with rfl | rfl | rfl | rfl | rfl | rfl | rfl | rfl | rfl | rfl | rfl | rfl
      all_goals first | exact firm_is _ | exact firm_nin _ _ | exact firm_sl _ | exact firm_mp | exact firm_ncells _ _ _ _ | exact firm_nbox _ _ _ _ _
    · have b0 := hX6.drew
      refine ⟨?_, ?_, ?_, ?_, ?_, ?_, ?_, ?_, ?_, ?_, ?_, ?_, trivial⟩ <;> intro _ s' w' hb hd ho
      all_goals
        have f1 := ho 1 rfl
        have f6 := ho 6 rfl
        have f16 := ho 16 rfl
        have f18 := ho 18 rfl
        clear ho
        simp [go_sem, e1, e6] at f1 f6 f16 f18
        simp [relyDeps, Region.binds, vowOf, vowAt] at hd
        dsimp only
      · simp [go_sem, IntWalk.iteOmega, IntWalk.toNatUp, f18, isV]
        exact Below.refl _ _
      · simp [go_sem, IntWalk.iteOmega, IntWalk.toNatUp, f16, isV]
        exact Below.refl _ _
      · simp only [isV] at hd
        simp [go_sem, IntWalk.iteOmega, IntWalk.toNatUp, hd, isV]
        exact Below.refl _ _
      · simp only [isV] at hd
        simp [go_sem, IntWalk.iteOmega, IntWalk.toNatUp, hd]
        exact ⟨ext_alloc _ _, _, rfl, Blk.self_ rfl⟩
      · have x0 := b0.keep hb
        have r0 := readCells_all x0 28 hCs
        have l0 := x0.lt
        simp [go_sem, IntWalk.iteOmega, IntWalk.toNatUp, f6, r0, l0, isV, hCC]
        exact Below.refl _ _
      · simp [go_sem, IntWalk.iteOmega, IntWalk.toNatUp, f1, isV]
        exact Below.refl _ _
      · simp only [isV] at hd
        simp [go_sem, IntWalk.iteOmega, IntWalk.toNatUp, hd]
        refine callE_of (clonev_any l ⟨hl1, hl2⟩ (hrd.keep (kk6.drew.trans (hb.mono kk6.drew.size)))) ?_
        rintro _ w9 ⟨⟨A', c', rfl⟩, k9⟩
        exact ⟨k9, A', c', rfl⟩
      · simp [go_sem, IntWalk.iteOmega, IntWalk.toNatUp]
        exact ⟨ext_alloc _ _, _, rfl⟩
      · simp [go_sem, IntWalk.iteOmega, IntWalk.toNatUp]
        exact ⟨ext_alloc _ _, _, rfl⟩
      · obtain ⟨⟨i, q1, q1'⟩, q2, ⟨A', cp, q3⟩, ⟨ab, q4⟩, gt, q5⟩ := hd
        simp only [isV] at q2
        rw [nodebuild q1 q2 q3 q4 q5]
        exact ⟨Below.refl _ _, i, A', cp, ab, gt, rfl, q1'⟩
      · obtain ⟨i, A', cp, ab, gt, q1, q1'⟩ := hd
        simp [go_sem, IntWalk.iteOmega, IntWalk.toNatUp, q1]
        exact ⟨ext_alloc _ _, i, A', cp, ab, gt, _, rfl, hb.size, Blk.self_ rfl, q1'.keep (ext_alloc _ _)⟩
      · obtain ⟨⟨i, A', cp, ab, gt, r, q1, q2, q3, q4⟩, -⟩ := hd
        simp [go_sem, IntWalk.iteOmega, IntWalk.toNatUp, q1]
        exact ⟨Below.refl _ _, i, A', cp, ab, gt, r, rfl, q2, q3, q4⟩
    · intro s7 w7 hb7 hq ho
      simp [relyQ, vowAt] at hq
      obtain ⟨i, A', cp, ab, gt, r, q19, hrB, hR, hI⟩ := hq.2.2.2.2.2.2.2.2.2.2.2
      have kk7 := kk6.drew.trans (hb7.mono kk6.drew.size)
      have f1 := ho 1 rfl
      have f6 := ho 6 rfl
      clear ho hq
      simp [go_sem, e1, e6] at f1 f6
      simp [go_sem, IntWalk.iteOmega, IntWalk.toNatUp, q19, f1, f6]
      have hB0 : w6.heap.size ≤ w6.heap.size := Nat.le_refl _
      have hiL : i < w7.heap.size := hI.lt
      refine W_loop (fun st wr => ∃ (j : Nat) (sv : Value), j ≤ l.length ∧ st 6 = pt w.heap.size ∧ st 19 = pt r ∧ st 79 = .slice A0 l.length cap ∧ st 80 = .int .i64 l.length ∧ st 81 = .int .i64 j ∧ Blk wr r 110 (nodeL c i (.slice A' l.length cp) sv (.pointer none) ab gt).toArray ∧ Blk wr i 90 #[pt ch, pt p] ∧ wr.ownsRow w6.heap.size 2 1 sv j (ints .i64 ((weights l).take j)) ∧ Below w6.heap.size w6 wr) (fun st _ => l.length - (intOf (st 81)).toNat) ?_ ?_
      · exact ⟨0, .slice none 0 0, by omega, by simp [go_sem, f6], by simp [go_sem, q19], by simp [go_sem], by simp [go_sem], by simp [go_sem], hR, hI, World.ownsRow_nil _ _ _ _, (ext_drew w6).trans hb7⟩
      · rintro st wr ⟨j, sv, hj, g6, g19, g79, g80, g81, hR, hI, hown, hbw⟩
        by_cases hlt : j < l.length
        · have kw := kk6.trans (hbw.mono kk6.size)
          obtain ⟨bk, o, rfl, hb, hcl⟩ := hrd.cells (by omega)
          obtain ⟨a0, a1⟩ := vdrs_at l j hlt
          have x0 := hcl _ _ a0
          have x1 := hcl _ _ a1
          rw [← kw.cell hb] at x0 x1
          rw [← Nat.add_assoc] at x1
          have hlt' : (j : Int) < l.length := by omega
          have htk : (weights l).take (j + 1) = (weights l).take j ++ [l[j].weight] := by rw [List.take_add_one]; simp [weights, hlt]
          generalize l[j] = x at *
          have kA := ext_alloc wr (.cells #[.string x.name, .int .i64 x.weight] 59)
          have hA : Blk (wr.alloc (.cells #[.string x.name, .int .i64 x.weight] 59)) wr.heap.size 59 #[.string x.name, .int .i64 x.weight] := Blk.self_ rfl
          simp [go_sem, IntWalk.iteOmega, IntWalk.toNatUp, g6, g19, g79, g80, g81, hlt, hlt', x0, x1]
          have kk8 := hbw.alloc hbw.size (.cells #[.string x.name, .int .i64 x.weight] 59)
          have hR8 := (hR.keep kA).drew
          have hI8 := (hI.keep kA).drew
          have hown8 := (own_far hown fun k cs hk => kA.block _ (Blk.lt (t := 2) hk))
          have hA8 := hA.drew
          have hown9 : ((wr.alloc (.cells #[.string x.name, .int .i64 x.weight] 59)).drew).ownsRow w6.heap.size 2 1 sv j (ints .i64 ((weights l).take j)) := hown8
          have kk9 := kk8.drew
          have hsz : ((wr.alloc (.cells #[.string x.name, .int .i64 x.weight] 59)).drew).heap.size = wr.heap.size + 1 := by simp
          refine W_flow (fun q => q = wr.heap.size) (.pure 0 (.pure 1 (.pure 2 (.pure 3 (.pure 5 (.pure 6 (.two 4 (.one 7 (.one 8 (.pure 9 (.pure 10 (.one 11 (.done)))))) 7 (.one 4 (.one 8 (.pure 9 (.pure 10 (.one 11 (.done))))))))))))) follows (by kernel_rfl) ?_
          generalize (wr.alloc (.cells #[.string x.name, .int .i64 x.weight] 59)).drew = w9 at *
          have hr := held_refl (fun q => q = wr.heap.size) w9
          have hRc := hR8.cell 30
          have hRl := hR8.lt
          have hA1 := hA8.cell 1
          have hAl := hA8.lt
          have hRn : (nodeL c i (.slice A' l.length cp) sv (.pointer none) ab gt).toArray[30]? = some sv := rfl
          rw [hRn] at hRc
          rw [show (#[.string x.name, .int .i64 x.weight] : Array Value)[1]? = some (.int .i64 x.weight) from rfl] at hA1
          have kN := ext_alloc w9 (.cells #[.int .i64 x.weight] 2)
          have hNew : Blk (w9.alloc (.cells #[.int .i64 x.weight] 2)) w9.heap.size 2 #[.int .i64 x.weight] := Blk.self_ rfl
          have hown10 := own_far hown9 fun k cs hk => kN.block _ (Blk.lt (t := 2) hk)
          have kk10 := kk9.alloc kk9.size (.cells #[.int .i64 x.weight] 2)
          have hRd : Rd (w9.alloc (.cells #[.int .i64 x.weight] 2)) 1 (some ⟨w9.heap.size, 0, none⟩) 1 [.int .i64 x.weight] := ⟨by simp, fun _ => ⟨_, 0, rfl, hNew.lt, fun j u hu => by rw [hNew.cell]; simpa using hu⟩⟩
          have hR10 := hR8.keep kN
          have hRc10 := hR10.cell 30
          rw [hRn] at hRc10
          have hI10 := hI8.keep kN
          have hA10 := hA8.keep kN
          have hr10 := hr.below kN
          have happ : ∀ k : Kont, (∀ v' w11, w11.ownsRow w6.heap.size 2 1 v' (j + 1) (ints .i64 ((weights l).take j) ++ [.int .i64 x.weight]) → Blk w11 r 110 (nodeL c i (.slice A' l.length cp) sv (.pointer none) ab gt).toArray → Blk w11 i 90 #[pt ch, pt p] → heldE (fun q => q = wr.heap.size) w9 w11 → Below w6.heap.size w6 w11 → v'.oneCell' = true → k v' w11) → resE Tryz.prog (appendR Tryz.prog 94 94 94 sv (.slice (some ⟨w9.heap.size, 0, none⟩) 1 1) (w9.alloc (.cells #[.int .i64 x.weight] 2))) k := by
            intro k hk
            generalize w9.alloc (.cells #[.int .i64 x.weight] 2) = w10 at *
            refine appendE w6.heap.size 2 1 8 Tryz.underlying94 el2 hown10 hRd rfl (by unfold maxLen; omega) (by omega) kk10.size ?_
            intro v' w11 hown11 hgr hor
            have far := fun q (hq : q < w10.heap.size) (hn : some q ≠ sv.ownBlock) => hgr.block q hq hn
            refine hk v' w11 hown11 (Blk_farh hR10 (far _ hR10.lt (own_ne hown10 hR10 (by decide)))) (Blk_farh hI10 (far _ hI10.lt (own_ne hown10 hI10 (by decide)))) ⟨Nat.le_trans hr10.1 hgr.size, fun q hq hl => ?_⟩ (kk10.grown hgr kk10.size fun k hk => (hown10.lt k hk).1) ?_
            · refine (far q (Nat.lt_of_lt_of_le hl hr10.1) ?_).trans (hr10.2 q hq hl)
              subst hq
              exact own_ne hown10 hA10 (by decide)
            · rcases hown11.2 with ⟨rfl, _⟩ | ⟨k, cp, cur, rfl, _⟩ <;> rfl
          have hri : r ≠ i := Blk_ne hR8 hI8 (by decide)
          have hrw : r ≠ wr.heap.size := Blk_ne hR8 hA8 (by decide)
          simp [go_sem, IntWalk.iteOmega, IntWalk.toNatUp, g19, hr, hRc, hRl, hA1, hAl, hRc10, hr10]
          refine ⟨?_, ?_⟩ <;>
          · refine happ _ fun v' w11 hown11 hR11 hI11 hr11 kk11 hone => ?_
            have c11 := hR11.cell 30
            have f11 := hR11.frozen 30
            rw [hRn] at c11
            have hr12 := hr11.set (g := r) (o := 30) v' hrw
            simp [go_sem, IntWalk.iteOmega, IntWalk.toNatUp, hr11, g81, g19, c11, f11, hone, hr12]
            have hR12 : Blk (w11.setCell ⟨r, 30, none⟩ v') r 110 (nodeL c i (.slice A' l.length cp) v' (.pointer none) ab gt).toArray := Blk_set (o := 30) (v := v') hR11
            have f12 : ∀ k, k ≠ r → (w11.setCell ⟨r, 30, none⟩ v').heap[k]? = w11.heap[k]? := fun k hk => Below.heap_setCell _ _ _ _ hk
            have hown12 := own_far (w' := w11.setCell ⟨r, 30, none⟩ v') hown11 fun k cs hk => f12 _ (Blk_ne (t := 2) hk hR11 (by decide))
            refine roundEnd.mk ⟨j + 1, v', by omega, by simp [go_sem, g6], by simp [go_sem, g19], by simp [go_sem, g79], by simp [go_sem, g80], by simp [go_sem], hR12, Blk_farh hI11 (f12 _ hri.symm), ?_, kk11.setCell (p := ⟨r, 30, none⟩) hrB _⟩ ?_
            · rw [htk]; simpa [ints] using hown12
            · simp [go_sem, intOf]; omega
        · obtain rfl : j = l.length := by omega
          simp [go_sem, IntWalk.iteOmega, IntWalk.toNatUp, g6, g19, g79, g80, g81]
          have kw := kk6.trans (hbw.mono kk6.size)
          have htk : (weights l).take l.length = weights l := List.take_of_length_le (by rw [wk_len]; omega)
          rw [htk] at hown
          obtain ⟨hsl, Ag, cg, rfl⟩ := own_sl hown
          have hX8 := hX6.keep (hbw.mono (by omega))
          have hr := held_refl (fun q => q = w.heap.size) wr.drew
          have hX9 := hX8.drew
          have hR9 := hR.drew
          have hI9 := hI.drew
          have hsl9 : Sl wr.drew 1 (.slice Ag l.length cg) l.length (ints .i64 (weights l)) := Sl_kept hsl (ext_drew wr)
          have kw9 := hbw.drew
          refine W_flow (fun q => q = w.heap.size) (.pure 0 (.pure 1 (.pure 2 (.pure 3 (.pure 4 (.pure 5 (.one 6 (.one 7 (.pure 8 (.pure 9 (.pure 10 (.pure 11 (.pure 12 (.one 13 (.pure 14 (.done)))))))))))))))) follows (by kernel_rfl) ?_
          generalize wr.drew = w9 at *
          have r12 : readCells w9 ⟨w.heap.size, 12, none⟩ 0 5 = some [.int .i64 (c 12), .int .i64 (c 13), .int .i64 (c 14), .int .i64 (c 15), .int .i64 (c 16)] := readCells_blk hX9 5 12 0 _ rfl fun j v hj => by
            have : j < 5 := (List.getElem?_eq_some_iff.1 hj).1
            rw [← hCC, ← hj]
            match j, this with
            | 0, _ | 1, _ | 2, _ | 3, _ | 4, _ => rfl
          have c9 := hR9.cell 30
          have hRn : (nodeL c i (.slice A' l.length cp) (.slice Ag l.length cg) (.pointer none) ab gt).toArray[30]? = some (.slice Ag l.length cg) := rfl
          rw [hRn] at c9
          have lX := hX9.lt
          have lR := hR9.lt
          simp [go_sem, IntWalk.iteOmega, IntWalk.toNatUp, g6, g19, hr, r12, c9, lX, lR]
          refine callE_of (new_any (gcf c) (weights l) (.slice Ag l.length cg) w9 (by rw [wk_len]; exact hsl9) hc.1.2.1 (wk_okW hv)) ?_
          rintro _ w10 ⟨g, rfl, hG, k10⟩
          have hr10 := hr.below k10
          have hR10 := hR9.keep k10
          have hI10 := hI9.keep k10
          have kw10 := kw9.trans (k10.mono kw9.size)
          have hrX : ¬ r = w.heap.size := by have := hX6.lt; omega
          have hri : r ≠ i := Blk_ne hR10 hI10 (by decide)
          have hr11 := hr10.set (g := r) (o := 31) (pt g) hrX
          have f10 := hR10.frozen 31
          have c10 := hR10.cell 31
          have hRn' : (nodeL c i (.slice A' l.length cp) (.slice Ag l.length cg) (.pointer none) ab gt).toArray[31]? = some (.pointer none) := rfl
          rw [hRn'] at c10
          have hR11 : Blk (w10.setCell ⟨r, 31, none⟩ (pt g)) r 110 (nodeL c i (.slice A' l.length cp) (.slice Ag l.length cg) (pt g) ab gt).toArray := Blk_set (o := 31) (v := pt g) hR10
          have hI11 : Blk (w10.setCell ⟨r, 31, none⟩ (pt g)) i 90 #[pt ch, pt p] := Blk_farh hI10 (Below.heap_setCell _ _ _ _ hri.symm)
          have hG11 := gate_node (o := 31) hG hR10 (pt g)
          have kw11 := kw10.setCell (p := ⟨r, 31, none⟩) hrB (pt g)
          simp [go_sem, IntWalk.iteOmega, IntWalk.toNatUp, hr10, g19, f10, c10, hr11]
          refine ⟨?_, kk6.trans (kw11.mono kk6.size)⟩
          unfold NewPost
          rw [if_pos (by unfold newE; rw [if_neg hnn, if_neg hvn, if_neg mn, if_neg hK, if_neg (by simpa using hw)]; exact hop)]
          exact ⟨r, rfl, i, ch, p, _, _, g, ab, gt, _, hR11, hI11, hO.keep kw11, hP6.keep kw11, hG11⟩
end Go.Proofs.YtmcbcoafodmbjaaGreatDoor
