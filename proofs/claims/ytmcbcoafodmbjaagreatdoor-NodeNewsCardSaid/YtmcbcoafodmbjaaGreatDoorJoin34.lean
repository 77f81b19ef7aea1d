/-
  Texts joined: NChain, NOpen, NLast, NRChain.
-/
import Derived.Test.YtmcbcoafodmbjaaGreatDoorJoin33

/-
  A chain at first: its first block.
-/
namespace Go.Proofs.YtmcbcoafodmbjaaGreatDoor
open Go.RowKit
set_option linter.unusedVariables false
set_option linter.unusedSimpArgs false
set_option maxRecDepth 10000
def chL (i : Nat) (lv iv : Value) (m : Nat) : List Value := [pt i, lv, iv, .map (some m), .bool false]
def ChainAt (w : World) (cb : Nat) (b : Bk) : Prop := ∃ i A1 c1 A2 c2 m A n c, Blk w cb 198 (chL i (.slice A1 1 c1) (.slice A2 1 c2) m).toArray ∧ Sl w 34 (.slice A1 1 c1) 1 (bkv b (.slice A n c)) ∧ Sl w 32 (.slice A2 1 c2) 1 (bl (idB b).1)
theorem ChainAt.keep {w w' : World} {cb : Nat} {b : Bk} (h : ChainAt w cb b) (hb : Below w.heap.size w w') : ChainAt w' cb b := by
  obtain ⟨i, A1, c1, A2, c2, m, A, n, c, h1, h2, h3⟩ := h
  exact ⟨i, A1, c1, A2, c2, m, A, n, c, h1.keep hb, Sl_kept h2 hb, Sl_kept h3 hb⟩
theorem elBlock : El Tryz.prog 39 34 64 := el_of (z := .agg zBk.toArray) (by kernel_rfl) rfl (by omega)
theorem elId : El Tryz.prog 36 32 32 := el_of (z := .agg (bl zeroId).toArray) (by kernel_rfl) rfl (by omega)
def zId : List Value := [.int .u8 0, .int .u8 0, .int .u8 0, .int .u8 0, .int .u8 0, .int .u8 0, .int .u8 0, .int .u8 0, .int .u8 0, .int .u8 0, .int .u8 0, .int .u8 0, .int .u8 0, .int .u8 0, .int .u8 0, .int .u8 0, .int .u8 0, .int .u8 0, .int .u8 0, .int .u8 0, .int .u8 0, .int .u8 0, .int .u8 0, .int .u8 0, .int .u8 0, .int .u8 0, .int .u8 0, .int .u8 0, .int .u8 0, .int .u8 0, .int .u8 0, .int .u8 0]
theorem zId_store (w : World) (l : List Value) (hl : l.length = 32) : storeSeg (w.alloc (.cells zId.toArray 36)) ⟨w.heap.size, 0, none⟩ 0 l = w.alloc (.cells l.toArray 36) := by
  have h : Blk (w.alloc (.cells zId.toArray 36)) w.heap.size 36 zId.toArray := Blk.self_ rfl
  rw [storeSeg_all h l (by rw [hl]; rfl), setRow_new]
theorem zId_can (w : World) : canWrite (w.alloc (.cells zId.toArray 36)) ⟨w.heap.size, 0, none⟩ 0 32 = true := canWrite_all (Blk.self_ (w := w) (t := 36) (cs := zId.toArray) rfl) 32 rfl
theorem map_ne {w : World} {g r : Nat} {t : TypeId} {cs : Array Value} {L : List (List UInt8 × Value)} (h : Blk w g t cs) (hm : MpI w r L) : g ≠ r := by
  obtain ⟨es, c, h1, _⟩ := hm
  rintro rfl
  unfold Blk at h
  rw [h] at h1
  cases h1
def aBk (b : Bk) : Vow := fun v w => ∃ A n c, v = .agg (bkv b (.slice A n c)).toArray
def bSl (b : Bk) : Vow := fun v w => ∃ A c A' n' c', v = .slice A 1 c ∧ Sl w 34 (.slice A 1 c) 1 (bkv b (.slice A' n' c'))
def iSl (l : List UInt8) : Vow := fun v w => ∃ A c, v = .slice A 1 c ∧ Sl w 32 (.slice A 1 c) 1 (bl l)
theorem firm_aBk (b : Bk) : (aBk b).Firm := ⟨fun h _ => h⟩
theorem firm_bSl (b : Bk) : (bSl b).Firm := ⟨fun ⟨A, c, A', n', c', h1, h2⟩ hb => ⟨A, c, A', n', c', h1, Sl_kept h2 hb⟩⟩
def bOw (b : Bk) : Vow := fun v w => ∃ A c A' n' c', v = .slice A 1 c ∧ w.ownsRow 0 39 34 (.slice A 1 c) 1 (bkv b (.slice A' n' c'))
def iOw (l : List UInt8) : Vow := fun v w => ∃ A c, v = .slice A 1 c ∧ w.ownsRow 0 36 32 (.slice A 1 c) 1 (bl l)
theorem firm_bOw (b : Bk) : (bOw b).Firm := ⟨fun ⟨A, c, A', n', c', h1, h2⟩ hb => ⟨A, c, A', n', c', h1, row_below h2 hb⟩⟩
theorem firm_iOw (l : List UInt8) : (iOw l).Firm := ⟨fun ⟨A, c, h1, h2⟩ hb => ⟨A, c, h1, row_below h2 hb⟩⟩
theorem row_lo {w : World} {B B' e size n : Nat} {v : Value} {xs : List Value} (h : w.ownsRow B e size v n xs) (hb : B' ≤ B) : w.ownsRow B' e size v n xs := ⟨h.1, h.2.elim .inl fun ⟨g, cap, cur, h1, h2, r⟩ => .inr ⟨g, cap, cur, h1, Nat.le_trans hb h2, r⟩⟩
theorem own_set {w : World} {B e size n g o : Nat} {t : TypeId} {cs : Array Value} {v u : Value} {xs : List Value} (h : w.ownsRow B e size v n xs) (hg : Blk w g t cs) (ht : e ≠ t) : (w.setCell ⟨g, o, none⟩ u).ownsRow B e size v n xs := own_far h fun k cs' hk => by
  rw [hp_set, if_neg]
  rintro rfl
  unfold Blk at hg
  rw [hg] at hk
  injection hk with hk
  injection hk with _ hk _
  exact ht hk.symm
theorem firm_iSl (l : List UInt8) : (iSl l).Firm := ⟨fun ⟨A, c, h1, h2⟩ hb => ⟨A, c, h1, Sl_kept h2 hb⟩⟩
theorem one_sl {w : World} {e n : Nat} {l : List Value} (hl : l.length = n) : Sl (w.alloc (.cells l.toArray e)) n (.slice (some ⟨w.heap.size, 0, none⟩) 1 1) 1 l :=
  ⟨_, _, rfl, ⟨by omega, fun _ => ⟨w.heap.size, 0, rfl, by simp, fun j u hj => by simpa using hj⟩⟩, by simp⟩
theorem RdB.turn {w w' : World} {v : Value} {l : List UInt8} {r : Nat} {L : List (List UInt8 × Value)} (h : RdB w v l) (hm : MpI w r L) (ht : TurnedAt w w' r) : RdB w' v l := by
  obtain ⟨A, c, rfl, hr, h1, h2, h3⟩ := h
  refine ⟨A, c, rfl, ⟨hr.1, fun hn => ?_⟩, h1, h2, h3⟩
  obtain ⟨g, o, hA, hg, hcell⟩ := hr.2 hn
  have hne : g ≠ r := by
    rintro rfl
    obtain ⟨es, cl, hh, _⟩ := hm
    have hlen : 0 < (bl l).length := by rw [hr.1]; omega
    have := hcell 0 _ (List.getElem?_eq_getElem hlen)
    unfold World.cell? at this
    rw [hh] at this
    simp at this
  exact ⟨g, o, hA, by rw [ht.size]; exact hg, fun j v hj => (World.cell?_of_block (ht.far g hne)).trans (hcell j v hj)⟩
set_option maxHeartbeats 12800000 in
theorem chadd_any {w : World} {cb i m : Nat} {b : Bk} {dv : Value} (hc : Blk w cb 198 (chL i (.slice none 0 0) (.slice none 0 0) m).toArray) (hm : MpI w m []) (hok : BkOk b) (hd : RdB w dv b.data) (hl : b.data.length ≤ 100000) (hC : Cubes w) (hdv : dv.oneCell' = true) :
    callE Tryz.prog 72 #[pt cb, .agg (bkv b dv).toArray] w fun v w' => ChainAt w' cb b ∧ ∀ B, B ≤ cb → B ≤ m → B ≤ w.heap.size → Below B w w' := by
  have k1 := ext_alloc w (.cells (bkv b dv).toArray 39)
  have hX : Blk (w.alloc (.cells (bkv b dv).toArray 39)) w.heap.size 39 (bkv b dv).toArray := Blk.self_ rfl
  have hlen : (bkv b dv).length = 34 := bkv_len hok.len
  refine calls_E Tryz.func72 rfl rfl rfl (Nat.le_of_ble_eq_true rfl) ?_
  simp [go_sem, IntWalk.iteOmega, IntWalk.toNatUp]
  generalize w.alloc (.cells (bkv b dv).toArray 39) = w1 at *
  have r1 := readCells_all hX 34 (by simpa using hlen)
  have l1 := hX.lt
  simp [go_sem, IntWalk.iteOmega, IntWalk.toNatUp, r1, l1]
  refine callE_of (bid_any hok (hd.keep k1) (hC.keep k1)) ?_
  rintro _ w2 ⟨rfl, k2⟩
  have kk := ext_trans k1 k2
  obtain ⟨id, hid⟩ : ∃ id, (idB b).1 = id := ⟨_, rfl⟩
  have l32 : id.length = 32 := by rw [← hid]; exact idB_len b
  rw [hid]
  have hls : (bl id).length = 32 := by simp [bl, l32]
  have z1 := zId_can w2
  have z2 := zId_store w2 (bl id) hls
  have k3 := ext_alloc w2 (.cells (bl id).toArray 36)
  have hI : Blk (w2.alloc (.cells (bl id).toArray 36)) w2.heap.size 36 (bl id).toArray := Blk.self_ rfl
  have ho1 := bl_one id
  have hc3 := (hc.keep kk).keep k3
  have hm3 := (hm.keep kk).keep k3
  have hX3 := (hX.keep k2).keep k3
  have kk3 := ext_trans kk k3
  simp only [zId] at z1 z2
  simp [go_sem, IntWalk.iteOmega, IntWalk.toNatUp, z1, z2, hls, ho1]
  generalize w2.alloc (.cells (bl id).toArray 36) = w3 at *
  refine W_relyT adds [] [10] [isV (pt cb), isV (pt cb), isV (.pointer (some ⟨cb, 3, none⟩)), isV (.map (some m)), isV (.agg (bl id).toArray), isV (pt cb), isV (pt cb), isV (.pointer (some ⟨cb, 1, none⟩)), isV (.slice none 0 0), isV (.int .i64 0), isV undef] follows (by kernel_rfl) ?_ ?_ ?_ ?_
  · intro f hf
    simp only [List.mem_cons, List.not_mem_nil, or_false] at hf
    rcases hf with rfl | rfl | rfl | rfl | rfl | rfl | rfl | rfl | rfl | rfl | rfl <;> exact firm_is _
  · trivial
  · have c3 := hc3.drew
    have i3 := hI.drew
    refine ⟨?_, ?_, ?_, ?_, ?_, ?_, ?_, ?_, ?_, ?_, ?_, trivial⟩ <;> intro hT s' w' hb hd ho
    all_goals
      have e0 := ho 0 rfl
      have e4 := ho 4 rfl
      clear ho
      simp [go_sem] at e0 e4
      simp [relyDeps, Region.binds, vowOf, vowAt, isV] at hd
      dsimp only
    all_goals try (cases hT; done)
    all_goals
      have c4 := (c3.keep hb).cell
      have l4 := (c3.keep hb).lt
      have r4 := readCells_all (i3.keep hb) 32 (by simpa using hls)
      have l5 := (i3.keep hb).lt
      simp only [chL] at c4
      simp [go_sem, IntWalk.iteOmega, IntWalk.toNatUp, e0, e4, hd, isV, c4, l4, r4, l5, adds]
    all_goals exact Below.refl _ _
  · intro s' w' hb hq ho
    simp [relyQ, vowAt, isV] at hq
    have kb : Below w3.heap.size w3 w' := ext_trans (ext_drew w3) hb
    have e0 := ho 0 rfl
    have e3 := ho 3 rfl
    have e4 := ho 4 rfl
    clear ho
    simp [go_sem] at e0 e3 e4
    have hm4 := hm3.keep kb
    have hc4 := hc3.keep kb
    have hX4 := hX3.keep kb
    have hI4 := hI.keep kb
    have hC4 := ((hC.keep k1).keep k2)
    obtain ⟨w5, hup, hm5, ht5⟩ := run_mapUpdateI idKey hm4 Tryz.underlying195 id l32 (.int .i64 0)
    have hup' : (Instr.mapUpdate 195 (.map (some m)) (.agg (bl id).toArray) (.int .i64 0)).run Tryz.prog w' = .ok () w5 := hup
    have hc5 := ht5.blk hc4 (map_ne hc4 hm4)
    have hX5 := ht5.blk hX4 (map_ne hX4 hm4)
    have hI5 := ht5.blk hI4 (map_ne hI4 hm4)
    have hd5 : RdB w5 dv b.data := ((hd.keep kk3).keep kb).turn hm4 ht5
    simp only [rowT]
    simp [go_sem, IntWalk.iteOmega, IntWalk.toNatUp, hq, hup']
    have kk4 := ext_trans kk3 kb
    refine W_relyT adds [1] [17, 18, 19, 20, 21, 22] [isV (pt cb), isV (pt cb), isV (pt cb), isV (pt cb), isV (.pointer (some ⟨cb, 1, none⟩)), isV (.slice none 0 0), isV (.agg (bkv b dv).toArray), aBk b, bSl b, bOw b, isV (pt cb), isV (pt cb), isV (.pointer (some ⟨cb, 2, none⟩)), isV (.slice none 0 0), isV (.agg (bl id).toArray), iSl id, iOw id, isV (pt cb), isV (.pointer (some ⟨cb, 1, none⟩)), isV undef, isV (pt cb), isV (.pointer (some ⟨cb, 2, none⟩)), isV undef] follows (by kernel_rfl) ?_ ?_ ?_ ?_
    · intro f hf
      simp only [List.mem_cons, List.not_mem_nil, or_false] at hf
      rcases hf with rfl | rfl | rfl | rfl | rfl | rfl | rfl | rfl | rfl | rfl | rfl | rfl | rfl | rfl | rfl | rfl | rfl | rfl | rfl | rfl | rfl | rfl | rfl <;> first | exact firm_is _ | exact firm_aBk _ | exact firm_bSl _ | exact firm_iSl _ | exact firm_bOw _ | exact firm_iOw _
    · simp [go_sem, IntWalk.iteOmega, IntWalk.toNatUp, hq, isV, e0, preV, vowOf, vowAt]
    · have c5 := hc5.drew
      have x5 := hX5.drew
      have i5 := hI5.drew
      refine ⟨?_, ?_, ?_, ?_, ?_, ?_, ?_, ?_, ?_, ?_, ?_, ?_, ?_, ?_, ?_, ?_, ?_, ?_, ?_, ?_, ?_, ?_, ?_, trivial⟩ <;> intro hT s2 w6 hb2 hd2 ho2
      all_goals
        have f0 := ho2 0 rfl
        have f3 := ho2 3 rfl
        have f4 := ho2 4 rfl
        clear ho2
        simp only [e0, e3, e4] at f0 f3 f4
        simp [relyDeps, Region.binds, vowOf, vowAt, isV] at hd2
        dsimp only
      all_goals try (cases hT; done)
      all_goals
        have c6 := (c5.keep hb2).cell
        have l6 := (c5.keep hb2).lt
        have r6 := readCells_all (i5.keep hb2) 32 (by simpa using hls)
        have l7 := (i5.keep hb2).lt
        have r8 := readCells_all (x5.keep hb2) 34 (by simpa using hlen)
        have l8 := (x5.keep hb2).lt
        simp only [chL] at c6
      all_goals try (simp [go_sem, IntWalk.iteOmega, IntWalk.toNatUp, f0, f3, f4, hd2, isV, c6, l6, r6, l7, r8, l8, adds]; exact Below.refl _ _)
      · simp [go_sem, IntWalk.iteOmega, IntWalk.toNatUp, hd2]
        refine callE_of (bclone_any hok ((hd5.keep (ext_drew w5)).keep hb2) hl) ?_
        rintro _ w7 ⟨⟨dv', rfl, ho7⟩, k7⟩
        obtain ⟨-, A7, c7, rfl⟩ := own_sl ho7
        exact ⟨k7, _, _, _, rfl⟩
      · obtain ⟨A', n', c', q⟩ := hd2
        refine resE_build1 (z := .agg zBk.toArray) (size := 34) (bytes := 64) Tryz.underlying196 (by kernel_rfl) (by omega) (by omega) q (by simp [Value.cells, bkv_len hok.len]) ?_
        exact ⟨ext_alloc _ _, _, _, A', n', c', rfl, one_sl (bkv_len hok.len)⟩
      · obtain ⟨q1, ⟨A, c, A', n', c', q2, hs⟩, -⟩ := hd2
        obtain ⟨_, _, he, hr, -⟩ := hs
        injection he with he1 _ he2
        subst he1 he2
        simp [go_sem, IntWalk.iteOmega, IntWalk.toNatUp, q1, q2]
        refine appendE w6.heap.size 39 34 64 Tryz.underlying196 elBlock (World.ownsRow_nil _ _ _ _) hr (bkv_one b A' n' c') (by unfold maxLen; omega) (by omega) (Nat.le_refl _) ?_
        intro v9 w9 hr9 hg9 hbk9
        rw [Nat.zero_add, List.nil_append] at hr9
        obtain ⟨-, A9, c9, rfl⟩ := own_sl hr9
        exact ⟨(Below.refl _ _).grown hg9 (Nat.le_refl _) (fun k hk => by cases hk), _, _, A', n', c', rfl, row_lo hr9 (Nat.zero_le _)⟩
      · refine resE_build1 (z := .agg zId.toArray) (size := 32) (bytes := 32) Tryz.underlying98 (by kernel_rfl) (by omega) (by omega) hd2 (by simp [Value.cells, hls]) ?_
        exact ⟨ext_alloc _ _, _, _, rfl, one_sl hls⟩
      · obtain ⟨q1, ⟨A, c, q2, hs⟩, -⟩ := hd2
        obtain ⟨_, _, he, hr, -⟩ := hs
        injection he with he1 _ he2
        subst he1 he2
        simp [go_sem, IntWalk.iteOmega, IntWalk.toNatUp, q1, q2]
        refine appendE w6.heap.size 36 32 32 Tryz.underlying98 elId (World.ownsRow_nil _ _ _ _) hr ho1 (by unfold maxLen; omega) (by omega) (Nat.le_refl _) ?_
        intro v9 w9 hr9 hg9 hbk9
        rw [Nat.zero_add, List.nil_append] at hr9
        obtain ⟨-, A9, c9, rfl⟩ := own_sl hr9
        exact ⟨(Below.refl _ _).grown hg9 (Nat.le_refl _) (fun k hk => by cases hk), _, _, rfl, row_lo hr9 (Nat.zero_le _)⟩
    · intro s2 w6 hb2 hq2 ho2
      simp [relyQ, vowAt, isV] at hq2
      have k5 := ext_drew w5
      have c6 := (hc5.keep k5).keep hb2
      obtain ⟨A1, d1, A', n', c', q30, hs1⟩ := hq2.2.2.2.2.2.2.2.2.2.1
      obtain ⟨A2, d2, q37, hs2⟩ := hq2.2.2.2.2.2.2.2.2.2.2.2.2.2.2.2.2
      have x6 := c6.cell
      simp only [chL] at x6
      have c7 : Blk (w6.setCell ⟨cb, 1, none⟩ (.slice A1 1 d1)) cb 198 (chL i (.slice A1 1 d1) (.slice none 0 0) m).toArray := Blk_set (o := 1) (v := .slice A1 1 d1) c6
      have c8 : Blk ((w6.setCell ⟨cb, 1, none⟩ (.slice A1 1 d1)).setCell ⟨cb, 2, none⟩ (.slice A2 1 d2)) cb 198 (chL i (.slice A1 1 d1) (.slice A2 1 d2) m).toArray := Blk_set (o := 2) (v := .slice A2 1 d2) c7
      have x7 := c7.cell
      simp only [chL] at x7
      simp only [rowT]
      simp [go_sem, IntWalk.iteOmega, IntWalk.toNatUp, hq2, q30, q37, x6, x7, c6.lt, c6.frozen, c7.frozen]
      refine ⟨⟨i, A1, d1, A2, d2, m, A', n', c', c8, (own_sl (own_set (own_set hs1 c6 (by decide)) c7 (by decide))).1, by rw [hid]; exact (own_sl (own_set (own_set hs2 c6 (by decide)) c7 (by decide))).1⟩, fun B h1 h2 h3 => ?_⟩
      · have kw := (kk3.trans (kb.mono kk3.size)).mono h3
        have kt := ht5.below kw h2
        have kd := kt.drew.trans ((show Below w5.drew.heap.size w5.drew w6 from hb2).mono (Nat.le_trans h3 kt.size))
        exact (kd.setCell (p := ⟨cb, 1, none⟩) h1 _).setCell (p := ⟨cb, 2, none⟩) h1 _
end Go.Proofs.YtmcbcoafodmbjaaGreatDoor

/-
  A chain opened on no tape, on one that is off, on a fresh one.
-/
namespace Go.Proofs.YtmcbcoafodmbjaaGreatDoor
open Go.RowKit
set_option linter.unusedVariables false
set_option linter.unusedSimpArgs false
set_option maxRecDepth 10000
def openE (tp : Option Bool) (b : Bk) : Int := match tp with
  | none => 2
  | some true => 5
  | some false => if checkB b = 0 ∧ b.height = 0 then 0 else 30
def tapeV : Option (Nat × Bool) → Value
  | none => .pointer none
  | some (t, _) => pt t
def OpenPost (tp : Option Bool) (b : Bk) (v : Value) (w' : World) : Prop := if openE tp b = 0 then ∃ c, v = .tuple #[pt c, .int .i64 0] ∧ ChainAt w' c b else v = .tuple #[.pointer none, .int .i64 (openE tp b)]
set_option maxHeartbeats 12800000 in
theorem chopen_any {w : World} (tp : Option (Nat × Bool)) (ht : ∀ t off, tp = some (t, off) → TapeIn w t off) {b : Bk} {A : Option Addr} {n c : Nat} (hok : BkOk b) (hd : RdB w (.slice A n c) b.data) (hl : b.data.length ≤ 100000) (hC : Cubes w) :
    callE Tryz.prog 26 #[tapeV tp, .agg (bkv b (.slice A n c)).toArray] w fun v w' => OpenPost (tp.map Prod.snd) b v w' ∧ Below w.heap.size w w' := by
  have k1 := ext_alloc w (.cells (bkv b (.slice A n c)).toArray 39)
  have hX : Blk (w.alloc (.cells (bkv b (.slice A n c)).toArray 39)) w.heap.size 39 (bkv b (.slice A n c)).toArray := Blk.self_ rfl
  have hlen : (bkv b (.slice A n c)).length = 34 := bkv_len hok.len
  rcases tp with _ | ⟨t, off⟩
  · rw [show tapeV none = .pointer none from rfl]
    refine calls_E Tryz.func26 rfl rfl rfl (Nat.le_of_ble_eq_true rfl) ?_
    simp [go_sem, IntWalk.iteOmega, IntWalk.toNatUp]
    generalize w.alloc (.cells (bkv b (.slice A n c)).toArray 39) = w1 at *
    refine callE_of (clone_none w1) ?_
    rintro _ w2 ⟨rfl, rfl⟩
    simp [go_sem, IntWalk.iteOmega, IntWalk.toNatUp]
    exact ⟨rfl, k1⟩
  rw [show tapeV (some (t, off)) = pt t from rfl, show (some (t, off)).map Prod.snd = some off from rfl]
  refine calls_E Tryz.func26 rfl rfl rfl (Nat.le_of_ble_eq_true rfl) ?_
  simp [go_sem, IntWalk.iteOmega, IntWalk.toNatUp]
  generalize w.alloc (.cells (bkv b (.slice A n c)).toArray 39) = w1 at *
  have hT := (ht t off rfl).keep k1
  refine callE_of (tclone_any hT) ?_
  rintro _ w2 ⟨⟨g, rfl⟩, k2⟩
  have kk := ext_trans k1 k2
  have hT2 : TapeIn w2 t off := hT.keep k2
  have m2 := fun k => callE_eq noinit_on (on_any hT2) k
  cases off with
  | true =>
    simp [go_sem, IntWalk.iteOmega, IntWalk.toNatUp, m2]
    exact ⟨rfl, kk⟩
  | false =>
  have hX2 := hX.keep k2
  have r2 := readCells_all hX2 34 (by simpa using hlen)
  have hd2 := hd.keep kk
  simp [go_sem, IntWalk.iteOmega, IntWalk.toNatUp, m2, r2, hX2.lt]
  refine callE_of (bcheck_any hok hd2) ?_
  rintro _ w3 ⟨rfl, k3⟩
  have kk3 := ext_trans kk k3
  have hX3 := hX2.keep k3
  by_cases hcb : checkB b = 0
  rotate_left
  · have e1 : (checkB b != 0) = true := by simpa using hcb
    have e2 : openE (some false) b = 30 := if_neg (fun h => hcb h.1)
    simp [go_sem, IntWalk.iteOmega, IntWalk.toNatUp, hcb, e1]
    exact ⟨by unfold OpenPost; rw [e2]; simp, kk3⟩
  have hB3 : BkAt w3 w.heap.size b (.slice A n c) := ⟨hX3, hok, hd2.keep k3⟩
  by_cases hh : b.height = 0
  rotate_left
  · have e1 : (b.height != 0) = true := by simpa using hh
    have e2 : openE (some false) b = 30 := if_neg (fun h => hh h.2)
    simp [go_sem, IntWalk.iteOmega, IntWalk.toNatUp, hcb, hB3.height, hX3.lt, e1, hh]
    exact ⟨by unfold OpenPost; rw [e2]; simp, kk3⟩
  have e2 : openE (some false) b = 0 := if_pos ⟨hcb, hh⟩
  have r3 := readCells_all hX3 34 (by simpa using hlen)
  have hh3 : w3.cell? ⟨w.heap.size, 32, none⟩ = some (.int .i64 0) := by rw [hB3.height, hh]
  simp [go_sem, IntWalk.iteOmega, IntWalk.toNatUp, hcb, hh3, hX3.lt, r3]
  have q1 := ext_alloc w3 (.cells #[pt t] 194)
  have q2 := q1.alloc q1.size (.map #[] 0)
  have q3 := q2.alloc q2.size (.cells #[.pointer (some ⟨w3.heap.size, 0, none⟩), .slice none 0 0, .slice none 0 0, .map (some (w3.heap.size + 1)), .bool false] 198)
  have hc4 : Blk (((w3.alloc (.cells #[pt t] 194)).alloc (.map #[] 0)).alloc (.cells #[.pointer (some ⟨w3.heap.size, 0, none⟩), .slice none 0 0, .slice none 0 0, .map (some (w3.heap.size + 1)), .bool false] 198)) (w3.heap.size + 2) 198 (chL w3.heap.size (.slice none 0 0) (.slice none 0 0) (w3.heap.size + 1)).toArray := Blk.self_ (by simp)
  have hm4 : MpI (((w3.alloc (.cells #[pt t] 194)).alloc (.map #[] 0)).alloc (.cells #[.pointer (some ⟨w3.heap.size, 0, none⟩), .slice none 0 0, .slice none 0 0, .map (some (w3.heap.size + 1)), .bool false] 198)) (w3.heap.size + 1) [] := by
    have := MpI_made (w3.alloc (.cells #[pt t] 194))
    rw [show (w3.alloc (.cells #[pt t] 194)).heap.size = w3.heap.size + 1 by simp] at this
    exact this.keep (ext_alloc _ _)
  generalize ((w3.alloc (.cells #[pt t] 194)).alloc (.map #[] 0)).alloc (.cells #[.pointer (some ⟨w3.heap.size, 0, none⟩), .slice none 0 0, .slice none 0 0, .map (some (w3.heap.size + 1)), .bool false] 198) = w4 at *
  have hX4 := hX3.keep q3
  have r4 := readCells_all hX4 34 (by simpa using hlen)
  simp [go_sem, IntWalk.iteOmega, IntWalk.toNatUp, r4, hX4.lt]
  refine callE_of (chadd_any hc4 hm4 hok ((hd2.keep k3).keep q3) hl ((hC.keep kk3).keep q3) rfl) ?_
  rintro v5 w5 ⟨hch, hbel⟩
  have q5 := q3.trans (hbel w3.heap.size (by omega) (by omega) q3.size)
  have hT5 : TapeIn w5 t false := (hT2.keep k3).keep q5
  have kk5 := ext_trans kk3 q5
  simp [go_sem, IntWalk.iteOmega, IntWalk.toNatUp]
  refine callE_of (bytes_any hT5) ?_
  rintro _ w6 ⟨⟨A6, c6, rfl⟩, k6⟩
  simp [go_sem, IntWalk.iteOmega, IntWalk.toNatUp]
  refine callE_of (scan_any A6 c6 w6) ?_
  rintro _ w7 ⟨rfl, k7⟩
  have kk7 := ext_trans (ext_trans kk5 k6) k7
  have hT7 : TapeIn w7 t false := (hT5.keep k6).keep k7
  have hch7 := (hch.keep k6).keep k7
  have m7 := fun k => callE_eq noinit_len (len_any hT7) k
  simp [go_sem, IntWalk.iteOmega, IntWalk.toNatUp]
  refine W_loop (fun s wr => wr = w7 ∧ s 0 = pt t ∧ s 6 = pt (w3.heap.size + 2) ∧ s 9 = .int .i64 0 ∧ s 43 = .int .i64 0 ∧ s 44 = .int .i64 0) (fun _ _ => 0) ?_ ?_
  · exact ⟨rfl, by simp [go_sem], by simp [go_sem], by simp [go_sem], by simp [go_sem], by simp [go_sem]⟩
  rintro s wr ⟨rfl, e0, e6, e9, e43, e44⟩
  simp [go_sem, IntWalk.iteOmega, IntWalk.toNatUp, e0, e6, e9, e43, e44, m7]
  exact ⟨by unfold OpenPost; rw [e2]; exact ⟨_, rfl, hch7⟩, kk7⟩
end Go.Proofs.YtmcbcoafodmbjaaGreatDoor

/-
  A fresh chain's last block.
-/
namespace Go.Proofs.YtmcbcoafodmbjaaGreatDoor
open Go.RowKit
set_option linter.unusedVariables false
set_option linter.unusedSimpArgs false
set_option maxRecDepth 10000
theorem chnone_runs {w : World} {cb : Nat} {b : Bk} (h : ChainAt w cb b) : Runs Tryz.prog 128 #[pt cb] w (.bool false) w := by
  obtain ⟨i, A1, c1, A2, c2, m, A, n, c, h1, h2, h3⟩ := h
  refine runs_of_callE ?_
  have x := h1.cell
  simp only [chL] at x
  refine calls_E Tryz.func128 rfl rfl rfl (Nat.le_of_ble_eq_true rfl) ?_
  simp [go_sem, IntWalk.iteOmega, IntWalk.toNatUp, x, h1.lt]
theorem noinit_chnone : Tryz.prog.inits.idxOf? 128 = none := by kernel_rfl
theorem chlast0_any {w : World} {cb : Nat} {b : Bk} (h : ChainAt w cb b) (hok : BkOk b) : callE Tryz.prog 76 #[pt cb] w fun v w' => (∃ dv, v = .agg (bkv b dv).toArray) ∧ Below w.heap.size w w' := by
  obtain ⟨i, A1, c1, A2, c2, m, A, n, c, h1, h2, h3⟩ := h
  obtain ⟨dv, hdv⟩ : ∃ dv, Value.slice A n c = dv := ⟨_, rfl⟩
  have hone : allOne (bkv b dv) = true := by rw [← hdv]; exact bkv_one b A n c
  rw [hdv] at h2
  obtain ⟨_, _, he, hr, hx⟩ := h2
  injection he with he1 _ he2
  subst he1 he2
  obtain ⟨g1, o1, rfl, hg1, hcell⟩ := hr.cells (by omega)
  have hlen : (bkv b dv).length = 34 := bkv_len hok.len
  have hrd := readCells_cells (w := w) (b := g1) (o := o1) 34 0 (bkv b dv) hlen (fun j v hj => by rw [Nat.add_zero]; exact hcell j v hj)
  have k1 := ext_alloc w (.cells zBk.toArray 39)
  have hX1 : Blk (w.alloc (.cells zBk.toArray 39)) w.heap.size 39 zBk.toArray := Blk.self_ rfl
  have c1' := (h1.keep k1).cell
  have l1 := h1.lt
  simp only [chL] at c1'
  simp only [zBk] at k1 c1' hX1
  refine calls_E Tryz.func76 rfl rfl rfl (Nat.le_of_ble_eq_true rfl) ?_
  simp [go_sem, IntWalk.iteOmega, IntWalk.toNatUp]
  generalize hw1 : w.alloc (.cells #[.int .u8 0, .int .u8 0, .int .u8 0, .int .u8 0, .int .u8 0, .int .u8 0, .int .u8 0, .int .u8 0, .int .u8 0, .int .u8 0, .int .u8 0, .int .u8 0, .int .u8 0, .int .u8 0, .int .u8 0, .int .u8 0, .int .u8 0, .int .u8 0, .int .u8 0, .int .u8 0, .int .u8 0, .int .u8 0, .int .u8 0, .int .u8 0, .int .u8 0, .int .u8 0, .int .u8 0, .int .u8 0, .int .u8 0, .int .u8 0, .int .u8 0, .int .u8 0, .int .i64 0, .slice none 0 0] 39) = w1 at *
  refine W_flow (fun g => g < w.heap.size) (.pure 0 (.pure 1 (.pure 2 (.pure 3 (.pure 4 (.pure 5 (.pure 6 (.pure 7 (.pure 8 (.pure 9 (.pure 10 (.pure 11 (.one 12 (.done)))))))))))))) follows (by kernel_rfl) ?_
  have c1d := ((h1.keep k1).drew).cell
  simp only [chL] at c1d
  have lw : w.heap.size ≤ w1.heap.size := k1.size
  have hrd1 : readCells w1.drew ⟨g1, o1, none⟩ 0 34 = some (bkv b dv) := readCells_cells 34 0 (bkv b dv) hlen (fun j v hj => by
    rw [Nat.add_zero]
    exact (k1.cell (p := ⟨g1, o1 + j, none⟩) hg1).trans (hcell j v hj))
  have l1' : cb < w1.heap.size := by omega
  have l2' : g1 < w1.heap.size := by omega
  have x1 := hX1.drew
  have hcw := canWrite_all x1 34 rfl
  have hst := storeSeg_all x1 (bkv b dv) (by rw [hlen]; rfl)
  have x2 := Blk_setRow (cs' := (bkv b dv).toArray) x1
  have hr2 := readCells_all x2 34 (by simpa using hlen)
  have hh : heldE (fun g => g < w.heap.size) w1.drew (w1.drew.setRow w.heap.size (bkv b dv).toArray) := (held_refl _ _).row _ (by omega)
  simp [go_sem, IntWalk.iteOmega, IntWalk.toNatUp, c1d, l1, l1', hg1, l2', hrd1, hlen, hone, hcw, hst, hh, hr2]
  exact ⟨⟨_, rfl⟩, below_setRow k1.drew (Nat.le_refl _) _⟩
set_option maxHeartbeats 3200000 in
theorem chlast_any {w : World} {cb : Nat} {b : Bk} (h : ChainAt w cb b) (hok : BkOk b) : callE Tryz.prog 62 #[pt cb] w fun v w' => v = .tuple #[.agg (bl (idB b).1).toArray, .int .i64 b.height] ∧ Below w.heap.size w w' := by
  obtain ⟨id, hid⟩ : ∃ id, (idB b).1 = id := ⟨_, rfl⟩
  have l32 : id.length = 32 := by rw [← hid]; exact idB_len b
  have hls : (bl id).length = 32 := by simp [bl, l32]
  have ho1 := bl_one id
  have k1 := ext_alloc w (.cells zId.toArray 36)
  have hX1 : Blk (w.alloc (.cells zId.toArray 36)) w.heap.size 36 zId.toArray := Blk.self_ rfl
  have h1 := h.keep k1
  simp only [zId] at k1 hX1 h1
  refine calls_E Tryz.func62 rfl rfl rfl (Nat.le_of_ble_eq_true rfl) ?_
  simp [go_sem, IntWalk.iteOmega, IntWalk.toNatUp]
  generalize w.alloc (.cells #[.int .u8 0, .int .u8 0, .int .u8 0, .int .u8 0, .int .u8 0, .int .u8 0, .int .u8 0, .int .u8 0, .int .u8 0, .int .u8 0, .int .u8 0, .int .u8 0, .int .u8 0, .int .u8 0, .int .u8 0, .int .u8 0, .int .u8 0, .int .u8 0, .int .u8 0, .int .u8 0, .int .u8 0, .int .u8 0, .int .u8 0, .int .u8 0, .int .u8 0, .int .u8 0, .int .u8 0, .int .u8 0, .int .u8 0, .int .u8 0, .int .u8 0, .int .u8 0] 36) = w1 at *
  have m1 := fun k => callE_eq noinit_chnone (chnone_runs h1) k
  simp [go_sem, IntWalk.iteOmega, IntWalk.toNatUp, m1]
  refine W_flow (fun g => g < w.heap.size) (.pure 0 (.pure 1 (.pure 2 (.pure 3 (.pure 4 (.pure 5 (.pure 6 (.pure 7 (.pure 8 (.pure 9 (.pure 10 (.pure 11 (.pure 12 (.one 13 (.pure 14 (.one 15 (.pure 16 (.done)))))))))))))))))) follows (by kernel_rfl) ?_
  have hd1 := h1.keep (ext_drew w1)
  obtain ⟨i0, B1, d1, B2, d2, m0, A0, n0, c0, g1, g2, g3⟩ := h
  rw [hid] at g3
  obtain ⟨_, _, he, hr, hx⟩ := g3
  injection he with he1 _ he2
  subst he1 he2
  obtain ⟨b2, o2, rfl, hb2, hcell⟩ := hr.cells (by omega)
  have e1 := (g1.keep k1.drew).cell
  have l1 := g1.lt
  simp only [chL] at e1
  have hrd1 : readCells w1.drew ⟨b2, o2, none⟩ 0 32 = some (bl id) := readCells_cells 32 0 (bl id) hls (fun j v hj => by
    rw [Nat.add_zero]
    exact (k1.cell (p := ⟨b2, o2 + j, none⟩) hb2).trans (hcell j v hj))
  have lw : w.heap.size ≤ w1.heap.size := k1.size
  have l1' : cb < w1.heap.size := by omega
  have l2' : b2 < w1.heap.size := by omega
  simp [go_sem, IntWalk.iteOmega, IntWalk.toNatUp, e1, l1, l1', hb2, l2', hrd1, hls, ho1]
  refine callE_of (chlast0_any hd1 hok) ?_
  rintro _ w2 ⟨⟨dv, rfl⟩, k2⟩
  have x1 := hX1.drew.keep k2
  have hcw := canWrite_all x1 32 rfl
  have hst := storeSeg_all x1 (bl id) (by rw [hls]; rfl)
  have x2 := Blk_setRow (cs' := (bl id).toArray) x1
  have hr2 := readCells_all x2 32 (by simpa using hls)
  have hlen : (bkv b dv).length = 34 := bkv_len hok.len
  have h32 := bkv_32 (b := b) (dv := dv) hok.len
  have hh0 : heldE (fun g => g < w.heap.size) w1.drew w2 := (held_refl _ _).below k2
  have hh : heldE (fun g => g < w.heap.size) w1.drew (w2.setRow w.heap.size (bl id).toArray) := hh0.row _ (by omega)
  have hf : ∀ w, (Instr.field 39 (.agg (bkv b dv).toArray) 1).run Tryz.prog w = .ok (.int .i64 b.height) w := fun w => by
    simp [go_sem, Instr.field, asAgg, h32]
  simp [go_sem, IntWalk.iteOmega, IntWalk.toNatUp, hh0, hh, hcw, hst, hr2, hls, ho1, hlen, h32, hf]
  exact ⟨by rw [hid], below_setRow (k1.drew.trans (k2.mono k1.size)) (Nat.le_refl _) _⟩
end Go.Proofs.YtmcbcoafodmbjaaGreatDoor

/-
  The document's chain: opened, and its last block.
-/
namespace Go.Proofs.YtmcbcoafodmbjaaGreatDoor
open Go.RowKit
set_option linter.unusedVariables false
set_option linter.unusedSimpArgs false
set_option maxRecDepth 10000
def RChainAt (w : World) (cb : Nat) (b : Bk) : Prop := ∃ t A1 c1 A n c, Blk w cb 220 #[pt t, .slice A1 1 c1, .bool false] ∧ Sl w 34 (.slice A1 1 c1) 1 (bkv b (.slice A n c)) ∧ RdB w (.slice A n c) b.data
theorem RChainAt.keep {w w' : World} {cb : Nat} {b : Bk} (h : RChainAt w cb b) (hb : Below w.heap.size w w') : RChainAt w' cb b := by
  obtain ⟨t, A1, c1, A, n, c, h1, h2, h3⟩ := h
  exact ⟨t, A1, c1, A, n, c, h1.keep hb, Sl_kept h2 hb, h3.keep hb⟩
def ROpenPost (off : Bool) (b : Bk) (v : Value) (w' : World) : Prop := if openE (some off) b = 0 then ∃ c, v = .tuple #[pt c, .int .i64 0] ∧ RChainAt w' c b else v = .tuple #[.pointer none, .int .i64 (openE (some off) b)]
theorem rdb_own {w : World} {B : Nat} {v : Value} {l : List UInt8} (h : w.ownsRow B 5 1 v l.length (bl l)) : RdB w v l := by
  obtain ⟨⟨A, c, rfl, hr, h1, h2, h3⟩, -⟩ := own_sl h
  exact ⟨A, c, rfl, hr, fun h => (h1 h).1, h2, h3⟩
@[go_sem high] theorem bs_block {d : Option Tmp} {ty : TypeId} {pos : String} {after : Array Edge} {s : Slots} {w : World} {x : Operand} (hv : (ev s x).cells.size = 34) : opR Tryz.prog ⟨d, .buildSlice 196 1 #[(0, x)], ty, pos, after, none⟩ s w = .ok (.value (.slice (some ⟨w.heap.size, 0, none⟩) 1 1)) (w.alloc (.cells (ev s x).cells 39)) :=
  opR_build1 (z := .agg zBk.toArray) (size := 34) (bytes := 64) Tryz.underlying196 (by kernel_rfl) (by omega) (by omega) hv
set_option maxHeartbeats 12800000 in
theorem rchopen_any {w : World} {t : Nat} {off : Bool} (hT0 : RTapeIn w t off) {b : Bk} {A : Option Addr} {n c : Nat} (hok : BkOk b) (hd : RdB w (.slice A n c) b.data) (hl : b.data.length ≤ 100000) :
    callE Tryz.prog 32 #[pt t, .agg (bkv b (.slice A n c)).toArray] w fun v w' => ROpenPost off b v w' ∧ Below w.heap.size w w' := by
  have k1 := ext_alloc w (.cells (bkv b (.slice A n c)).toArray 39)
  have hX : Blk (w.alloc (.cells (bkv b (.slice A n c)).toArray 39)) w.heap.size 39 (bkv b (.slice A n c)).toArray := Blk.self_ rfl
  have hlen : (bkv b (.slice A n c)).length = 34 := bkv_len hok.len
  refine calls_E Tryz.func32 rfl rfl rfl (Nat.le_of_ble_eq_true rfl) ?_
  simp [go_sem, IntWalk.iteOmega, IntWalk.toNatUp]
  generalize w.alloc (.cells (bkv b (.slice A n c)).toArray 39) = w2 at *
  have kk := k1
  have hT : Blk w2 t 79 #[.slice none 0 0, .bool off, .int .i64 (-1)] := Blk.keep hT0 k1
  have t2 := hT.cell
  have l2 := hT.lt
  cases off with
  | true =>
    simp [go_sem, IntWalk.iteOmega, IntWalk.toNatUp, t2, l2]
    exact ⟨rfl, kk⟩
  | false =>
  have hX2 := hX
  have r2 := readCells_all hX2 34 (by simpa using hlen)
  have hd2 := hd.keep kk
  simp [go_sem, IntWalk.iteOmega, IntWalk.toNatUp, t2, l2, r2, hX2.lt]
  refine callE_of (rbcheck_any hok hd2) ?_
  rintro _ w3 ⟨rfl, k3⟩
  have kk3 := ext_trans kk k3
  have hX3 := hX2.keep k3
  by_cases hcb : checkB b = 0
  rotate_left
  · have e1 : (checkB b != 0) = true := by simpa using hcb
    have e2 : openE (some false) b = 30 := if_neg (fun h => hcb h.1)
    simp [go_sem, IntWalk.iteOmega, IntWalk.toNatUp, hcb, e1]
    exact ⟨by unfold ROpenPost; rw [e2]; simp, kk3⟩
  have hB3 : BkAt w3 w.heap.size b (.slice A n c) := ⟨hX3, hok, hd2.keep k3⟩
  by_cases hh : b.height = 0
  rotate_left
  · have e1 : (b.height != 0) = true := by simpa using hh
    have e2 : openE (some false) b = 30 := if_neg (fun h => hh h.2)
    simp [go_sem, IntWalk.iteOmega, IntWalk.toNatUp, hcb, hB3.height, hX3.lt, e1, hh]
    exact ⟨by unfold ROpenPost; rw [e2]; simp, kk3⟩
  have e2 : openE (some false) b = 0 := if_pos ⟨hcb, hh⟩
  have r3 := readCells_all hX3 34 (by simpa using hlen)
  have hh3 : w3.cell? ⟨w.heap.size, 32, none⟩ = some (.int .i64 0) := by rw [hB3.height, hh]
  simp [go_sem, IntWalk.iteOmega, IntWalk.toNatUp, hcb, hh3, hX3.lt, r3]
  refine callE_of (rclone_any hok (hd2.keep k3) hl) ?_
  rintro _ w4 ⟨⟨dv, rfl, ho4⟩, k4⟩
  have hd4 := rdb_own ho4
  obtain ⟨-, A4, c4, rfl⟩ := own_sl ho4
  have kk4 := ext_trans kk3 k4
  have hlen4 : (bkv b (.slice A4 b.data.length c4)).length = 34 := bkv_len hok.len
  simp [go_sem, IntWalk.iteOmega, IntWalk.toNatUp, Value.cells, hlen4]
  have q1 := ext_alloc w4 (.cells (bkv b (.slice A4 b.data.length c4)).toArray 39)
  have hs4 := one_sl (w := w4) (e := 39) hlen4
  have q2 := q1.alloc q1.size (.cells #[pt t, .slice (some ⟨w4.heap.size, 0, none⟩) 1 1, .bool false] 220)
  have hc5 : Blk ((w4.alloc (.cells (bkv b (.slice A4 b.data.length c4)).toArray 39)).alloc (.cells #[pt t, .slice (some ⟨w4.heap.size, 0, none⟩) 1 1, .bool false] 220)) (w4.heap.size + 1) 220 #[pt t, .slice (some ⟨w4.heap.size, 0, none⟩) 1 1, .bool false] := Blk.self_ (by simp)
  have hs5 := Sl_kept hs4 (ext_alloc _ (.cells #[pt t, .slice (some ⟨w4.heap.size, 0, none⟩) 1 1, .bool false] 220))
  generalize (w4.alloc (.cells (bkv b (.slice A4 b.data.length c4)).toArray 39)).alloc (.cells #[pt t, .slice (some ⟨w4.heap.size, 0, none⟩) 1 1, .bool false] 220) = w5 at *
  have hT5 : Blk w5 t 79 #[.slice none 0 0, .bool false, .int .i64 (-1)] := ((hT.keep k3).keep k4).keep q2
  have hR5 : RChainAt w5 (w4.heap.size + 1) b := ⟨t, _, _, _, _, _, hc5, hs5, hd4.keep q2⟩
  have kk5 := ext_trans kk4 q2
  simp [go_sem, IntWalk.iteOmega, IntWalk.toNatUp, hT5.cell, hT5.lt]
  refine callE_of (rscan_any none 0 w5) ?_
  rintro _ w7 ⟨rfl, k7⟩
  have kk7 := ext_trans kk5 k7
  have hT7 := hT5.keep k7
  have hR7 := hR5.keep k7
  have t7 := hT7.cell
  have l7 := hT7.lt
  simp [go_sem, IntWalk.iteOmega, IntWalk.toNatUp]
  refine W_loop (fun s wr => wr = w7 ∧ s 0 = pt t ∧ s 6 = pt (w4.heap.size + 1) ∧ s 7 = .slice none 0 0 ∧ s 9 = .int .i64 0 ∧ s 10 = .int .i64 0) (fun _ _ => 0) ?_ ?_
  · exact ⟨rfl, by simp [go_sem], by simp [go_sem], by simp [go_sem], by simp [go_sem], by simp [go_sem]⟩
  rintro s wr ⟨rfl, e0, e6, e7, e9, e10⟩
  simp [go_sem, IntWalk.iteOmega, IntWalk.toNatUp, e0, e6, e7, e9, e10, t7, l7]
  exact ⟨by unfold ROpenPost; rw [e2]; exact ⟨_, rfl, hR7⟩, kk7⟩
set_option maxHeartbeats 3200000 in
theorem rchlast_any {w : World} {cb : Nat} {b : Bk} (h : RChainAt w cb b) (hok : BkOk b) : callE Tryz.prog 43 #[pt cb] w fun v w' => v = .tuple #[.agg (bl (idB b).1).toArray, .int .i64 b.height] ∧ Below w.heap.size w w' := by
  have l32 : (idB b).1.length = 32 := idB_len b
  have hls : (bl (idB b).1).length = 32 := by simp [bl, l32]
  have ho1 := bl_one (idB b).1
  have k1 := ext_alloc w (.cells zId.toArray 36)
  have hX1 : Blk (w.alloc (.cells zId.toArray 36)) w.heap.size 36 zId.toArray := Blk.self_ rfl
  have h1 := h.keep k1
  simp only [zId] at k1 hX1 h1
  refine calls_E Tryz.func43 rfl rfl rfl (Nat.le_of_ble_eq_true rfl) ?_
  simp [go_sem, IntWalk.iteOmega, IntWalk.toNatUp]
  generalize w.alloc (.cells #[.int .u8 0, .int .u8 0, .int .u8 0, .int .u8 0, .int .u8 0, .int .u8 0, .int .u8 0, .int .u8 0, .int .u8 0, .int .u8 0, .int .u8 0, .int .u8 0, .int .u8 0, .int .u8 0, .int .u8 0, .int .u8 0, .int .u8 0, .int .u8 0, .int .u8 0, .int .u8 0, .int .u8 0, .int .u8 0, .int .u8 0, .int .u8 0, .int .u8 0, .int .u8 0, .int .u8 0, .int .u8 0, .int .u8 0, .int .u8 0, .int .u8 0, .int .u8 0] 36) = w1 at *
  refine W_flow (fun g => g < w1.heap.size) (.pure 0 (.pure 1 (.pure 2 (.pure 3 (.pure 4 (.pure 5 (.pure 6 (.pure 7 (.pure 8 (.pure 9 (.pure 10 (.pure 11 (.one 12 (.one 13 (.done)))))))))))))) ) follows (by kernel_rfl) ?_
  have hsz : w1.drew.heap.size = w1.heap.size := rfl
  have h2 := h1.keep (ext_drew w1)
  have hX2 := hX1.drew
  have kd := k1.drew
  generalize w1.drew = w2 at *
  obtain ⟨t, A1, c1, A, n, c, g1, g2, g3⟩ := h2
  obtain ⟨_, _, he, hr, hx⟩ := g2
  injection he with he1 _ he2
  subst he1 he2
  obtain ⟨b2, o2, rfl, hb2, hcell⟩ := hr.cells (by omega)
  have hlen : (bkv b (.slice A n c)).length = 34 := bkv_len hok.len
  have hone := bkv_one b A n c
  have hrd1 := readCells_cells (w := w2) (b := b2) (o := o2) 34 0 (bkv b (.slice A n c)) hlen (fun j v hj => by rw [Nat.add_zero]; exact hcell j v hj)
  have z1 := zBk_can w2 39
  have z2 := zBk_store w2 39 (bkv b (.slice A n c)) hlen
  have k2 := ext_alloc w2 (.cells (bkv b (.slice A n c)).toArray 39)
  have k2' := ext_alloc w2 (.cells zBk.toArray 39)
  have e1 := g1.cell
  have l1 := g1.lt
  have hh0 : heldE (fun g => g < w1.heap.size) w2 (w2.alloc (.cells zBk.toArray 39)) := (held_refl _ w2).below k2'
  have hh1 : heldE (fun g => g < w1.heap.size) w2 (w2.alloc (.cells (bkv b (.slice A n c)).toArray 39)) := (held_refl _ w2).below k2
  simp only [zBk] at z1 z2 k2' hh0
  have l1' : cb < w1.heap.size := by omega
  have hb2' : b2 < w1.heap.size := by omega
  simp [go_sem, IntWalk.iteOmega, IntWalk.toNatUp, e1, l1, hb2, l1', hb2', hrd1, hlen, hone, z1, z2, hh0, hh1]
  have hB3 : BkAt (w2.alloc (.cells (bkv b (.slice A n c)).toArray 39)) w2.heap.size b (.slice A n c) := ⟨Blk.self_ rfl, hok, g3.keep k2⟩
  have hX3 := hX2.keep k2
  have kd3 := ext_trans kd k2
  have hX2l := hX2.lt
  generalize w2.alloc (.cells (bkv b (.slice A n c)).toArray 39) = w3 at *
  have r3 := hB3.all
  have l3 := hB3.blk.lt
  simp [go_sem, IntWalk.iteOmega, IntWalk.toNatUp, r3, l3]
  refine callE_of (rid_any hok hB3.rd) ?_
  rintro _ w4 ⟨rfl, k4⟩
  generalize (idB b).2 = ide at *
  have hB4 := hB3.keep k4
  have hX4 := hX3.keep k4
  have kd4 := ext_trans kd3 k4
  obtain ⟨id, hid⟩ : ∃ id, (idB b).1 = id := ⟨_, rfl⟩
  rw [hid] at hls ho1 ⊢
  have y1 := zId_can w4
  have y2 := zId_store w4 (bl id) hls
  have k5 := ext_alloc w4 (.cells (bl id).toArray 36)
  have hI5 : Blk (w4.alloc (.cells (bl id).toArray 36)) w4.heap.size 36 (bl id).toArray := Blk.self_ rfl
  have hB5 := hB4.keep k5
  have hX5 := hX4.keep k5
  have kd5 := ext_trans kd4 k5
  simp only [zId] at y1 y2
  simp [go_sem, IntWalk.iteOmega, IntWalk.toNatUp, y1, y2, hls, ho1]
  generalize w4.alloc (.cells (bl id).toArray 36) = w5 at *
  refine W_flow (fun g => g = w2.heap.size ∨ g = w4.heap.size) (.pure 0 (.pure 1 (.pure 2 (.one 3 (.pure 4 (.done)))))) follows (by kernel_rfl) ?_
  have hB6 : BkAt w5.drew w2.heap.size b (.slice A n c) := hB5.keep (ext_drew w5)
  have hI6 := hI5.drew
  have hX6 := hX5.drew
  have kd6 := kd5.drew
  have s1 := hB5.blk.lt
  have s2 := hI5.lt
  generalize hw6 : w5.drew = w6 at *
  have s6 : w6.heap.size = w5.heap.size := by rw [← hw6]; rfl
  have r6 := readCells_all hI6 32 (by simpa using hls)
  have hcw := canWrite_all hX6 32 rfl
  have hst := storeSeg_all hX6 (bl id) (by rw [hls]; rfl)
  have x7 := Blk_setRow (cs' := (bl id).toArray) hX6
  have r7 := readCells_all x7 32 (by simpa using hls)
  have h32 := hB6.height
  have s3 := hB4.blk.lt
  have s4 := hX6.lt
  have hs24 : w2.heap.size < w4.heap.size := by have := k4.size; have := hB3.blk.lt; omega
  have hlw : w.heap.size < w2.heap.size := hX2l
  have s7 : w2.heap.size < w6.heap.size := by omega
  have s8 : w4.heap.size < w6.heap.size := by omega
  have hh2 : heldE (fun g => g = w2.heap.size ∨ g = w4.heap.size) w6 (w6.setRow w.heap.size (bl id).toArray) := (held_refl _ w6).row _ (by omega)
  simp [go_sem, IntWalk.iteOmega, IntWalk.toNatUp, r6, hcw, hst, h32, s7, s8, hh2, hls, ho1, r7]
  exact below_setRow kd6 (Nat.le_refl _) _
end Go.Proofs.YtmcbcoafodmbjaaGreatDoor
