/-
  Texts joined: Copy, NPeer, NRPeer, NGate, NTape.
-/
import Derived.Test.YtmcbcoafodmbjaaGreatDoorJoin29
import Derived.Lib.AppendZerosOnto
namespace Go.Proofs.YtmcbcoafodmbjaaGreatDoor
open Go.RowKit
set_option linter.unusedVariables false
theorem copyE {P : Program} {w : World} {t u ty e te : TypeId} (ht : P.underlying t = some (.slice e)) (he : (P.info? e).map (·.size) = some 1) {g o dLen dCap m c : Nat} {A : Option Addr} {cur : Array Value} {D : Option Addr} (cs : List Value) (hb : Blk w g te cur)
    (hn : cs.length = Nat.min m dLen) (hD : 0 < cs.length → D = some ⟨g, o, none⟩) (hsrc : 0 < cs.length → ∃ ad, A = some ad ∧ ∀ j v, cs[j]? = some v → w.cell? (ad.add j) = some v) (hfit : 0 < cs.length → o + cs.length ≤ cur.size) (h1 : allOne cs = true) {k : Kont}
    (hk : ∀ w' cur', Blk w' g te cur' → cur'.toList = cur.toList.take o ++ cs ++ cur.toList.drop (o + cs.length) → w.grownBy w' (some g) → w'.heap.size = w.heap.size → k (goInt cs.length) w') : resE P (copyR P t u ty (.slice D dLen dCap) (.slice A m c) w) k := by
  unfold copyR
  by_cases h0 : cs.length = 0
  · rw [run_copy_none (P := P) w t u ty e D A dLen dCap m c ht he (by omega)]
    have hcs : cs = [] := List.eq_nil_of_length_eq_zero h0
    subst hcs
    exact hk w cur hb (by simp) (World.grownBy.refl w _) rfl
  · obtain ⟨ad, rfl, hs⟩ := hsrc (by omega)
    rw [hD (by omega), run_copy_row (P := P) w t u ty e g o dLen dCap ad m c cur te cs ht he hb hn hs (hfit (by omega)) (allOne_mem h1)]
    exact hk _ _ (Blk_setRow hb) (by simp) ⟨rfl, rfl, rfl, by simp [World.setRow], fun j _ hj => setRow_other w g j _ (fun e => hj (by rw [e]))⟩ (by simp [World.setRow])
end Go.Proofs.YtmcbcoafodmbjaaGreatDoor

/-
  A book of requests at first.
-/
namespace Go.Proofs.YtmcbcoafodmbjaaGreatDoor
open Go.RowKit
set_option linter.unusedVariables false
set_option linter.unusedSimpArgs false
set_option maxRecDepth 10000
theorem vdrs_one (l : List Vd) : allOne (vdrs l) = true := allOne_of fun v hv => by
  obtain ⟨x, _, hx⟩ := List.mem_flatMap.1 hv
  simp only [List.mem_cons, List.not_mem_nil, or_false] at hx
  rcases hx with rfl | rfl <;> rfl
abbrev pt (g : Nat) : Value := .pointer (some ⟨g, 0, none⟩)
def bookL (c : Nat → Int) (i : Nat) (own : Value) (now m0 m1 : Int) (seats : Value) (m : Nat) : List Value := pt i :: (pcL c ++ [own, .int .i64 now, .int .i64 m0, .int .i64 m1, seats, .map (some m)])
def PeerAt (w : World) (p : Nat) (c : Nat → Int) (now : Int) : Prop := ∃ i a h own m0 m1 seats m mm, Blk w p 190 (bookL c i own now m0 m1 seats m).toArray ∧ Blk w i 187 #[pt a, pt h] ∧ Blk w a 270 #[.int .i64 (c 17), .int .i64 0, .map (some mm), .int .i64 0, .int .i64 0, .int .i64 0]
theorem PeerAt.keep {w w' : World} {p : Nat} {c : Nat → Int} {now : Int} (h : PeerAt w p c now) (hb : Below w.heap.size w w') : PeerAt w' p c now := by
  obtain ⟨i, a, h, own, m0, m1, seats, m, mm, h1, h2, h3⟩ := h
  exact ⟨i, a, h, own, m0, m1, seats, m, mm, h1.keep hb, h2.keep hb, h3.keep hb⟩
def PeerPost (c : Nat → Int) (now : Int) (v : Value) (w' : World) : Prop := if 0 ≤ now ∧ now ≤ 4611686018427387903 then ∃ p, v = .tuple #[pt p, .int .i64 0] ∧ PeerAt w' p c now else v = .tuple #[.pointer none, .int .i64 131]
def PIn (a : Nat) : Vow := fun v w => ∃ i g, v = pt i ∧ Blk w i 187 #[pt a, pt g]
def PCells (c : Nat → Int) (a : Nat) (own : Value) (now m0 m1 : Int) (seats : Value) : Vow := fun v w => ∃ i g m, v = .agg (bookL c i own now m0 m1 seats m).toArray ∧ Blk w i 187 #[pt a, pt g]
def PBox (c : Nat → Int) (a : Nat) (own : Value) (now m0 m1 : Int) (seats : Value) : Vow := fun v w => ∃ i g m p, v = pt p ∧ Blk w i 187 #[pt a, pt g] ∧ Blk w p 190 (bookL c i own now m0 m1 seats m).toArray
def aPt : Vow := fun v _ => ∃ g, v = pt g
def aMp : Vow := fun v _ => ∃ m, v = .map (some m)
def PPair (a : Nat) : Vow := fun v _ => ∃ g, v = .agg #[pt a, pt g]
theorem firm_pt : aPt.Firm := ⟨fun h _ => h⟩
theorem firm_mp : aMp.Firm := ⟨fun h _ => h⟩
theorem firm_pair (a : Nat) : (PPair a).Firm := ⟨fun h _ => h⟩
theorem firm_pin (a : Nat) : (PIn a).Firm := ⟨fun ⟨i, g, h1, h2⟩ hb => ⟨i, g, h1, h2.keep hb⟩⟩
section
variable (c : Nat → Int) (a : Nat) (own : Value) (now m0 m1 : Int) (seats : Value)
theorem firm_cells : (PCells c a own now m0 m1 seats).Firm := ⟨fun ⟨i, g, m, h1, h2⟩ hb => ⟨i, g, m, h1, h2.keep hb⟩⟩
theorem firm_box : (PBox c a own now m0 m1 seats).Firm := ⟨fun ⟨i, g, m, p, h1, h2, h3⟩ hb => ⟨i, g, m, p, h1, h2.keep hb, h3.keep hb⟩⟩
end
set_option maxHeartbeats 12800000 in
theorem peernew_any (c : Nat → Int) (hc : pcOk c) (l : List Vd) (vl : Value) (now : Int) (w : World) (hs : Sl w 2 vl l.length (vdrs l)) (hN : ∀ x ∈ l, x.name.size ≤ 9223372036854775807) (hW : ∀ x ∈ l, -9223372036854775808 ≤ x.weight ∧ x.weight ≤ 9223372036854775807) (hv : checkV l = 0) (hl : 1 ≤ l.length ∧ l.length ≤ 32) :
    callE Tryz.prog 25 #[.agg (pcL c).toArray, vl, .int .i64 now] w fun v w' => PeerPost c now v w' ∧ Below w.heap.size w w' := by
  obtain ⟨hc1, hc2, hc3⟩ := id hc
  have k1 := ext_alloc w (.cells (pcL c).toArray 31)
  have hX : Blk (w.alloc (.cells (pcL c).toArray 31)) w.heap.size 31 (pcL c).toArray := Blk.self_ rfl
  have d1 := pcheck_any c
  unfold pcL at hX k1 d1 ⊢
  refine calls_E Tryz.func25 rfl rfl rfl (Nat.le_of_ble_eq_true rfl) ?_
  simp [go_sem, IntWalk.iteOmega, IntWalk.toNatUp]
  generalize w.alloc (.cells (#[.int .i64 (c 17), .int .i64 (c 18), .int .i64 (c 19), .int .i64 (c 20), .int .i64 (c 21), .int .i64 (c 22), .int .i64 (c 23), .int .i64 (c 24), .int .i64 (c 25), .int .i64 (c 26), .int .i64 (c 27)]) 31) = w1 at *
  refine callE_of (d1 w1) ?_
  rintro _ w2 ⟨rfl, k2⟩
  rw [pcE_ok hc]
  have kk := ext_trans k1 k2
  have hs2 := Sl_kept hs kk
  have hX2 := hX.keep k2
  simp [go_sem, IntWalk.iteOmega, IntWalk.toNatUp]
  refine callE_of (vcheck_any l vl w2 hs2 hN hW) ?_
  rintro _ w3 ⟨rfl, k3⟩
  rw [hv]
  have kk := ext_trans kk k3
  have hX3 := hX2.keep k3
  simp [go_sem, IntWalk.iteOmega, IntWalk.toNatUp, hX3.cell, hX3.lt]
  refine callE_of (mnew_any hc2 now w3) ?_
  rintro _ w4 ⟨⟨m0, m1, rfl⟩, k4⟩
  have kk := ext_trans kk k4
  have hX4 := hX3.keep k4
  have hM : Blk (w4.alloc (.cells #[.int .i64 0, .int .i64 0] 139)) w4.heap.size 139 #[.int .i64 0, .int .i64 0] := Blk.self_ rfl
  have hst := storeSeg_all hM [.int .i64 m0, .int .i64 m1] rfl
  have hcw := canWrite_all hM 2 rfl
  rw [setRow_new] at hst
  have k5 := ext_alloc w4 (.cells #[.int .i64 m0, .int .i64 m1] 139)
  have hM5 : Blk (w4.alloc (.cells #[.int .i64 m0, .int .i64 m1] 139)) w4.heap.size 139 #[.int .i64 m0, .int .i64 m1] := Blk.self_ rfl
  have hX5 := hX4.keep k5
  have kk5 := ext_trans kk k5
  by_cases hn : 0 ≤ now ∧ now ≤ 4611686018427387903
  rotate_left
  · rw [show pastE now = 131 from if_neg hn]
    simp [go_sem, IntWalk.iteOmega, IntWalk.toNatUp, hcw, hst]
    exact ⟨by unfold PeerPost; rw [if_neg hn], kk5⟩
  rw [show pastE now = 0 from if_pos hn]
  simp [go_sem, IntWalk.iteOmega, IntWalk.toNatUp, hcw, hst, hX5.cell, hX5.lt]
  generalize w4.alloc (.cells #[.int .i64 m0, .int .i64 m1] 139) = w5 at *
  refine callE_of (asksnew_any (c 17) hc1 w5) ?_
  rintro _ w6 ⟨⟨a, mm, rfl, hA6, ha6⟩, k6⟩
  have kk6 := ext_trans kk5 k6
  obtain ⟨A, cap, rfl, hrd, hA, hcap⟩ := id hs
  simp [go_sem, IntWalk.iteOmega, IntWalk.toNatUp]
  refine callE_of (benchnew_any l.length hl w6) ?_
  rintro _ w7 ⟨⟨S0, rfl⟩, k7⟩
  have kk7 := ext_trans kk6 k7
  have hA7 := hA6.keep k7
  have hX7 := (hX5.keep k6).keep k7
  have hM7 := (hM5.keep k6).keep k7
  have hz := World.ownsRow_made (base := w.heap.size) (e := 59) (size := 2) w7 #[] 0 kk7.size (by unfold maxLen; omega) rfl
  have k8 := ext_alloc w7 (.cells #[] 59)
  have kk8 := ext_trans kk7 k8
  simp [go_sem, IntWalk.iteOmega, IntWalk.toNatUp]
  refine appendE w.heap.size 59 2 24 Tryz.underlying34 (el_of (z := .agg #[.string ⟨#[]⟩, .int .i64 0]) (by kernel_rfl) rfl (by omega)) hz (hrd.keep kk8) (vdrs_one l) (by unfold maxLen; omega) (by omega) kk8.size ?_
  intro v9 w9 hr9 hg9 hbk9
  have k9 : Below w7.heap.size w7 w9 := k8.trans ((Below.refl w7.heap.size _).grown hg9 k8.size (fun k hk => by simp only [Value.ownBlock, Option.some.injEq] at hk; omega))
  have hX9 := hX7.keep k9
  have hM9 := hM7.keep k9
  have hA9 := hA7.keep k9
  have kk9 := ext_trans kk7 k9
  obtain ⟨-, A9, c9, rfl⟩ := own_sl hr9
  clear hX hX2 hX3 hX4 hX5 hX7 hM hM5 hM7 hA6 hA7 hst hcw d1 hz hr9 hg9 hbk9 hs2 hrd
  simp [go_sem, IntWalk.iteOmega, IntWalk.toNatUp]
  refine W_rely [isV (pt a), aPt, PPair a, PIn a, isV (.agg (pcL c).toArray), isV (.slice A9 l.length c9), isV (.int .i64 now), isV (.agg #[.int .i64 m0, .int .i64 m1]), isV (.slice S0 l.length l.length), aMp, PCells c a (.slice A9 l.length c9) now m0 m1 (.slice S0 l.length l.length), PBox c a (.slice A9 l.length c9) now m0 m1 (.slice S0 l.length l.length), PBox c a (.slice A9 l.length c9) now m0 m1 (.slice S0 l.length l.length), isV (.int .i64 0)] follows (by kernel_rfl) ?_ ?_ ?_
  · intro f hf
    simp only [List.mem_cons, List.not_mem_nil, or_false] at hf
    rcases hf with rfl | rfl | rfl | rfl | rfl | rfl | rfl | rfl | rfl | rfl | rfl | rfl | rfl | rfl
    all_goals first | exact firm_is _ | exact firm_pt | exact firm_mp | exact firm_pair _ | exact firm_pin _ | exact firm_cells _ _ _ _ _ _ _ | exact firm_box _ _ _ _ _ _ _
  · have b0 := hX9.drew
    have b1 := hM9.drew
    refine ⟨?_, ?_, ?_, ?_, ?_, ?_, ?_, ?_, ?_, ?_, ?_, ?_, ?_, ?_, trivial⟩ <;> intro _ s' w' hb hd ho
    all_goals
      have e2 := ho 2 rfl
      have e3 := ho 3 rfl
      have e10 := ho 10 rfl
      have e12 := ho 12 rfl
      have e13 := ho 13 rfl
      have e14 := ho 14 rfl
      clear ho
      simp [go_sem] at e2 e3 e10 e12 e13 e14
      simp [relyDeps, Region.binds, vowOf, vowAt] at hd
      dsimp only
    · simp [go_sem, IntWalk.iteOmega, IntWalk.toNatUp, e12, isV]
      exact Below.refl _ _
    · simp [go_sem, IntWalk.iteOmega, IntWalk.toNatUp]
      refine callE_of (alarmnew_any w') ?_
      rintro _ w2 ⟨⟨g, rfl⟩, k⟩
      exact ⟨k, g, rfl⟩
    · obtain ⟨q1, g, q2⟩ := hd
      simp only [isV] at q1
      simp [go_sem, IntWalk.iteOmega, IntWalk.toNatUp, q1, q2]
      exact ⟨Below.refl _ _, g, rfl⟩
    · obtain ⟨g, q⟩ := hd
      simp [go_sem, IntWalk.iteOmega, IntWalk.toNatUp, q]
      exact ⟨ext_alloc _ _, _, g, rfl, Blk.self_ rfl⟩
    · have x0 := (b0.keep hb).cell
      simp [go_sem, IntWalk.iteOmega, IntWalk.toNatUp, e3, x0, isV]
      exact ⟨Below.refl _ _, rfl⟩
    · simp [go_sem, IntWalk.iteOmega, IntWalk.toNatUp, e14, isV]
      exact Below.refl _ _
    · simp [go_sem, IntWalk.iteOmega, IntWalk.toNatUp, e2, isV]
      exact Below.refl _ _
    · have x1 := (b1.keep hb).cell
      simp [go_sem, IntWalk.iteOmega, IntWalk.toNatUp, e10, x1, isV]
      exact Below.refl _ _
    · simp [go_sem, IntWalk.iteOmega, IntWalk.toNatUp, e13, isV]
      exact Below.refl _ _
    · simp [go_sem, IntWalk.iteOmega, IntWalk.toNatUp]
      exact ⟨ext_alloc _ _, _, rfl⟩
    · obtain ⟨⟨i, g, q1, q2⟩, q3, q4, q5, q6, q7, m, q8⟩ := hd
      simp only [isV] at q3 q4 q5 q6 q7
      simp [go_sem, IntWalk.iteOmega, IntWalk.toNatUp, q1, q3, q4, q5, q6, q7, q8, pcL]
      exact ⟨Below.refl _ _, i, g, m, rfl, q2⟩
    · obtain ⟨i, g, m, q1, q2⟩ := hd
      simp [go_sem, IntWalk.iteOmega, IntWalk.toNatUp, q1]
      exact ⟨ext_alloc _ _, i, g, m, _, rfl, q2.more _, Blk.self_ rfl⟩
    · obtain ⟨⟨i, g, m, p, q1, q2, q3⟩, -⟩ := hd
      simp [go_sem, IntWalk.iteOmega, IntWalk.toNatUp, q1]
      exact ⟨Below.refl _ _, i, g, m, p, rfl, q2, q3⟩
    · simp [go_sem, IntWalk.iteOmega, IntWalk.toNatUp, isV]
      exact Below.refl _ _
  · intro s' w' hb hq ho
    simp [relyQ, vowAt] at hq
    have h6 := hq.2.2.2.2.2.2.2.2.2.2.2.2.1
    have h7 := hq.2.2.2.2.2.2.2.2.2.2.2.2.2
    clear hq ho
    obtain ⟨i, g, m, p, q1, q2, q3⟩ := h6
    simp only [isV] at h7
    simp [go_sem, IntWalk.iteOmega, IntWalk.toNatUp, q1, h7]
    refine ⟨?_, kk9.drew.trans (hb.mono kk9.size)⟩
    unfold PeerPost
    rw [if_pos hn]
    exact ⟨p, rfl, i, a, g, (.slice A9 l.length c9), m0, m1, (.slice S0 l.length l.length), m, mm, q3, q2, (hA9.drew).keep hb⟩
end Go.Proofs.YtmcbcoafodmbjaaGreatDoor

/-
  A book of requests at first: the document's.
-/
namespace Go.Proofs.YtmcbcoafodmbjaaGreatDoor
open Go.RowKit
set_option linter.unusedVariables false
set_option linter.unusedSimpArgs false
set_option maxRecDepth 10000
def rbookL (c : Nat → Int) (own : Value) (a : Value) (h : Nat) (m0 m1 : Int) (s : Value) (now : Int) : List Value := pcL c ++ [own, a, pt h, .int .i64 m0, .int .i64 m1, s, .int .i64 now, .slice none 0 0]
def RPeerAt (w : World) (p : Nat) (c : Nat → Int) (now : Int) : Prop := ∃ own a h m0 m1 s, Blk w p 143 (rbookL c own (pt a) h m0 m1 s now).toArray ∧ Blk w a 150 #[.int .i64 (c 17), .int .i64 0, .slice none 0 0, .int .i64 0, .int .i64 0, .int .i64 0]
theorem RPeerAt.keep {w w' : World} {p : Nat} {c : Nat → Int} {now : Int} (h : RPeerAt w p c now) (hb : Below w.heap.size w w') : RPeerAt w' p c now := by
  obtain ⟨own, a, h, m0, m1, s, h1, h2⟩ := h
  exact ⟨own, a, h, m0, m1, s, h1.keep hb, h2.keep hb⟩
def RPeerPost (c : Nat → Int) (now : Int) (v : Value) (w' : World) : Prop := if 0 ≤ now ∧ now ≤ 4611686018427387903 then ∃ p, v = .tuple #[pt p, .int .i64 0] ∧ RPeerAt w' p c now else v = .tuple #[.pointer none, .int .i64 131]
def RCells (c : Nat → Int) (n : Nat) (now : Int) : Vow := fun v _ => ∃ A cp h, v = .agg (rbookL c (.slice A n cp) (.pointer none) h 0 0 (.slice none 0 0) now).toArray
def RBox (c : Nat → Int) (n : Nat) (now : Int) (B : Nat) : Vow := fun v w => ∃ A cp h p, v = pt p ∧ B ≤ p ∧ Blk w p 143 (rbookL c (.slice A n cp) (.pointer none) h 0 0 (.slice none 0 0) now).toArray
def aSl (n : Nat) : Vow := fun v _ => ∃ A cp, v = .slice A n cp
theorem firm_sl (n : Nat) : (aSl n).Firm := ⟨fun h _ => h⟩
theorem firm_rcells (c : Nat → Int) (n : Nat) (now : Int) : (RCells c n now).Firm := ⟨fun h _ => h⟩
theorem firm_rbox (c : Nat → Int) (n : Nat) (now : Int) (B : Nat) : (RBox c n now B).Firm := ⟨fun ⟨A, cp, h, p, h1, h3, h2⟩ hb => ⟨A, cp, h, p, h1, h3, h2.keep hb⟩⟩
theorem seg2o (w : World) (g o : Nat) (a b : Value) : storeSeg w ⟨g, o, none⟩ 0 [a, b] = (w.setCell ⟨g, o, none⟩ a).setCell ⟨g, o + 1, none⟩ b := Eq.trans rfl rfl
theorem elVdr : El Tryz.prog 59 2 24 := el_of (z := .agg #[.string ⟨#[]⟩, .int .i64 0]) (by kernel_rfl) rfl (by omega)
theorem apvdr {W w : World} (l : List Vd) (hl : l.length ≤ 32) {A : Option Addr} {cap : Nat} (hrd : Rd W 2 A l.length (vdrs l)) (hb : Below W.heap.size W w) {k : Kont} (hk : ∀ A' c' w', Below w.heap.size w w' → w'.ownsRow w.heap.size 59 2 (.slice A' l.length c') l.length (vdrs l) → k (.slice A' l.length c') w') : resE Tryz.prog (appendR Tryz.prog 34 34 34 (.slice none 0 0) (.slice A l.length cap) w) k := by
  refine appendE w.heap.size 59 2 24 Tryz.underlying34 elVdr (World.ownsRow_nil _ _ _ _) (hrd.keep hb) (vdrs_one l) (by unfold maxLen; omega) (by omega) (Nat.le_refl _) ?_
  intro v9 w9 hr9 hg9 hbk9
  rw [Nat.zero_add, List.nil_append] at hr9
  obtain ⟨-, A9, c9, rfl⟩ := own_sl hr9
  exact hk _ _ _ ((Below.refl _ _).grown hg9 (Nat.le_refl _) (fun k hk => by cases hk)) hr9
set_option maxHeartbeats 12800000 in
theorem rpeernew_any (c : Nat → Int) (hc : pcOk c) (l : List Vd) (vl : Value) (now : Int) (w : World) (hs : Sl w 2 vl l.length (vdrs l)) (hN : ∀ x ∈ l, x.name.size ≤ 9223372036854775807) (hW : ∀ x ∈ l, -9223372036854775808 ≤ x.weight ∧ x.weight ≤ 9223372036854775807) (hv : checkV l = 0) (hl : 1 ≤ l.length ∧ l.length ≤ 32) :
    callE Tryz.prog 31 #[.agg (pcL c).toArray, vl, .int .i64 now] w fun v w' => RPeerPost c now v w' ∧ Below w.heap.size w w' := by
  obtain ⟨hc1, hc2, hc3⟩ := id hc
  have k1 := ext_alloc w (.cells (pcL c).toArray 31)
  have hX : Blk (w.alloc (.cells (pcL c).toArray 31)) w.heap.size 31 (pcL c).toArray := Blk.self_ rfl
  have d1 := rpcheck_any c
  unfold pcL at hX k1 d1 ⊢
  refine calls_E Tryz.func31 rfl rfl rfl (Nat.le_of_ble_eq_true rfl) ?_
  simp [go_sem, IntWalk.iteOmega, IntWalk.toNatUp]
  generalize w.alloc (.cells (#[.int .i64 (c 17), .int .i64 (c 18), .int .i64 (c 19), .int .i64 (c 20), .int .i64 (c 21), .int .i64 (c 22), .int .i64 (c 23), .int .i64 (c 24), .int .i64 (c 25), .int .i64 (c 26), .int .i64 (c 27)]) 31) = w1 at *
  refine callE_of (d1 w1) ?_
  rintro _ w2 ⟨rfl, k2⟩
  rw [pcE_ok hc]
  have kk := ext_trans k1 k2
  have hs2 := Sl_kept hs kk
  have hX2 := hX.keep k2
  simp [go_sem, IntWalk.iteOmega, IntWalk.toNatUp]
  refine callE_of (rvcheck_any l vl w2 hs2 hN hW) ?_
  rintro _ w3 ⟨rfl, k3⟩
  rw [hv]
  have kk := ext_trans kk k3
  have hX3 := hX2.keep k3
  by_cases n1 : now < 0
  · simp [go_sem, IntWalk.iteOmega, IntWalk.toNatUp, n1]
    exact ⟨by unfold RPeerPost; rw [if_neg (by omega)], kk⟩
  by_cases n2 : 4611686018427387903 < now
  · simp [go_sem, IntWalk.iteOmega, IntWalk.toNatUp, n1, n2]
    exact ⟨by unfold RPeerPost; rw [if_neg (by omega)], kk⟩
  obtain ⟨A, cap, rfl, hrd, hA, hcap⟩ := id hs
  simp [go_sem, IntWalk.iteOmega, IntWalk.toNatUp, n1, n2]
  clear d1 hs2 hX hX2
  refine W_rely [isV (.agg (pcL c).toArray), isV (.slice A l.length cap), aSl l.length, isV (.agg #[.slice none 0 0]), aPt, isV (.int .i64 now), RCells c l.length now, RBox c l.length now w3.heap.size, RBox c l.length now w3.heap.size] follows (by kernel_rfl) ?_ ?_ ?_
  · intro f hf
    simp only [List.mem_cons, List.not_mem_nil, or_false] at hf
    rcases hf with rfl | rfl | rfl | rfl | rfl | rfl | rfl | rfl | rfl
    all_goals first | exact firm_is _ | exact firm_pt | exact firm_sl _ | exact firm_rcells _ _ _ | exact firm_rbox _ _ _ _
  · have b0 := hX3.drew
    refine ⟨?_, ?_, ?_, ?_, ?_, ?_, ?_, ?_, ?_, trivial⟩ <;> intro _ s' w' hb hd ho
    all_goals
      have e1 := ho 1 rfl
      have e2 := ho 2 rfl
      have e3 := ho 3 rfl
      clear ho
      simp [go_sem] at e1 e2 e3
      simp [relyDeps, Region.binds, vowOf, vowAt] at hd
      dsimp only
    · have x0 := (b0.keep hb).cell
      simp [go_sem, IntWalk.iteOmega, IntWalk.toNatUp, e3, x0, isV]
      exact ⟨Below.refl _ _, rfl⟩
    · simp [go_sem, IntWalk.iteOmega, IntWalk.toNatUp, e1, isV]
      exact Below.refl _ _
    · simp only [isV] at hd
      simp [go_sem, IntWalk.iteOmega, IntWalk.toNatUp, hd]
      refine apvdr l hl.2 (hrd.keep kk.drew) hb ?_
      intro A' c' w2 k hr
      exact ⟨k, A', c', rfl⟩
    · simp [go_sem, IntWalk.iteOmega, IntWalk.toNatUp, isV]
      exact Below.refl _ _
    · simp only [isV] at hd
      simp [go_sem, IntWalk.iteOmega, IntWalk.toNatUp, hd]
      exact ⟨ext_alloc _ _, _, rfl⟩
    · simp [go_sem, IntWalk.iteOmega, IntWalk.toNatUp, e2, isV]
      exact Below.refl _ _
    · obtain ⟨q1, ⟨A', cp, q2⟩, ⟨h, q3⟩, q4⟩ := hd
      simp only [isV] at q1 q4
      simp [go_sem, IntWalk.iteOmega, IntWalk.toNatUp, q1, q2, q3, q4, pcL]
      exact ⟨Below.refl _ _, A', cp, h, rfl⟩
    · obtain ⟨A', cp, h, q1⟩ := hd
      simp [go_sem, IntWalk.iteOmega, IntWalk.toNatUp, q1]
      exact ⟨ext_alloc _ _, A', cp, h, _, rfl, hb.size, Blk.self_ rfl⟩
    · obtain ⟨⟨A', cp, h, p, q1, q3, q2⟩, -⟩ := hd
      simp [go_sem, IntWalk.iteOmega, IntWalk.toNatUp, q1]
      exact ⟨Below.refl _ _, A', cp, h, p, rfl, q3, q2⟩
  · intro s' w' hb hq ho
    simp [relyQ, vowAt] at hq
    obtain ⟨A9, c9, h9, p, q10, hpB, hP⟩ := hq.2.2.2.2.2.2.2.2
    have e1 := ho 1 rfl
    have e2 := ho 2 rfl
    have e3 := ho 3 rfl
    clear ho hq
    simp [go_sem] at e1 e2 e3
    have hX4 := hX3.drew.keep hb
    have kw := kk.drew.trans (hb.mono kk.size)
    have x4 := hX4.cell
    have l4 := hX4.lt
    simp [go_sem, IntWalk.iteOmega, IntWalk.toNatUp, e1, e2, e3, q10, x4, l4]
    refine callE_of (rasksnew_any (c 17) hc1 w') ?_
    rintro _ w5 ⟨⟨a, rfl, hA5, ha5⟩, k5⟩
    have hP5 := hP.keep k5
    have hX5 := hX4.keep k5
    have hX6 := hX5.farCell (b := p) (o := 12) (by have := hX3.lt; omega) (pt a)
    have hp0 : w.heap.size ≤ p := by have := hX3.lt; omega
    have hP6 : Blk (w5.setCell ⟨p, 12, none⟩ (pt a)) p 143 (rbookL c (.slice A9 l.length c9) (pt a) h9 0 0 (.slice none 0 0) now).toArray := Blk_set (o := 12) (v := pt a) hP5
    have kw6 := (kw.trans (k5.mono kw.size)).setCell (p := ⟨p, 12, none⟩) hp0 (pt a)
    have hA6 : Blk (w5.setCell ⟨p, 12, none⟩ (pt a)) a 150 #[.int .i64 (c 17), .int .i64 0, .slice none 0 0, .int .i64 0, .int .i64 0, .int .i64 0] := hA5.farCell (by have := hP.lt; omega) _
    have c5 := hP5.cell 12
    have f5 := hP5.frozen 12
    simp only [rbookL, pcL] at c5
    simp [go_sem, IntWalk.iteOmega, IntWalk.toNatUp, e1, e2, e3, q10, c5, f5]
    generalize w5.setCell ⟨p, 12, none⟩ (pt a) = w6 at *
    have x6 := hX6.cell
    have l6 := hX6.lt
    have x5 := hX5.cell
    simp [go_sem, IntWalk.iteOmega, IntWalk.toNatUp, e1, e2, e3, q10, x5, x6, l6]
    refine callE_of (rmnew_any hc2 now ⟨by omega, by omega⟩ w6) ?_
    rintro _ w7 ⟨⟨m0, m1, e, rfl⟩, k7⟩
    have hP7 := hP6.keep k7
    have hA7 := hA6.keep k7
    have kw7 := kw6.trans (k7.mono kw6.size)
    have hP8 : Blk (w7.setCell ⟨p, 14, none⟩ (.int .i64 m0)) p 143 (rbookL c (.slice A9 l.length c9) (pt a) h9 m0 0 (.slice none 0 0) now).toArray := Blk_set (o := 14) (v := .int .i64 m0) hP7
    have hP9 : Blk ((w7.setCell ⟨p, 14, none⟩ (.int .i64 m0)).setCell ⟨p, 15, none⟩ (.int .i64 m1)) p 143 (rbookL c (.slice A9 l.length c9) (pt a) h9 m0 m1 (.slice none 0 0) now).toArray := Blk_set (o := 15) (v := .int .i64 m1) hP8
    have hA9 := (hA7.farCell (b := p) (o := 14) (by have := hP.lt; omega) (.int .i64 m0)).farCell (b := p) (o := 15) (by have := hP.lt; omega) (.int .i64 m1)
    have kw9 := (kw7.setCell (p := ⟨p, 14, none⟩) hp0 (.int .i64 m0)).setCell (p := ⟨p, 15, none⟩) hp0 (.int .i64 m1)
    have cw := canWrite_blk hP7 2 14 0 (by simp [rbookL, pcL])
    have sg := seg2o w7 p 14 (.int .i64 m0) (.int .i64 m1)
    simp [go_sem, IntWalk.iteOmega, IntWalk.toNatUp, e1, e2, e3, q10, cw, sg]
    generalize (w7.setCell ⟨p, 14, none⟩ (.int .i64 m0)).setCell ⟨p, 15, none⟩ (.int .i64 m1) = w9 at *
    refine callE_of (rbenchnew_any l.length hl w9) ?_
    rintro _ w10 ⟨⟨S, rfl⟩, k10⟩
    have hP10 := hP9.keep k10
    have hA10 := hA9.keep k10
    have kw10 := kw9.trans (k10.mono kw9.size)
    have c10 := hP10.cell 16
    have f10 := hP10.frozen 16
    simp only [rbookL, pcL] at c10
    have hP11 : Blk (w10.setCell ⟨p, 16, none⟩ (.slice S l.length l.length)) p 143 (rbookL c (.slice A9 l.length c9) (pt a) h9 m0 m1 (.slice S l.length l.length) now).toArray := Blk_set (o := 16) (v := .slice S l.length l.length) hP10
    simp [go_sem, IntWalk.iteOmega, IntWalk.toNatUp, e1, e2, e3, q10, c10, f10]
    refine ⟨?_, kw10.setCell (p := ⟨p, 16, none⟩) hp0 _⟩
    unfold RPeerPost
    rw [if_pos ⟨by omega, by omega⟩]
    exact ⟨p, rfl, _, a, h9, m0, m1, _, hP11, hA10.farCell (by have := hP.lt; omega) _⟩
end Go.Proofs.YtmcbcoafodmbjaaGreatDoor

/-
  Gates at first: what they tell of any validator; the document's.
-/
namespace Go.Proofs.YtmcbcoafodmbjaaGreatDoor
open Go.RowKit
set_option linter.unusedVariables false
set_option linter.unusedSimpArgs false
set_option maxRecDepth 10000
def GSt.val (x : GSt) : Value := .agg #[.int .i64 x.many, .int .i64 x.large, .int .i64 x.own, .int .i64 x.drops]
def GSt.zero : GSt := ⟨0, 0, 0, 0⟩
def GS.ofV (S : GS) (v : Int) : GSt × Int := if 0 ≤ v ∧ v < S.n then (S.st v.toNat, 0) else (GSt.zero, 1)
theorem of_any (B g : Nat) (S : GS) (w : World) (h : GateIn w B g S) (v : Int) :
    callE Tryz.prog 111 #[.pointer (some ⟨g, 0, none⟩), .int .i64 v] w fun u w' => u = .tuple #[(S.ofV v).1.val, .int .i64 (S.ofV v).2] ∧ Below w.heap.size w w' := by
  have kA := ext_alloc w (.cells #[.int .i64 0, .int .i64 0, .int .i64 0, .int .i64 0] 168)
  have hG := h.grow kA
  have hno := fun k => callE_eq noinit_none (none_runs B g S _ hG) k
  obtain ⟨sv, m, b, h1, h2, h3, hg, hsh, hmp, ⟨cs, hb, hcs, hall⟩, hn⟩ := hG
  have hcell := hg.cell
  simp only [gcells] at hcell
  have hbcell := hb.cell
  have hblt := hb.lt
  have hglt := hg.lt
  by_cases c1 : v < 0
  · have e : S.ofV v = (GSt.zero, 1) := by rw [GS.ofV, if_neg (by omega)]
    rw [e]
    refine calls_E Tryz.func111 rfl rfl rfl (Nat.le_of_ble_eq_true rfl) ?_
    simp [go_sem, IntWalk.iteOmega, IntWalk.toNatUp, hno, hcell, c1, GSt.val, GSt.zero]
    exact ext_alloc _ _
  · by_cases c2 : (S.n : Int) ≤ v
    · have e : S.ofV v = (GSt.zero, 1) := by rw [GS.ofV, if_neg (by omega)]
      rw [e]
      refine calls_E Tryz.func111 rfl rfl rfl (Nat.le_of_ble_eq_true rfl) ?_
      simp [go_sem, IntWalk.iteOmega, IntWalk.toNatUp, hno, hcell, c1, c2, GSt.val, GSt.zero]
      exact ext_alloc _ _
    · obtain ⟨u, rfl⟩ : ∃ u : Nat, v = u := ⟨v.toNat, by omega⟩
      have hu : u < S.n := by omega
      have e : S.ofV u = (S.st u, 0) := by rw [GS.ofV, if_pos (by omega)]; simp
      rw [e]
      obtain ⟨x0, x1, x2, x3⟩ := hall u hu
      refine calls_E Tryz.func111 rfl rfl rfl (Nat.le_of_ble_eq_true rfl) ?_
      simp [go_sem, IntWalk.iteOmega, IntWalk.toNatUp, hno, hcell, c1, c2, hu, hbcell, x0, x1, x2, x3, GSt.val]
      exact ext_alloc _ _

def zStat : Value := .agg #[.int .i64 0, .int .i64 0, .int .i64 0, .int .i64 0]
def ofE (n : Nat) (v : Int) : Int := if 0 ≤ v ∧ v < n then 0 else 1
theorem gof_new (B g : Nat) (c : GCfg) (l : List Int) (w : World) (h : GateIn w B g (GS.new c l)) (v : Int) :
    callE Tryz.prog 111 #[pt g, .int .i64 v] w fun u w' => u = .tuple #[zStat, .int .i64 (ofE l.length v)] ∧ Below w.heap.size w w' := by
  refine callE_of (of_any B g (GS.new c l) w h v) ?_
  rintro _ w' ⟨rfl, k⟩
  refine ⟨?_, k⟩
  have e : (GS.new c l).ofV v = if 0 ≤ v ∧ v < (l.length : Int) then ((GS.new c l).st v.toNat, 0) else (GSt.zero, 1) := rfl
  rw [e]
  unfold ofE
  by_cases hv : 0 ≤ v ∧ v < (l.length : Int)
  · rw [if_pos hv, if_pos hv]; rfl
  · rw [if_neg hv, if_neg hv]; rfl
def RGateNew (w : World) (r n : Nat) : Prop := ∃ c0 c1 c2 c3 c4 A cp d, Blk w r 225 #[.int .i64 c0, .int .i64 c1, .int .i64 c2, .int .i64 c3, .int .i64 c4, .slice A n cp, .slice none 0 0, .int .i64 0, .slice (some ⟨d, 0, none⟩) n n] ∧ Blk w d 2 (Array.replicate n (.int .i64 0))
theorem RGateNew.keep {w w' : World} {r n : Nat} (h : RGateNew w r n) (hb : Below w.heap.size w w') : RGateNew w' r n := by
  obtain ⟨c0, c1, c2, c3, c4, A, cp, d, h1, h2⟩ := h
  exact ⟨c0, c1, c2, c3, c4, A, cp, d, h1.keep hb, h2.keep hb⟩
def zRow (n : Nat) : Vow := fun v w => ∃ d, v = .slice (some ⟨d, 0, none⟩) n n ∧ Blk w d 2 (Array.replicate n (.int .i64 0))
def gCells (c : GCfg) (n : Nat) : Vow := fun v w => ∃ A cp d, v = .agg #[.int .i64 c.large, .int .i64 c.each, .int .i64 c.own, .int .i64 c.many, .int .i64 c.size, .slice A n cp, .slice none 0 0, .int .i64 0, .slice (some ⟨d, 0, none⟩) n n] ∧ Blk w d 2 (Array.replicate n (.int .i64 0))
def gBox (n : Nat) : Vow := fun v w => ∃ r, v = pt r ∧ RGateNew w r n
theorem firm_zRow (n : Nat) : (zRow n).Firm := ⟨fun ⟨d, h1, h2⟩ hb => ⟨d, h1, h2.keep hb⟩⟩
theorem firm_gCells (c : GCfg) (n : Nat) : (gCells c n).Firm := ⟨fun ⟨A, cp, d, h1, h2⟩ hb => ⟨A, cp, d, h1, h2.keep hb⟩⟩
theorem firm_gBox (n : Nat) : (gBox n).Firm := ⟨fun ⟨r, h1, h2⟩ hb => ⟨r, h1, h2.keep hb⟩⟩
theorem el64 : El Tryz.prog 2 1 8 := el_of (z := .int .i64 0) (by kernel_rfl) rfl (by omega)
theorem ints_one (l : List Int) : allOne (ints .i64 l) = true := allOne_of fun v hv => by
  obtain ⟨x, _, rfl⟩ := List.mem_map.1 hv; rfl
set_option maxHeartbeats 6400000 in
theorem rgnew_any (c : GCfg) (l : List Int) (vl : Value) (w : World) (hs : Sl w 1 vl l.length (ints .i64 l)) (hc : cfgOk c) (hk : okW l = true) :
    callE Tryz.prog 33 #[c.val, vl] w fun u w' => ∃ r, u = .tuple #[pt r, .int .i64 0] ∧ RGateNew w' r l.length ∧ Below w.heap.size w w' := by
  obtain ⟨A, cp, rfl, hrd0, _, _, _⟩ := id hs
  have h32 := (okW_of hk).2.1
  have he : cfgE c = 0 := if_pos hc
  have k0 := ext_alloc w (.cells #[.int .i64 c.large, .int .i64 c.each, .int .i64 c.own, .int .i64 c.many, .int .i64 c.size] 25)
  have hb0 : Blk (w.alloc (.cells #[.int .i64 c.large, .int .i64 c.each, .int .i64 c.own, .int .i64 c.many, .int .i64 c.size] 25)) w.heap.size 25 #[.int .i64 c.large, .int .i64 c.each, .int .i64 c.own, .int .i64 c.many, .int .i64 c.size] := Blk.self_ rfl
  have hchk := rcheck_any c (w.alloc (.cells #[.int .i64 c.large, .int .i64 c.each, .int .i64 c.own, .int .i64 c.many, .int .i64 c.size] 25))
  rw [he] at hchk
  unfold GCfg.val at hchk ⊢
  refine calls_E Tryz.func33 rfl rfl rfl (Nat.le_of_ble_eq_true rfl) ?_
  simp [go_sem, IntWalk.iteOmega, IntWalk.toNatUp]
  refine callE_of hchk ?_
  rintro _ w1 ⟨rfl, k1⟩
  have kw := ext_trans k0 k1
  have hb1 := hb0.keep k1
  have hrs := fun k => callE_eq noinit_rsum (rsum_runs l _ w1 (Sl_on hs kw)) k
  rw [hk] at hrs
  simp [go_sem, IntWalk.iteOmega, IntWalk.toNatUp, hrs]
  refine W_rely [isV c.val, isV (.slice A l.length cp), aSl l.length, isV (.slice A l.length cp), isV (.int .i64 l.length), zRow l.length, gCells c l.length, gBox l.length, gBox l.length, isV (.int .i64 0)] follows (by kernel_rfl) ?_ ?_ ?_
  · intro f hf
    simp only [List.mem_cons, List.not_mem_nil, or_false] at hf
    rcases hf with rfl | rfl | rfl | rfl | rfl | rfl | rfl | rfl | rfl | rfl <;> first | exact firm_is _ | exact firm_sl _ | exact firm_zRow _ | exact firm_gCells _ _ | exact firm_gBox _
  · have b0 := hb1.drew
    refine ⟨?_, ?_, ?_, ?_, ?_, ?_, ?_, ?_, ?_, ?_, trivial⟩ <;> intro _ s' w' hb hd ho
    all_goals
      have e1 := ho 1 rfl
      have e2 := ho 2 rfl
      clear ho
      simp [go_sem] at e1 e2
      simp [relyDeps, Region.binds, vowOf, vowAt, isV] at hd
      dsimp only
    all_goals try (simp [go_sem, IntWalk.iteOmega, IntWalk.toNatUp, e1, e2, hd, isV, (b0.keep hb).cell, GCfg.val]; exact Below.refl _ _)
    · simp [go_sem, IntWalk.iteOmega, IntWalk.toNatUp, hd]
      refine appendE w'.heap.size 2 1 8 Tryz.underlying94 el64 (World.ownsRow_nil _ _ _ _) ((hrd0.keep kw.drew).keep hb) (ints_one l) (by unfold maxLen; omega) (by omega) (Nat.le_refl _) ?_
      intro v9 w9 hr9 hg9 hbk9
      rw [Nat.zero_add, List.nil_append] at hr9
      obtain ⟨-, A9, c9, rfl⟩ := own_sl hr9
      exact ⟨(Below.refl _ _).grown hg9 (Nat.le_refl _) (fun k hk => by cases hk), _, _, rfl⟩
    · have hm := run_make1 (P := Tryz.prog) (t := 94) (e := 2) (z := .int .i64 0) (bytes := 8) Tryz.underlying94 (by kernel_rfl) rfl l.length (by omega) (by omega) w'
      simp [go_sem, IntWalk.iteOmega, IntWalk.toNatUp, hd, hm]
      exact ⟨ext_alloc _ _, _, rfl, Blk.self_ rfl⟩
    · obtain ⟨q1, ⟨A', c', q2⟩, d, q3, q4⟩ := hd
      simp [go_sem, IntWalk.iteOmega, IntWalk.toNatUp, q1, q2, q3, GCfg.val]
      exact ⟨Below.refl _ _, A', c', d, rfl, q4⟩
    · obtain ⟨A', c', d, q1, q2⟩ := hd
      simp [go_sem, IntWalk.iteOmega, IntWalk.toNatUp, q1]
      exact ⟨ext_alloc _ _, _, rfl, _, _, _, _, _, A', c', d, Blk.self_ rfl, q2.more _⟩
  · intro s' w' hb hq ho
    simp [relyQ, vowAt, isV] at hq
    obtain ⟨r, q4, hr⟩ := hq.2.2.2.2.2.2.2.2.1
    simp [go_sem, IntWalk.iteOmega, IntWalk.toNatUp, hq, q4]
    exact ⟨hr, kw.drew.trans (hb.mono kw.size)⟩
set_option maxHeartbeats 6400000 in
theorem rgof_new {w : World} {r n : Nat} (h : RGateNew w r n) (hn : n ≤ 32) (v : Int) :
    callE Tryz.prog 56 #[pt r, .int .i64 v] w fun u w' => u = .tuple #[zStat, .int .i64 (ofE n v)] ∧ Below w.heap.size w w' := by
  have kA := ext_alloc w (.cells #[.int .i64 0, .int .i64 0, .int .i64 0, .int .i64 0] 168)
  have h1 := h.keep kA
  have hZ : Blk (w.alloc (.cells #[.int .i64 0, .int .i64 0, .int .i64 0, .int .i64 0] 168)) w.heap.size 168 #[.int .i64 0, .int .i64 0, .int .i64 0, .int .i64 0] := Blk.self_ rfl
  refine calls_E Tryz.func56 rfl rfl rfl (Nat.le_of_ble_eq_true rfl) ?_
  simp [go_sem, IntWalk.iteOmega, IntWalk.toNatUp]
  generalize w.alloc (.cells #[.int .i64 0, .int .i64 0, .int .i64 0, .int .i64 0] 168) = w1 at *
  obtain ⟨c0, c1, c2, c3, c4, A, cp, d, g1, g2⟩ := h1
  have hst := storeSeg_all hZ [.int .i64 0, .int .i64 0, .int .i64 0, .int .i64 0] rfl
  have hcw := canWrite_all hZ 4 rfl
  have hZ2 := Blk_setRow (cs' := #[.int .i64 0, .int .i64 0, .int .i64 0, .int .i64 0]) hZ
  have hrd := readCells_all hZ2 4 rfl
  by_cases b1 : v < 0
  · have e : ofE n v = 1 := if_neg (by omega)
    simp [go_sem, IntWalk.iteOmega, IntWalk.toNatUp, b1, hst, hcw, hrd, e]
    exact ⟨rfl, below_setRow kA (Nat.le_refl _) _⟩
  by_cases b2 : (n : Int) ≤ v
  · have e : ofE n v = 1 := if_neg (by omega)
    simp [go_sem, IntWalk.iteOmega, IntWalk.toNatUp, b1, b2, g1.cell, g1.lt, hst, hcw, hrd, e]
    exact ⟨rfl, below_setRow kA (Nat.le_refl _) _⟩
  obtain ⟨u, rfl⟩ : ∃ u : Nat, v = u := ⟨v.toNat, by omega⟩
  have hu : u < n := by omega
  have e : ofE n (u : Int) = 0 := if_pos (by omega)
  have gd : w1.cell? ⟨d, u, none⟩ = some (.int .i64 0) := by rw [g2.cell]; simp [hu]
  simp [go_sem, IntWalk.iteOmega, IntWalk.toNatUp, b1, b2, hu, g1.cell, g1.lt, gd, e]
  have k2 := ext_alloc w1 (.cells #[.int .i64 0, .int .i64 0, .int .i64 0, .int .i64 0] 168)
  have hY : Blk (w1.alloc (.cells #[.int .i64 0, .int .i64 0, .int .i64 0, .int .i64 0] 168)) w1.heap.size 168 #[.int .i64 0, .int .i64 0, .int .i64 0, .int .i64 0] := Blk.self_ rfl
  have g3 := g1.keep k2
  have hZ3 := hZ.keep k2
  have kB := ext_trans kA k2
  generalize w1.alloc (.cells #[.int .i64 0, .int .i64 0, .int .i64 0, .int .i64 0] 168) = w3 at *
  refine W_loop (fun s wr => wr = w3 ∧ s 0 = pt r ∧ s 4 = pt w.heap.size ∧ s 6 = pt w1.heap.size ∧ s 7 = .int .i64 0) (fun _ _ => 0) ?_ ?_
  · exact ⟨rfl, by simp [go_sem], by simp [go_sem], by simp [go_sem], by simp [go_sem]⟩
  rintro s wr ⟨rfl, e0, e4, e6, e7⟩
  have hst := storeSeg_all hZ3 [.int .i64 0, .int .i64 0, .int .i64 0, .int .i64 0] rfl
  have hcw := canWrite_all hZ3 4 rfl
  have hZ4 := Blk_setRow (cs' := #[.int .i64 0, .int .i64 0, .int .i64 0, .int .i64 0]) hZ3
  have hrd := readCells_all hZ4 4 rfl
  simp [go_sem, IntWalk.iteOmega, IntWalk.toNatUp, e0, e4, e6, e7, g3.cell, g3.lt, hY.cell, hst, hcw, hrd, e]
  exact ⟨rfl, below_setRow kB (Nat.le_refl _) _⟩
end Go.Proofs.YtmcbcoafodmbjaaGreatDoor

/-
  A fresh tape, and what it tells; the document's.
-/
namespace Go.Proofs.YtmcbcoafodmbjaaGreatDoor
open Go.RowKit
set_option linter.unusedVariables false
set_option linter.unusedSimpArgs false
set_option maxRecDepth 10000
def TapeIn (w : World) (t : Nat) (off : Bool) : Prop := Blk w t 77 #[.slice none 0 0, .int .i64 (-1), .bool off, .bool true]
def RTapeIn (w : World) (t : Nat) (off : Bool) : Prop := Blk w t 79 #[.slice none 0 0, .bool off, .int .i64 (-1)]
theorem tnew_any (w : World) : callE Tryz.prog 6 #[] w fun v w' => v = .pointer (some ⟨w.heap.size, 0, none⟩) ∧ TapeIn w' w.heap.size false ∧ Below w.heap.size w w' ∧ w'.heap.size = w.heap.size + 1 := by
  refine calls_E Tryz.func6 rfl rfl rfl (Nat.le_of_ble_eq_true rfl) ?_
  simp [go_sem, IntWalk.iteOmega, IntWalk.toNatUp]
  exact ⟨Blk.self_ rfl, ext_alloc _ _⟩
theorem rtnew_any (w : World) : callE Tryz.prog 7 #[] w fun v w' => v = .pointer (some ⟨w.heap.size, 0, none⟩) ∧ RTapeIn w' w.heap.size false ∧ Below w.heap.size w w' ∧ w'.heap.size = w.heap.size + 1 := by
  refine calls_E Tryz.func7 rfl rfl rfl (Nat.le_of_ble_eq_true rfl) ?_
  simp [go_sem, IntWalk.iteOmega, IntWalk.toNatUp]
  exact ⟨Blk.self_ rfl, ext_alloc _ _⟩
theorem may_runs {w : World} {t : Nat} {off : Bool} (h : TapeIn w t off) : Runs Tryz.prog 21 #[.pointer (some ⟨t, 0, none⟩)] w (.int .i64 (if off then 5 else 0)) w := by
  refine runs_of_callE ?_
  have c2 := h.cell 2
  have c3 := h.cell 3
  refine calls_E Tryz.func21 rfl rfl rfl (Nat.le_of_ble_eq_true rfl) ?_
  cases off <;> simp [go_sem, IntWalk.iteOmega, IntWalk.toNatUp, c2, c3, h.lt]
theorem may_none (w : World) : Runs Tryz.prog 21 #[.pointer none] w (.int .i64 2) w := by
  refine runs_of_callE ?_
  refine calls_E Tryz.func21 rfl rfl rfl (Nat.le_of_ble_eq_true rfl) ?_
  simp [go_sem, IntWalk.iteOmega, IntWalk.toNatUp]
theorem noinit_may : Tryz.prog.inits.idxOf? 21 = none := by kernel_rfl
theorem crash_any {w : World} {t : Nat} (h : TapeIn w t false) : callE Tryz.prog 8 #[.pointer (some ⟨t, 0, none⟩)] w fun v w' => v = .int .i64 0 ∧ TapeIn w' t true ∧ (∀ n, n ≤ t → Below n w w') ∧ ∀ k, k ≠ t → w'.heap[k]? = w.heap[k]? := by
  have m := fun k => callE_eq noinit_may (may_runs h) k
  refine calls_E Tryz.func8 rfl rfl rfl (Nat.le_of_ble_eq_true rfl) ?_
  simp [go_sem, IntWalk.iteOmega, IntWalk.toNatUp, m]
  refine callE_of (R := fun v w' => w' = (w.setCell ⟨t, 2, none⟩ (.bool true)).setCell ⟨t, 1, none⟩ (.int .i64 (-1))) ?_ ?_
  · refine calls_E Tryz.func22 rfl rfl rfl (Nat.le_of_ble_eq_true rfl) ?_
    simp [go_sem, IntWalk.iteOmega, IntWalk.toNatUp, h.cell, h.lt, h.frozen]
  · rintro v w' rfl
    simp [go_sem, IntWalk.iteOmega, IntWalk.toNatUp]
    refine ⟨?_, fun n hn => ((Below.refl n w).setCell (by simpa using hn) _).setCell (by simpa using hn) _, fun k hk => (Below.heap_setCell _ _ _ _ hk).trans (Below.heap_setCell _ _ _ _ hk)⟩
    have h1 := Blk_set (o := 2) (v := .bool true) h
    have h2 := Blk_set (o := 1) (v := .int .i64 (-1)) h1
    exact h2
theorem rcrash_any {w : World} {t : Nat} (h : RTapeIn w t false) : callE Tryz.prog 9 #[.pointer (some ⟨t, 0, none⟩)] w fun v w' => v = .int .i64 0 ∧ RTapeIn w' t true ∧ (∀ n, n ≤ t → Below n w w') := by
  refine calls_E Tryz.func9 rfl rfl rfl (Nat.le_of_ble_eq_true rfl) ?_
  have h1 := Blk_set (o := 1) (v := .bool true) h
  have h2 := Blk_set (o := 2) (v := .int .i64 (-1)) h1
  simp [go_sem, IntWalk.iteOmega, IntWalk.toNatUp, h.cell, h.lt, h.frozen, h1.cell, h1.frozen]
  exact ⟨h2, fun n hn => ((Below.refl n w).setCell (by simpa using hn) _).setCell (by simpa using hn) _⟩
theorem told_none (w : World) : callE Tryz.prog 131 #[.slice none 0 0] w fun v w' => (∃ A c, v = .slice A 0 c) ∧ Below w.heap.size w w' := by
  refine calls_E Tryz.func131 rfl rfl rfl (Nat.le_of_ble_eq_true rfl) ?_
  have hm : (Instr.makeSlice 37 (.int .i64 0) (.int .i64 0)).run Tryz.prog w = .ok (.slice (some ⟨w.heap.size, 0, none⟩) 0 0) (w.alloc (.cells (Array.replicate 0 (.int .u8 0)) 5)) := run_make1 (bytes := 1) Tryz.underlying37 (by kernel_rfl) rfl 0 (by omega) (by omega) w
  have hk := ext_alloc w (.cells (Array.replicate 0 (.int .u8 0)) 5)
  simp [go_sem, IntWalk.iteOmega, IntWalk.toNatUp, hm]
  have hc : ∀ (A : Option Addr) (w : World), (Builtin.copy_ #[37, 37] 3 #[.slice A 0 0, .slice none 0 0]).run Tryz.prog w = .ok (.int .i64 0) w := by
    intro A w
    simp [Builtin.copy_, go_sem]
    cases A <;> rfl
  unfold copyR
  simp [go_sem, IntWalk.iteOmega, IntWalk.toNatUp, hc]
  exact ext_alloc w (.cells #[] 5)
theorem clone_none (w : World) : callE Tryz.prog 69 #[.pointer none] w fun v w' => v = .pointer none ∧ w' = w := by
  have m := fun k => callE_eq noinit_may (may_none w) k
  refine calls_E Tryz.func69 rfl rfl rfl (Nat.le_of_ble_eq_true rfl) ?_
  simp [go_sem, IntWalk.iteOmega, IntWalk.toNatUp, m]
theorem tclone_any {w : World} {t : Nat} {off : Bool} (h : TapeIn w t off) : callE Tryz.prog 69 #[.pointer (some ⟨t, 0, none⟩)] w fun v w' => (∃ g, v = .pointer (some ⟨g, 0, none⟩)) ∧ Below w.heap.size w w' := by
  have m := fun k => callE_eq noinit_may (may_runs h) k
  have hn : ((if off then (5 : Int) else 0) == 2) = false := by cases off <;> rfl
  refine calls_E Tryz.func69 rfl rfl rfl (Nat.le_of_ble_eq_true rfl) ?_
  have hr := readCells_all h 4 rfl
  have k1 := ext_alloc w (.cells #[.slice none 0 0, .int .i64 (-1), .bool off, .bool true] 77)
  have hX : Blk (w.alloc (.cells #[.slice none 0 0, .int .i64 (-1), .bool off, .bool true] 77)) w.heap.size 77 #[.slice none 0 0, .int .i64 (-1), .bool off, .bool true] := Blk.self_ rfl
  have h1 := h.keep k1
  simp [go_sem, IntWalk.iteOmega, IntWalk.toNatUp, m, hn, hr, h.lt, h.cell]
  generalize w.alloc (.cells #[.slice none 0 0, .int .i64 (-1), .bool off, .bool true] 77) = w1 at *
  refine callE_of (told_none w1) ?_
  rintro _ w2 ⟨⟨A, c, rfl⟩, k2⟩
  have hX2 := hX.keep k2
  simp [go_sem, IntWalk.iteOmega, IntWalk.toNatUp, hX2.cell, hX2.lt, hX2.frozen]
  exact (k1.trans (k2.mono k1.size)).setCell (by simp) _
theorem on_any {w : World} {t : Nat} {off : Bool} (h : TapeIn w t off) : Runs Tryz.prog 70 #[.pointer (some ⟨t, 0, none⟩)] w (.bool (!off)) w := by
  refine runs_of_callE ?_
  have m := fun k => callE_eq noinit_may (may_runs h) k
  refine calls_E Tryz.func70 rfl rfl rfl (Nat.le_of_ble_eq_true rfl) ?_
  cases off <;> simp [go_sem, IntWalk.iteOmega, IntWalk.toNatUp, m]
theorem bytes_any {w : World} {t : Nat} {off : Bool} (h : TapeIn w t off) : callE Tryz.prog 74 #[.pointer (some ⟨t, 0, none⟩)] w fun v w' => (∃ A c, v = .slice A 0 c) ∧ Below w.heap.size w w' := by
  have m := fun k => callE_eq noinit_may (may_runs h) k
  have hn : ((if off then (5 : Int) else 0) == 2) = false := by cases off <;> rfl
  refine calls_E Tryz.func74 rfl rfl rfl (Nat.le_of_ble_eq_true rfl) ?_
  simp [go_sem, IntWalk.iteOmega, IntWalk.toNatUp, m, hn, h.cell, h.lt]
  refine callE_of (told_none w) ?_
  rintro _ w1 ⟨⟨A, c, rfl⟩, k1⟩
  simp [go_sem, IntWalk.iteOmega, IntWalk.toNatUp]
  exact k1
theorem len_any {w : World} {t : Nat} {off : Bool} (h : TapeIn w t off) : Runs Tryz.prog 20 #[.pointer (some ⟨t, 0, none⟩)] w (.int .i64 0) w := by
  refine runs_of_callE ?_
  have m := fun k => callE_eq noinit_may (may_runs h) k
  have hn : ((if off then (5 : Int) else 0) == 2) = false := by cases off <;> rfl
  refine calls_E Tryz.func20 rfl rfl rfl (Nat.le_of_ble_eq_true rfl) ?_
  simp [go_sem, IntWalk.iteOmega, IntWalk.toNatUp, m, hn, h.cell, h.lt]
theorem noinit_on : Tryz.prog.inits.idxOf? 70 = none := by kernel_rfl
theorem noinit_len : Tryz.prog.inits.idxOf? 20 = none := by kernel_rfl
end Go.Proofs.YtmcbcoafodmbjaaGreatDoor
