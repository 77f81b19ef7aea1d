/-
  Texts joined: FPairD.
-/
import Derived.Test.YtdjcjjodbniebaaGreatDoorJoin46
namespace Go.Proofs.YtdjcjjodbniebaaGreatDoor
open Go.RowKit
set_option linter.unusedVariables false
set_option linter.unusedSimpArgs false
set_option maxRecDepth 10000
section
variable {w w' W0 : World} {O O' P P' : Nat → Prop} {f g m : Nat} {S : FS} {R : RF}
theorem RAt.lt (h : RAt w P g R) : ∀ j, P j → j < w.heap.size := by
  obtain ⟨_, _, _, _, _, h⟩ := h
  exact h.lt
theorem pair_f (hM : Mine O O' w w') (hR : RAt w P g R) (hd : ∀ j, O j → ¬ P j) : RAt w' P g R ∧ (∀ j, O' j → ¬ P j) ∧ Mine (fun j => O j ∨ P j) (fun j => O' j ∨ P j) w w' := by
  have hlt := hR.lt
  refine ⟨hR.keeps (hM.2.2.mono fun j _ hp ho => hd j ho hp), fun j hj hp => ?_, fun j hj => ?_, fun j hj => ?_, hM.2.2.mono fun j _ hn ho => hn (.inl ho)⟩
  · rcases hM.1 j hj with h | h
    · exact hd j h hp
    · have := hlt j hp
      omega
  · rcases hj with hj | hj
    · exact (hM.1 j hj).imp .inl id
    · exact .inl (.inr hj)
  · rcases hj with hj | hj
    · exact hM.2.1 j hj
    · exact Nat.lt_of_lt_of_le (hlt j hj) hM.2.2.size
theorem pair_g (hM : Mine P P' w w') (hF : FAt w O f S) (hd : ∀ j, O j → ¬ P j) : FAt w' O f S ∧ (∀ j, O j → ¬ P' j) ∧ Mine (fun j => O j ∨ P j) (fun j => O j ∨ P' j) w w' := by
  have hlt := hF.lt
  refine ⟨hF.keeps (hM.2.2.mono fun j _ hp ho => hd j hp ho), fun j hj hp => ?_, fun j hj => ?_, fun j hj => ?_, hM.2.2.mono fun j _ hn ho => hn (.inr ho)⟩
  · rcases hM.1 j hp with h | h
    · exact hd j hj h
    · have := hlt j hj
      omega
  · rcases hj with hj | hj
    · exact .inl (.inl hj)
    · exact (hM.1 j hj).imp .inr id
  · rcases hj with hj | hj
    · exact Nat.lt_of_lt_of_le (hlt j hj) hM.2.2.size
    · exact hM.2.1 j hj
theorem low_b {Q Q' : Nat → Prop} (hW : Below W0.heap.size W0 w) (hM : Mine Q Q' w w') (hlow : ∀ j, j < W0.heap.size → ¬ Q j) : Below W0.heap.size W0 w' ∧ ∀ j, j < W0.heap.size → ¬ Q' j :=
  ⟨hW.trans (hM.2.2.below hW.size fun k hk => hlow k hk), fun j hj h => (hM.1 j h).elim (hlow j hj) fun h' => by have := hW.size; omega⟩
theorem held_mine {N Q Q' : Nat → Prop} {v : World} (hq : heldE N v w) (hM : Mine Q Q' w w') (hN : ∀ j, N j → ¬ Q j) : heldE N v w' :=
  ⟨Nat.le_trans hq.1 hM.2.2.size, fun j hj hl => (hM.2.2.block j (Nat.lt_of_lt_of_le hl hq.1) (hN j hj)).trans (hq.2 j hj hl)⟩
def DoesP (w : World) (O P : Nat → Prop) (f g m : Nat) (w' : World) : Prop := ∃ O' P' S' R', FAt w' O' f S' ∧ RAt w' P' g R' ∧ (∀ j, O' j → ¬ P' j) ∧ Both (m + 1) S' R' ∧ Mine (fun j => O j ∨ P j) (fun j => O' j ∨ P' j) w w'
theorem DoesP.same (hF : FAt w' O f S) (hR : RAt w' P g R) (hd : ∀ j, O j → ¬ P j) (hb : Both m S R) (hk : Below w.heap.size w w') (h1 : ∀ j, O j → j < w.heap.size) (h2 : ∀ j, P j → j < w.heap.size) : DoesP w O P f g m w' :=
  ⟨O, P, S, R, hF, hR, hd, hb.mono (by omega), Mine.same (Keeps.of_ext hk) fun j hj => hj.elim (h1 j) (h2 j)⟩
theorem bks_ok {w : World} {v : Value} {X : List Bk} (h : BksR w v X) (hck : ∀ b ∈ X, checkB b = 0) : ∀ b ∈ X, BkOk b ∧ checkB b = 0 := fun b hb => by
  obtain ⟨A, c, xs, rfl, h2, h3, h4, h5, h6⟩ := h
  refine ⟨?_, hck b hb⟩
  rw [← h2] at hb
  obtain ⟨x, hx, rfl⟩ := List.mem_map.1 hb
  exact (h6 x hx).1
theorem conts_len {X : List Bk} {kk : Nat} {many bad : UInt8} {raw : List UInt8} (hX : ∀ b ∈ X, BkOk b ∧ checkB b = 0) (hr : raw.length ≤ 300) : ∀ l ∈ contL X kk many bad raw, l.length ≤ 300 := fun l hl => by
  obtain ⟨i, _, rfl⟩ := List.mem_map.1 hl
  unfold contX
  split
  · exact hr
  · have key : ∀ b, BkOk b ∧ checkB b = 0 → (bytesB b).length ≤ 300 := fun b hb => Nat.le_trans (bytesB_len hb.1 hb.2) (by decide)
    split
    · rw [List.getD_eq_getElem?_getD]
      cases h : X[kk - i]? with
      | none => exact key _ ⟨firstB_ok, firstB_check⟩
      | some b => exact key _ (hX b (List.mem_of_getElem? h))
    · exact key _ ⟨firstB_ok, firstB_check⟩
def FlipB (B C : Nat) (w : World) (u : Value) : Prop := ∃ A n c, u = .slice A n c ∧ n ≤ 1000 ∧ (0 < n → ∃ b cs, A = some ⟨b, 0, none⟩ ∧ B ≤ b ∧ b < C ∧ Blk w b 5 cs ∧ n ≤ cs.size ∧ ∀ j, j < n → ∃ k, cs[j]? = some (.int .u8 k))
theorem FlipB.of_own {B C : Nat} {w : World} {u : Value} {l : List UInt8} (h : w.ownsRow B 5 1 u l.length (bl l)) (hl : l.length ≤ 1000) (hC : w.heap.size ≤ C) : FlipB B C w u := by
  rcases h.2 with ⟨rfl, h0⟩ | ⟨b, cap, cur, rfl, hb, hB, h1, h2, h3, h4⟩
  · exact ⟨none, 0, 0, rfl, by omega, fun h => by omega⟩
  · refine ⟨_, _, _, rfl, hl, fun h0 => ⟨b, cur, rfl, hb, Nat.lt_of_lt_of_le (Array.getElem?_eq_some_iff.1 hB).1 hC, hB, by omega, fun j hj => ?_⟩⟩
    have h5 : (bl l)[j]? = some (.int .u8 ((l[j]'hj).toNat : Int)) := by unfold bl; simp [hj]
    rw [← h4, List.getElem?_take, if_pos (by omega)] at h5
    exact ⟨_, by simpa using h5⟩
theorem FlipB.keeps {N : Nat → Prop} {B C : Nat} {w w' : World} {u : Value} (h : FlipB B C w u) (hk : Keeps N w w') (hN : ∀ j, B ≤ j → j < w.heap.size → N j) : FlipB B C w' u := by
  obtain ⟨A, n, c, rfl, hn, h⟩ := h
  refine ⟨A, n, c, rfl, hn, fun h0 => ?_⟩
  obtain ⟨b, cs, rfl, hb, hb2, hB, h1⟩ := h h0
  exact ⟨b, cs, rfl, hb, hb2, hk.blk hB (hN b hb hB.lt), h1⟩
theorem FlipB.set {B C b o : Nat} {w : World} {u : Value} {k : Int} (h : FlipB B C w u) : FlipB B C (w.setCell ⟨b, o, none⟩ (.int .u8 k)) u := by
  obtain ⟨A, n, c, rfl, hn, h⟩ := h
  refine ⟨A, n, c, rfl, hn, fun h0 => ?_⟩
  obtain ⟨b', cs, rfl, hb, hb2, hB, h1, h2⟩ := h h0
  by_cases e : b' = b
  · subst e
    refine ⟨b', _, rfl, hb, hb2, Blk_set hB, by rw [Array.size_setIfInBounds]; exact h1, fun j hj => ?_⟩
    rw [Array.getElem?_setIfInBounds]
    split
    · split
      · exact ⟨k, rfl⟩
      · omega
    · exact h2 j hj
  · exact ⟨b', cs, rfl, hb, hb2, hB.farCell e _, h1, h2⟩
theorem rd_us {w : World} {b : Nat} {t : TypeId} {us : List Value} (h : Blk w b t us.toArray) : Rd w 1 (some ⟨b, 0, none⟩) us.length us :=
  ⟨by rw [Nat.mul_one], fun _ => ⟨b, 0, rfl, h.lt, fun j v hj => by rw [Nat.zero_add, h.cell, List.getElem?_toArray]; exact hj⟩⟩
theorem own_at {w : World} {B e size n : Nat} {z : Value} {xs : List Value} (h : w.ownsRow B e size z n xs) {A : Option Addr} {m c j : Nat} (e1 : z = .slice A m c) (hj : atB m A j) : B ≤ j ∧ j < w.heap.size := by
  obtain ⟨h0, b, o, rfl, rfl⟩ := hj
  rcases h.2 with ⟨h2, _⟩ | ⟨g1, cap, cur, h2, h3, h4, _⟩
  · rw [e1] at h2
    cases h2
  · rw [e1] at h2
    injection h2 with h2 _ _
    injection h2 with h2
    injection h2 with h2 _
    subst h2
    exact ⟨h3, (Array.getElem?_eq_some_iff.1 h4).1⟩
set_option maxHeartbeats 12800000 in
theorem does_any {lv : Value} {X : List Bk} {kk : Nat} {id : List UInt8} {ob : Op1} (hF : FAt w O f S) (hR : RAt w P g R) (hd : ∀ j, O j → ¬ P j) (hb : Both m S R) (hm : m ≤ 1000) (hC : Cubes W0)
    (hW : Below W0.heap.size W0 w) (hlow : ∀ j, j < W0.heap.size → ¬ (O j ∨ P j)) (hX : BksR W0 lv X) (hck : ∀ b ∈ X, checkB b = 0) (hXl : X.length ≤ 100000) (hkk : kk < X.length) (hid : id.length = 32) (ho : OpIn W0 ob) (hsm : OpSmall ob) :
    callE Tryz.prog 35 #[.pointer (some ⟨f, 0, none⟩), .pointer (some ⟨g, 0, none⟩), lv, .int .i64 kk, .agg (bl id).toArray, .agg (opA ob)] w fun r w' => r = .bool true ∧ DoesP w O P f g m w' := by
  have l32 : (bl id).length = 32 := by rw [bl_length]; exact hid
  have hok := hb.ok
  have hrok := hb.rok (by omega)
  have hOlt := hF.lt
  have hPlt := hR.lt
  have kA : Below w.heap.size w ((w.alloc (.cells (bl id).toArray 27)).alloc (.cells (opA ob) 52)) := ext_trans (ext_alloc _ _) (ext_alloc _ _)
  have hI : Blk ((w.alloc (.cells (bl id).toArray 27)).alloc (.cells (opA ob) 52)) w.heap.size 27 (bl id).toArray := (Blk.self_ rfl).more _
  have hP_ : Blk ((w.alloc (.cells (bl id).toArray 27)).alloc (.cells (opA ob) 52)) (w.heap.size + 1) 52 (opA ob) := Blk.self_ (by simp)
  obtain ⟨xA, xc, -, rfl, -⟩ := _root_.id hX
  obtain ⟨oA, oc, efv, hofr, hof0, hofc, hofm⟩ := ho.2
  obtain ⟨qA, qc, erv, -⟩ := _root_.id ho.1
  obtain ⟨hfr50, hraw300⟩ := hsm
  refine calls_E Tryz.func35 rfl rfl rfl (Nat.le_of_ble_eq_true rfl) ?_
  simp [go_sem, IntWalk.iteOmega, IntWalk.toNatUp]
  have o0 : (opA ob)[0]? = some (.int .i64 ob.d) := rfl
  simp [go_sem, IntWalk.iteOmega, IntWalk.toNatUp, o0]
  obtain ⟨p0, hp0⟩ : ∃ p0, p0 = w.heap.size := ⟨_, rfl⟩
  obtain ⟨p, hp⟩ : ∃ p, p = w.heap.size + 1 := ⟨_, rfl⟩
  have hF2 := hF.keep kA
  have hR2 := hR.keep kA
  have hW2 := hW.trans (kA.mono hW.size)
  generalize (w.alloc (.cells (bl id).toArray 27)).alloc (.cells (opA ob) 52) = w2 at *
  rw [← hp, ← hp0]
  rw [← hp0] at hI
  rw [← hp] at hP_
  have hpO : ¬ (O p ∨ P p) := fun hh => by
    rcases hh with hh | hh
    · have := hOlt p hh; omega
    · have := hPlt p hh; omega
  have hp0O : ¬ (O p0 ∨ P p0) := fun hh => by
    rcases hh with hh | hh
    · have := hOlt p0 hh; omega
    · have := hPlt p0 hh; omega
  have u1 := readCells_all hI 32 (by simpa using l32)
  have hMA : Mine (fun j => O j ∨ P j) (fun j => O j ∨ P j) w w2 := Mine.same (Keeps.of_ext kA) fun j hj => hj.elim (hOlt j) (hPlt j)
  obtain ⟨xb, xo, rfl, -, hxb, hxat⟩ := hX.at2 (by omega)
  obtain ⟨xdv, hxok, hxd, hxrd⟩ := hxat kk hkk
  have hkk1 : (kk : Int) < X.length := by omega
  by_cases hd0 : ob.d = 0
  · have hd0' : (ob.d == 0) = true := by simpa using hd0
    simp [go_sem, IntWalk.iteOmega, IntWalk.toNatUp, hd0']
    refine W_flow (fun j => j = xb ∨ j = p) (.pure 0 (.pure 1 (.pure 2 (.pure 3 (.pure 4 (.pure 6 (.pure 7 (.pure 9 (.pure 10 (.pure 11 (.pure 12 (.pure 13 (.pure 15 (.pure 16 (.one 5 (.one 8 (.one 14 (.one 17 (.pure 18 (.pure 19 (.done))))))))))))))))))))) follows (by kernel_rfl) ?_
    have hq := held_refl (fun j => j = xb ∨ j = p) w2.drew
    have hFd := hF2.keep (ext_drew w2)
    have hRd := hR2.keep (ext_drew w2)
    have hPd := hP_.drew
    have hWd := hW2.drew
    have kAd := kA.drew
    generalize w2.drew = v at *
    have xe := hxrd v hWd
    have x4 : v.cell? ⟨p, 4, none⟩ = some (.slice oA ob.fr.length oc) := by rw [hPd.cell, ← efv]; rfl
    have hpl := hPd.lt
    have hxbl : xb < v.heap.size := Nat.lt_of_lt_of_le hxb hWd.size
    have hxbO : ¬ (O xb ∨ P xb) := hlow xb hxb
    simp [go_sem, IntWalk.iteOmega, IntWalk.toNatUp, hq, xe, x4, hpl, hxbl, hkk, hkk1]
    obtain ⟨nm, hnm⟩ : ∃ nm, nm = (idB X[kk]).1 := ⟨_, rfl⟩
    have hnm32 : nm.length = 32 := by rw [hnm]; exact idB_len _
    refine callE_of (named_any hxok (hxd.keep hWd)) ?_
    rintro _ w12 ⟨rfl, k12⟩
    rw [← hnm]
    have hq12 := hq.below k12
    have hF12 := hFd.keep k12
    have hW12 := hWd.trans (k12.mono hWd.size)
    have hR12 := hRd.keep k12
    simp [go_sem, IntWalk.iteOmega, IntWalk.toNatUp, hq12]
    refine callE_of (fat_target (us := ob.fr) hF12 hok hnm32 (hofr.keep hW12) (by omega) (fun j hj hO' => hlow j (atB_lt hofr hj) (.inl hO'))) ?_
    rintro _ w13 ⟨rfl, O13, hF13, hM13⟩
    obtain ⟨hR13, hd13, hMp13⟩ := pair_f hM13 hR12 hd
    obtain ⟨hW13, hlow13⟩ := low_b hW12 hMp13 hlow
    have hq13 := held_mine hq12 hMp13 fun j hj => by
      rcases hj with rfl | rfl
      · exact hxbO
      · exact hpO
    simp [go_sem, IntWalk.iteOmega, IntWalk.toNatUp, hq13]
    refine callE_of (named_any hxok (hxd.keep hW13)) ?_
    rintro _ w14 ⟨rfl, k14⟩
    rw [← hnm]
    have hq14 := hq13.below k14
    have hF14 := hF13.keep k14
    have hR14 := hR13.keep k14
    have hW14 := hW13.trans (k14.mono hW13.size)
    obtain ⟨tv, kv, av, vs, ds, hRi⟩ := _root_.id hR14
    simp [go_sem, IntWalk.iteOmega, IntWalk.toNatUp, hq14]
    have htg := rtarget_any (A := oA) (c := oc) (us := ob.fr) hRi hrok hnm32 (hofr.keep hW14) (by omega)
    refine callE_of htg ?_
    clear htg
    rintro _ w15 ⟨rfl, P15, tv', vs', hR15, hM15⟩
    have hR15 : RAt w15 P15 g (targetR R nm ob.fr).2 := ⟨_, _, _, _, _, hR15⟩
    obtain ⟨hF15, hd15, hMp15⟩ := pair_g hM15 hF14 hd13
    have hq15 := held_mine hq14 hMp15 fun j hj => by
      have h1 := hMp13.1 j
      intro hh
      rcases hh with hh | hh
      · rcases hM13.1 j hh with h3 | h3
        · rcases hj with rfl | rfl
          · exact hxbO (.inl h3)
          · exact hpO (.inl h3)
        · have h4 := k12.size
          rcases hj with rfl | rfl <;> omega
      · rcases hj with rfl | rfl
        · exact hxbO (.inr hh)
        · exact hpO (.inr hh)
    have heq := (target_eq hb.rel hok nm ob.fr).1
    rw [heq]
    have hb15 := (hb.target hnm32 ob.fr).mono (k := m + 1) (by omega)
    obtain ⟨q1, hq1⟩ : ∃ q1, q1 = (targetF S nm ob.fr).1 := ⟨_, rfl⟩
    rw [← hq1]
    simp [go_sem, IntWalk.iteOmega, IntWalk.toNatUp, hq15]
    have hMd : Mine (fun j => O j ∨ P j) (fun j => O j ∨ P j) w w12 := Mine.same (Keeps.of_ext (kAd.trans (k12.mono kAd.size))) fun j hj => hj.elim (hOlt j) (hPlt j)
    have hMe := (hMd.trans hMp13).after (Keeps.of_ext k14)
    exact ⟨O13, P15, _, _, hF15, hR15, hd15, hb15, hMe.trans hMp15⟩
  have hd0' : (ob.d == 0) = false := by simpa using hd0
  by_cases hd1 : ob.d = 1
  · have hd1' : (ob.d == 1) = true := by simpa using hd1
    simp [go_sem, IntWalk.iteOmega, IntWalk.toNatUp, hd0', hd1', u1]
    refine callE_of (fat_ask hF2 hok (hC.keep hW2) hb.often (by omega) hid) ?_
    rintro _ w3 ⟨rfl, O3, hF3, hM3⟩
    obtain ⟨hR3, hd3, hMp3⟩ := pair_f hM3 hR2 hd
    have u3 := readCells_all (hMp3.2.2.blk hI hp0O) 32 (by simpa using l32)
    simp [go_sem, IntWalk.iteOmega, IntWalk.toNatUp, u3]
    obtain ⟨tv, kv, av, vs, ds, hRi⟩ := _root_.id hR3
    refine callE_of (rask_any hRi hrok (by have := hb.ask.1; omega) hid) ?_
    rintro _ w4 ⟨rfl, P4, av', hR4, hM4⟩
    have hR4 : RAt w4 P4 g (askR R id).2 := ⟨_, _, _, _, _, hR4⟩
    obtain ⟨hF4, hd4, hMp4⟩ := pair_g hM4 hF3 hd3
    have heq := (ask_eq hb.rel hok hb.named id).1
    rw [heq]
    have hb4 := hb.asks hid
    obtain ⟨q1, hq1⟩ : ∃ q1, q1 = (askF S id).1.1 := ⟨_, rfl⟩
    obtain ⟨q2, hq2⟩ : ∃ q2, q2 = (askF S id).1.2 := ⟨_, rfl⟩
    rw [← hq1, ← hq2]
    simp [go_sem, IntWalk.iteOmega, IntWalk.toNatUp]
    exact ⟨O3, P4, _, _, hF4, hR4, hd4, hb4, (hMA.trans hMp3).trans hMp4⟩
  have hd1' : (ob.d == 1) = false := by simpa using hd1
  by_cases hd2 : ob.d = 2
  · have hd2' : (ob.d == 2) = true := by simpa using hd2
    simp [go_sem, IntWalk.iteOmega, IntWalk.toNatUp, hd0', hd1', hd2']
    refine W_flow (fun j => j = p0) (.pure 0 (.pure 1 (.pure 3 (.pure 4 (.one 2 (.one 5 (.pure 6 (.pure 7 (.done))))))))) follows (by kernel_rfl) ?_
    have hq := held_refl (fun j => j = p0) w2.drew
    have hFd := hF2.keep (ext_drew w2)
    have hRd := hR2.keep (ext_drew w2)
    have hId := hI.drew
    have kAd := kA.drew
    generalize w2.drew = v at *
    have u2 := readCells_all hId 32 (by simpa using l32)
    have hil := hId.lt
    simp [go_sem, IntWalk.iteOmega, IntWalk.toNatUp, hq, u2, hil]
    refine callE_of (fat_fail hFd hok hid) ?_
    rintro _ w3 ⟨rfl, O3, hF3, hM3⟩
    obtain ⟨hR3, hd3, hMp3⟩ := pair_f hM3 hRd hd
    have hq3 := held_mine hq hMp3 fun j hj => by
      rcases hj with rfl
      exact hp0O
    simp [go_sem, IntWalk.iteOmega, IntWalk.toNatUp, hq3]
    obtain ⟨tv, kv, av, vs, ds, hRi⟩ := _root_.id hR3
    refine callE_of (rfailed_any hRi hrok hid) ?_
    rintro _ w4 ⟨rfl, ⟨av', hR4⟩, hk4⟩
    have hR4 : RAt w4 P g (failR R id).2 := ⟨_, _, _, _, _, hR4⟩
    obtain ⟨hF4, hd4, hMp4⟩ := pair_g (Mine.same hk4 hRi.lt) hF3 hd3
    have hq4 := held_mine hq3 hMp4 fun j hj => by
      rcases hj with rfl
      intro hh
      rcases hh with hh | hh
      · rcases hM3.1 _ hh with h3 | h3
        · exact hp0O (.inl h3)
        · omega
      · exact hp0O (.inr hh)
    have heq := (fail_eq hb.rel id).1
    rw [heq]
    have hb4 := (hb.fail id).mono (k := m + 1) (by omega)
    obtain ⟨q1, hq1⟩ : ∃ q1, q1 = (failF S id).1 := ⟨_, rfl⟩
    rw [← hq1]
    simp [go_sem, IntWalk.iteOmega, IntWalk.toNatUp, hq4]
    have hMd : Mine (fun j => O j ∨ P j) (fun j => O j ∨ P j) w v := Mine.same (Keeps.of_ext kAd) fun j hj => hj.elim (hOlt j) (hPlt j)
    exact ⟨O3, P, _, _, hF4, hR4, hd4, hb4, (hMd.trans hMp3).trans hMp4⟩
  have hd2' : (ob.d == 2) = false := by simpa using hd2
  by_cases hd3 : ob.d = 3
  · have hd3' : (ob.d == 3) = true := by simpa using hd3
    have o88 := readCells_all hP_ 8 rfl
    simp [go_sem, IntWalk.iteOmega, IntWalk.toNatUp, hd0', hd1', hd2', hd3', o88]
    have hcn := conts_any (w := w2) (hX.keep hW2) hck hkk hXl (d := ob.d) (a := ob.a.toNat) (b := ob.b.toNat) (want := ob.want) (fv := ob.fv) (many := ob.many) (bad := ob.bad) (ho.1.keep hW2)
    refine callE_of hcn ?_
    clear hcn
    rintro cv w3 ⟨⟨vals, hcrow, hcv, hcd⟩, k3⟩
    have hlen3 : ∀ l ∈ contL X kk ob.many ob.bad ob.raw, l.length ≤ 300 := conts_len (bks_ok hX hck) hraw300
    obtain ⟨N, hN⟩ : ∃ N, N = contN kk ob.many := ⟨_, rfl⟩
    have hrl : (contL X kk ob.many ob.bad ob.raw).length = N := by rw [hN]; simp [contL]
    obtain ⟨raws, hraws⟩ : ∃ raws, raws = contL X kk ob.many ob.bad ob.raw := ⟨_, rfl⟩
    rw [← hN] at hcrow
    rw [← hraws] at hcv hlen3 hrl
    have hN20 : N ≤ 20 := by rw [hN]; unfold contN; omega
    obtain ⟨-, cA, cc, rfl⟩ := own_sl hcrow
    have hF3 := hF2.keep k3
    have hR3 := hR2.keep k3
    have hI3 := hI.keep k3
    have hW3 := hW2.trans (k3.mono hW2.size)
    have kA3 := kA.trans (k3.mono kA.size)
    have hmk := fun W => run_make1 (P := Tryz.prog) Tryz.underlying48 (e := 22) (z := .slice none 0 0) (bytes := 24) (by kernel_rfl) rfl N (by omega) (by omega) W
    clear hN hraws
    have hsz4 : ∀ o, (w3.alloc o).heap.size = w3.heap.size + 1 := fun o => by simp
    simp [go_sem, IntWalk.iteOmega, IntWalk.toNatUp, hmk]
    have kM := ext_alloc w3 (.cells (Array.replicate N (Value.slice none 0 0)) 22)
    have hM0 : Blk (w3.alloc (.cells (Array.replicate N (Value.slice none 0 0)) 22)) w3.heap.size 22 (([] : List Value) ++ List.replicate (N - 0) (Value.slice none 0 0)).toArray := Blk.self_ (by simp)
    have hsz5 := hsz4 (.cells (Array.replicate N (Value.slice none 0 0)) 22)
    have hbl0 : w3.heap.size < (w3.alloc (.cells (Array.replicate N (Value.slice none 0 0)) 22)).heap.size := by simp
    generalize w3.alloc (.cells (Array.replicate N (Value.slice none 0 0)) 22) = w4 at *
    obtain ⟨b0, hb0⟩ : ∃ b0, b0 = w3.heap.size := ⟨_, rfl⟩
    rw [← hb0] at hM0 hbl0 ⊢
    clear hmk
    refine W_loop (fun st wr => ∃ (i : Nat) (us : List Value), i ≤ N ∧ us.length = i ∧ st 0 = .pointer (some ⟨f, 0, none⟩) ∧ st 1 = .pointer (some ⟨g, 0, none⟩) ∧ st 10 = .pointer (some ⟨p0, 0, none⟩) ∧ st 17 = .slice cA N cc ∧ st 18 = .slice (some ⟨b0, 0, none⟩) N N ∧ st 94 = .int .i64 N ∧ st 95 = .int .i64 i ∧ Blk wr b0 22 (us ++ List.replicate (N - i) (Value.slice none 0 0)).toArray ∧ (∀ (k : Nat) (u : Value) (l : List UInt8), us[k]? = some u → raws[k]? = some l → wr.ownsRow w4.heap.size 5 1 u l.length (bl l)) ∧ Below w3.heap.size w3 wr) (fun st _ => N - (intOf (st 95)).toNat) ?_ ?_
    · exact ⟨0, [], by omega, rfl, by simp [go_sem], by simp [go_sem], by simp [go_sem], by simp [go_sem], by simp [go_sem], by simp [go_sem], by simp [go_sem], hM0, fun k u l h1 _ => by simp at h1, kM⟩
    · clear hM0
      rintro st wr ⟨i, us, hi, hus, d0, d1, d10, d17, d18, d94, d95, hMb, hur, kr⟩
      by_cases hlt : i < N
      · have hlt' : (i : Int) < N := by omega
        obtain ⟨gb, go, eA, hgb, hgc⟩ := ((Rd.of_own hcrow).keep kr).cells (by omega)
        have hvl : vals.length = N := by have := hcrow.1; simpa using this
        have hvi : vals[i]? = some (vals[i]'(by omega)) := List.getElem?_eq_getElem (by omega)
        have hri : raws[i]? = some (raws[i]'(by omega)) := List.getElem?_eq_getElem (by omega)
        have x0 := hgc i _ hvi
        have hrd := (hcv i _ _ hvi hri).keep kr
        have hl300 := hlen3 _ (List.getElem_mem (by omega : i < raws.length))
        generalize vals[i]'(by omega) = u at *
        generalize raws[i]'(by omega) = l at *
        simp [go_sem, IntWalk.iteOmega, IntWalk.toNatUp, d0, d1, d10, d17, d18, d94, d95, hlt, hlt', eA, x0]
        have hcl := cloneU_any (w := wr) (v := u) (l := l) hrd (by omega)
        refine callE_of hcl ?_
        clear hcl
        rintro u' w5 ⟨hu', k5⟩
        obtain ⟨-, uA, uc, rfl⟩ := own_sl hu'
        have hM5 := hMb.keep k5
        have xc5 : w5.cell? ⟨b0, i, none⟩ = some (.slice none 0 0) := by
          rw [hM5.cell, List.getElem?_toArray, List.getElem?_append_right (by omega), hus, Nat.sub_self, List.getElem?_replicate, if_pos (by omega)]
        have hfz := hM5.frozen
        simp [go_sem, IntWalk.iteOmega, IntWalk.toNatUp, d0, d1, d10, d17, d18, d94, d95, hlt, hlt', xc5, hfz]
        have b9 := Blk_set (o := i) (v := .slice uA l.length uc) hM5
        have e9 : (us ++ List.replicate (N - i) (Value.slice none 0 0)).toArray.setIfInBounds i (.slice uA l.length uc) = ((us ++ [Value.slice uA l.length uc]) ++ List.replicate (N - (i + 1)) (Value.slice none 0 0)).toArray := by
          rw [List.setIfInBounds_toArray, List.set_append_right _ _ (by omega), hus, Nat.sub_self, show N - i = (N - (i + 1)) + 1 by omega, List.replicate_succ, List.set_cons_zero, List.append_assoc]
          rfl
        rw [e9] at b9
        have ks : Keeps (fun j => j ≠ b0) w5 (w5.setCell ⟨b0, i, none⟩ (.slice uA l.length uc)) := Keeps.setCell _ _ _ fun hh => hh rfl
        have hs4 : w4.heap.size ≤ wr.heap.size := by have := hMb.lt; omega
        refine roundEnd.mk ⟨i + 1, _, by omega, by rw [List.length_append, hus]; rfl, by simp [go_sem, d0], by simp [go_sem, d1], by simp [go_sem, d10], by simp [go_sem, d17], by simp [go_sem, d18], by simp [go_sem, d94], by simp [go_sem], b9, fun k z m h1 h2 => ?_, Below.setCell (kr.trans (k5.mono kr.size)) (show w3.heap.size ≤ b0 by omega) _⟩ ?_
        · have key : ∀ {z : Value} {m : List UInt8}, w5.ownsRow w4.heap.size 5 1 z m.length (bl m) → (w5.setCell ⟨b0, i, none⟩ (.slice uA l.length uc)).ownsRow w4.heap.size 5 1 z m.length (bl m) := fun hh => row_keeps hh ks fun j hj e => row_ne hh hM5 (by decide) (e ▸ hj)
          by_cases hk : k < us.length
          · rw [List.getElem?_append_left hk] at h1
            exact key (row_below (hur k z m h1 h2) k5)
          · have hk1 := (List.getElem?_eq_some_iff.1 h1).1
            rw [List.length_append] at hk1
            have hk2 : k < us.length + 1 := hk1
            obtain rfl : k = us.length := by omega
            rw [List.getElem?_append_right (Nat.le_refl _), Nat.sub_self] at h1
            obtain rfl : Value.slice uA l.length uc = z := by simpa using h1
            rw [hus, hri] at h2
            obtain rfl := Option.some.inj h2
            exact key (own_mono hu' hs4)
        · simp [go_sem, intOf, d95]; omega
      · obtain rfl : i = N := by omega
        have hlt' : ¬ (i : Int) < i := by omega
        rw [Nat.sub_self, List.replicate_zero, List.append_nil] at hMb
        have hIr := readCells_all (hI3.keep kr) 32 (by simpa using l32)
        simp [go_sem, IntWalk.iteOmega, IntWalk.toNatUp, d0, d1, d10, d17, d18, d94, d95, hlt', hIr]
        have hFr := hF3.keep kr
        have hRr := hR3.keep kr
        have hWr := hW3.trans (kr.mono hW3.size)
        have hs4 : w4.heap.size ≤ wr.heap.size := by have := hMb.lt; omega
        have hb0O : ¬ (O b0 ∨ P b0) := fun hh => by
          have h1 := k3.size
          have h2 := kA.size
          rcases hh with hh | hh
          · have := hOlt b0 hh; omega
          · have := hPlt b0 hh; omega
        have hul : us.length = raws.length := by omega
        have hgt := fat_got (c := i) (A := some ⟨b0, 0, none⟩) (vals := us) (raws := raws) hFr hok (hC.keep hWr) hid (by rw [← hul]; exact rd_us hMb) (fun k z m h1 h2 => RdB.of_own (hur k z m h1 h2)) (by omega) (by omega) (fun j hj hO => by
          obtain ⟨_, b, o, e, rfl⟩ := hj
          injection e with e
          injection e with e
          subst e
          exact hb0O (.inl hO)) (fun z hz A n c e j hj hO => by
          obtain ⟨k, hk, rfl⟩ := List.getElem_of_mem hz
          have hrk := hur k us[k] (raws[k]'(by omega)) (by simp) (by simp)
          have h3 := (own_at hrk e hj).1
          have := hOlt _ hO
          have := kA.size
          have := k3.size
          omega)
        rw [hrl] at hgt
        refine callE_of hgt ?_
        clear hgt
        rintro _ w6 ⟨rfl, hokG, O6, hF6, hM6⟩
        obtain ⟨hR6, hd6, hMp6⟩ := pair_f hM6 hRr hd
        have hbG := hb.got id raws hokG
        have hgq := (got_eq hb.rel id raws).1
        obtain ⟨G, hG⟩ : ∃ G, G = gotF S id raws := ⟨_, rfl⟩
        rw [← hG] at hF6 hokG hbG hgq ⊢
        have hMb6 := hMp6.2.2.blk hMb hb0O
        have hs23 := k3.size
        have hsA := kA.size
        have hlowO : ∀ j, w4.heap.size ≤ j → ¬ (O j ∨ P j) := fun j hj hh => by
          rcases hh with hh | hh
          · have := hOlt j hh; omega
          · have := hPlt j hh; omega
        have hfl6 : ∀ u ∈ us, FlipB w4.heap.size wr.heap.size w6 u := fun u hu => by
          obtain ⟨k, hk, rfl⟩ := List.getElem_of_mem hu
          have hrk := hur k us[k] (raws[k]'(by omega)) (by simp) (by simp)
          exact (FlipB.of_own hrk (by have := hlen3 _ (List.getElem_mem (by omega : k < raws.length)); omega) (Nat.le_refl _)).keeps hMp6.2.2 fun j h1 h2 => hlowO j h1
        have hI6 := hMp6.2.2.blk (hI3.keep kr) hp0O
        obtain ⟨K0, hK0⟩ : ∃ K0 : Nat → Prop, K0 = fun j => j < w4.heap.size ∨ wr.heap.size ≤ j := ⟨_, rfl⟩
        have hKb : K0 b0 := by rw [hK0]; left; omega
        have hKp : K0 p0 := by rw [hK0]; left; have := hI3.lt; omega
        simp [go_sem, IntWalk.iteOmega, IntWalk.toNatUp, d0, d1, d10, d17, d18, d94, d95]
        clear hIr hMb
        refine W_loop (fun st wz => ∃ i2 : Nat, i2 ≤ i ∧ st 0 = .pointer (some ⟨f, 0, none⟩) ∧ st 1 = .pointer (some ⟨g, 0, none⟩) ∧ st 10 = .pointer (some ⟨p0, 0, none⟩) ∧ st 17 = .slice cA i cc ∧ st 18 = .slice (some ⟨b0, 0, none⟩) i i ∧ st 20 = .int .i64 G.1.1 ∧ st 21 = .int .i64 G.1.2 ∧ st 115 = .int .i64 i ∧ st 116 = .int .i64 i2 ∧ (∀ u ∈ us, FlipB w4.heap.size wr.heap.size wz u) ∧ Keeps K0 w6 wz) (fun st _ => i - (intOf (st 116)).toNat) ?_ ?_
        · exact ⟨0, by omega, by simp [go_sem, d0], by simp [go_sem, d1], by simp [go_sem, d10], by simp [go_sem, d17], by simp [go_sem, d18], by simp [go_sem], by simp [go_sem], by simp [go_sem], by simp [go_sem], hfl6, Keeps.refl _ _⟩
        · clear hfl6 d0 d1 d10 d17 d18 d94 d95
          rintro sa wz ⟨i2, hi2, a0, a1, a10, a17, a18, a20, a21, a115, a116, hfl, hK⟩
          by_cases hl2 : i2 < i
          · have hl2' : (i2 : Int) < i := by omega
            obtain ⟨uA, n, c, eu, hn, hbk⟩ := hfl us[i2] (List.getElem_mem (by omega))
            have xu : ∀ {wq : World}, Keeps K0 w6 wq → wq.cell? ⟨b0, i2, none⟩ = some (.slice uA n c) := fun hq => by
              rw [(hq.blk hMb6 hKb).cell, List.getElem?_toArray, List.getElem?_eq_getElem (by omega), eu]
            have x1 := xu hK
            simp [go_sem, IntWalk.iteOmega, IntWalk.toNatUp, a0, a1, a10, a17, a18, a20, a21, a115, a116, hl2, hl2', x1]
            refine W_loop (fun st wj => ∃ j : Nat, j ≤ n ∧ st 0 = .pointer (some ⟨f, 0, none⟩) ∧ st 1 = .pointer (some ⟨g, 0, none⟩) ∧ st 10 = .pointer (some ⟨p0, 0, none⟩) ∧ st 17 = .slice cA i cc ∧ st 18 = .slice (some ⟨b0, 0, none⟩) i i ∧ st 20 = .int .i64 G.1.1 ∧ st 21 = .int .i64 G.1.2 ∧ st 115 = .int .i64 i ∧ st 116 = .int .i64 i2 ∧ st 22 = .int .i64 i2 ∧ st 123 = .int .i64 n ∧ st 124 = .int .i64 j ∧ (∀ u ∈ us, FlipB w4.heap.size wr.heap.size wj u) ∧ Keeps K0 w6 wj) (fun st _ => n - (intOf (st 124)).toNat) ?_ ?_
            · exact ⟨0, by omega, by simp [go_sem, a0], by simp [go_sem, a1], by simp [go_sem, a10], by simp [go_sem, a17], by simp [go_sem, a18], by simp [go_sem, a20], by simp [go_sem, a21], by simp [go_sem, a115], by simp [go_sem, a116], by simp [go_sem], by simp [go_sem], by simp [go_sem], hfl, hK⟩
            · clear hfl hK x1 hbk
              rintro sb wj ⟨j, hj, b0_, b1, b10, b17, b18, b20, b21, b115, b116, b22, b123, b124, hflj, hKj⟩
              by_cases hl3 : j < n
              · have hl3' : (j : Int) < n := by omega
                obtain ⟨uA', n', c', eu', hn', hbk⟩ := hflj us[i2] (List.getElem_mem (by omega))
                rw [eu] at eu'
                injection eu' with e1 e2 e3
                subst e1 e2 e3
                obtain ⟨b, cs, rfl, hbB, hbC, hB, hcs, hks⟩ := hbk (by omega)
                obtain ⟨k, hk⟩ := hks j hl3
                have x2 := xu hKj
                have xk : wj.cell? ⟨b, j, none⟩ = some (.int .u8 k) := by rw [hB.cell]; exact hk
                have hfz := hB.frozen
                have hnK : ¬ K0 b := by
                  rw [hK0]
                  rintro (h | h) <;> omega
                simp [go_sem, IntWalk.iteOmega, IntWalk.toNatUp, b0_, b1, b10, b17, b18, b20, b21, b115, b116, b22, b123, b124, hl2, hl2', hl3, hl3', x2, xk, hfz]
                refine roundEnd.mk ⟨j + 1, by omega, by simp [go_sem, b0_], by simp [go_sem, b1], by simp [go_sem, b10], by simp [go_sem, b17], by simp [go_sem, b18], by simp [go_sem, b20], by simp [go_sem, b21], by simp [go_sem, b115], by simp [go_sem, b116], by simp [go_sem, b22], by simp [go_sem, b123], by simp [go_sem], fun u hu => (hflj u hu).set, hKj.trans (Keeps.setCell _ _ _ hnK)⟩ ?_
                simp [go_sem, intOf, b124]; omega
              · obtain rfl : j = n := by omega
                have hl3' : ¬ (j : Int) < j := by omega
                simp [go_sem, IntWalk.iteOmega, IntWalk.toNatUp, b0_, b1, b10, b17, b18, b20, b21, b115, b116, b22, b123, b124, hl3']
                refine roundEnd.mk ⟨i2 + 1, by omega, by simp [go_sem, b0_], by simp [go_sem, b1], by simp [go_sem, b10], by simp [go_sem, b17], by simp [go_sem, b18], by simp [go_sem, b20], by simp [go_sem, b21], by simp [go_sem, b115], by simp [go_sem], hflj, hKj⟩ ?_
                simp [go_sem, intOf, b116]; omega
          · obtain rfl : i2 = i := by omega
            have hl2' : ¬ (i2 : Int) < i2 := by omega
            have hIz := readCells_all (hK.blk hI6 hKp) 32 (by simpa using l32)
            simp [go_sem, IntWalk.iteOmega, IntWalk.toNatUp, a0, a1, a10, a17, a18, a20, a21, a115, a116, hl2', hIz]
            have hFz : FAt wz O6 f G.2 := hF6.keeps (hK.mono fun j _ hj => by
              rw [hK0]
              rcases hM6.1 j hj with h1 | h1
              · left; have := hOlt j h1; omega
              · exact .inr h1)
            have hRz := hR6.keeps (hK.mono (O' := P) fun j _ hj => by
              rw [hK0]
              left
              have := hPlt j hj
              omega)
            have hKc : ∀ j, j < w3.heap.size → K0 j := fun j hj => by rw [hK0]; left; omega
            have kc : ∀ j, j < w3.heap.size → ¬ (O j ∨ P j) → wz.heap[j]? = w3.heap[j]? := fun j hj hn => (hK.block j (by have := hMp6.2.2.size; have := kr.size; omega) (hKc j hj)).trans ((hMp6.2.2.block j (by have := kr.size; omega) hn).trans (kr.block j hj))
            have kcK : Keeps (fun j => ¬ (O j ∨ P j) ∧ j < w3.heap.size) w3 wz := ((Keeps.of_ext kr).trans (hMp6.2.2.mono fun j _ hj => hj.1)).trans (hK.mono fun j _ hj => hKc j hj.2)
            have hlow2 : ∀ j, w2.heap.size ≤ j → ¬ (O j ∨ P j) := fun j hj hh => by
              rcases hh with hh | hh
              · have := hOlt j hh; omega
              · have := hPlt j hh; omega
            have hvalO : ∀ u ∈ vals, ∀ A n c, u = .slice A n c → ∀ j, atB n A j → ¬ (O j ∨ P j) := fun u hu A n c e j hj => by
              rcases hcd u hu with h1 | h1
              · obtain ⟨A', c', e', hr', -⟩ := _root_.id ho.1
                rw [h1, e'] at e
                injection e with e1 e2 e3
                subst e1 e2 e3
                exact hlow j (atB_lt hr' hj)
              · exact hlow2 j (h1 A n c e j hj)
            have hcz : Rd wz 1 cA raws.length vals := by
              rw [hrl]
              exact Rd.of_own (row_keeps hcrow kcK fun j hj => ⟨hlow2 j (hcrow.lt j hj).1, (hcrow.lt j hj).2⟩)
            have hvz : ∀ (k : Nat) (u : Value) (l : List UInt8), vals[k]? = some u → raws[k]? = some l → RdB wz u l := fun k u l h1 h2 => (hcv k u l h1 h2).on kcK fun A n c e j hj => ⟨hvalO u (List.mem_of_getElem? h1) A n c e j hj, by
              obtain ⟨A', c', e', hr', -⟩ := hcv k u l h1 h2
              rw [e'] at e
              injection e with e1 e2 e3
              subst e1 e2 e3
              exact atB_lt hr' hj⟩
            obtain ⟨tv, kv, av, vs, ds, hRi⟩ := hRz
            have hgg := rgot_any (A := cA) (c := cc) (vals := vals) (raws := raws) hRi hrok hid hcz hvz (fun j hj hO => by
              obtain ⟨hn0, b, o, rfl, rfl⟩ := hj
              rw [hrl] at hn0
              have := (own_at hcrow rfl ⟨hn0, j, o, rfl, rfl⟩).1
              exact hlow2 j this (.inr hO)) (fun u hu A n c e j hj hO => hvalO u hu A n c e j hj (.inr hO))
            rw [hrl] at hgg
            refine callE_of hgg ?_
            clear hgg
            rintro _ w8 ⟨rfl, P8, kv', av', ds', hR8, hM8⟩
            have hR8 : RAt w8 P8 g (gotR R id raws).2 := ⟨_, _, _, _, _, hR8⟩
            obtain ⟨hF8, hd8, hMp8⟩ := pair_g hM8 hFz hd6
            rw [hgq]
            have hbG2 := hbG.mono (k := m + 1) (by omega)
            obtain ⟨q1, hq1⟩ : ∃ q1, q1 = G.1.1 := ⟨_, rfl⟩
            obtain ⟨q2, hq2⟩ : ∃ q2, q2 = G.1.2 := ⟨_, rfl⟩
            rw [← hq1] at a20 ⊢
            rw [← hq2] at a21 ⊢
            simp [go_sem, IntWalk.iteOmega, IntWalk.toNatUp, a20, a21]
            have hMr : Mine (fun j => O j ∨ P j) (fun j => O j ∨ P j) w wr := Mine.same (Keeps.of_ext (kA.trans ((k3.trans (kr.mono k3.size)).mono kA.size))) fun j hj => hj.elim (hOlt j) (hPlt j)
            exact ⟨O6, P8, _, _, hF8, hR8, hd8, hbG2, ((hMr.trans hMp6).afterHi (hK.mono fun j _ hj => hKc j (by have := hj.2; omega))).trans hMp8⟩
  · have hd3' : (ob.d == 3) = false := by simpa using hd3
    simp [go_sem, IntWalk.iteOmega, IntWalk.toNatUp, hd0', hd1', hd2', hd3', u1]
    refine callE_of (fat_state hF2 hok (hC.keep hW2) hid) ?_
    rintro _ w3 ⟨rfl, k3⟩
    have u3 := readCells_all (hI.keep k3) 32 (by simpa using l32)
    simp [go_sem, IntWalk.iteOmega, IntWalk.toNatUp, u3]
    obtain ⟨tv, kv, av, vs, ds, hRi⟩ := _root_.id (hR2.keep k3)
    refine callE_of (rstate_any hRi hrok hid) ?_
    rintro _ w4 ⟨rfl, k4⟩
    rw [state_rel hb id]
    obtain ⟨q1, hq1⟩ : ∃ q1, q1 = (stateF S id).1 := ⟨_, rfl⟩
    obtain ⟨q2, hq2⟩ : ∃ q2, q2 = (stateF S id).2 := ⟨_, rfl⟩
    rw [← hq1, ← hq2]
    simp [go_sem, IntWalk.iteOmega, IntWalk.toNatUp]
    exact DoesP.same ((hF2.keep k3).keep k4) ((hR2.keep k3).keep k4) hd hb (kA.trans ((k3.trans (k4.mono k3.size)).mono kA.size)) hOlt hPlt
end
end Go.Proofs.YtdjcjjodbniebaaGreatDoor
