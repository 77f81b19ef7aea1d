/-
  The reference's gate: Enter.
-/
import Derived.Test.YtilpmnbnjeahnaaGRef3
import Derived.Test.YtilpmnbnjeahnaaBoundsLaw
namespace Go.Proofs.Ytilpmnbnjeahnaa
open Go.RowKit
set_option linter.unusedVariables false
set_option linter.unusedSimpArgs false
set_option maxRecDepth 10000
theorem RefIn.dropped {w : World} {B : Nat → Prop} {n0 r u d : Nat} {l : List Int} {S : GS} {wv Lv : Value} (hu : u < l.length) (hdr : 0 ≤ (S.st u).drops ∧ (S.st u).drops ≤ 100000) (h1 : n0 ≤ r) (h2 : n0 ≤ d) (h3 : ¬ B r) (h4 : ¬ B d) (hr : Blk w r 92 (rcells S wv Lv d l.length))
    (hw : w.ownsRow n0 2 1 wv l.length (ints .i64 l)) (hwB : ∀ j, wv.ownBlock = some j → ¬ B j) (hL : w.ownsRow n0 94 4 Lv S.l.length (msgs S.l)) (hLB : ∀ j, Lv.ownBlock = some j → ¬ B j) (hd : Blk w d 2 (iblk (dropsOf S l.length))) (hne : wv.ownBlock ≠ some d) :
    RefIn (w.setCell ⟨d, u, none⟩ (.int .i64 ((S.st u).drops + 1))) B n0 r l (S.drop u) := by
  have hrd := Blk_ne hr hd (by decide)
  have hk : Keeps (fun j => j ≠ d) w (w.setCell ⟨d, u, none⟩ (.int .i64 ((S.st u).drops + 1))) := Keeps.setCell _ _ _ fun h => h rfl
  refine ⟨wv, Lv, d, h1, h2, h3, h4, hr.farCell hrd _, row_keeps hw hk fun j hj e => hne (e ▸ hj), hwB, row_keeps hL hk fun j hj e => row_ne hL hd (by decide) (e ▸ hj), hLB, ?_, hne⟩
  rw [dropsOf_drop hu, wrap_id (by omega), ← iblk_set]
  exact Blk_set hd
def enterK (w0 : World) (B : Nat → Prop) (n0 r : Nat) (l : List Int) (S' : GS) (s : Slots) (w' : World) : Prop := s 0 = .pointer (some ⟨r, 0, none⟩) ∧ RefIn w' B n0 r l S' ∧ Below n0 w0 w' ∧ Keeps B w0 w'
theorem enterK_of {w0 w8 : World} {B : Nat → Prop} {n0 m r d : Nat} {l : List Int} {S S' : GS} {wv Lv v8 : Value} {x : Int × GIn} {s : Slots} (e0 : s 0 = .pointer (some ⟨r, 0, none⟩)) (h1 : n0 ≤ r) (h2 : n0 ≤ d) (h3 : ¬ B r) (h4 : ¬ B d) (hm : n0 ≤ m) (hB : ∀ j, B j → j < m)
    (hr : Blk w8 r 92 (rcells { S with last := S.last + 1 } wv Lv d l.length)) (hw : w8.ownsRow n0 2 1 wv l.length (ints .i64 l)) (hwB : ∀ j, wv.ownBlock = some j → ¬ B j) (hd : Blk w8 d 2 (iblk (dropsOf S l.length))) (hne : wv.ownBlock ≠ some d)
    (hL : w8.ownsRow m 94 4 v8 (S.l.length + 1) (msgs S.l ++ msgs [x])) (hcf : S'.cfg = S.cfg) (hla : S'.last = S.last + 1) (hll : S'.l = S.l ++ [x]) (hdr : dropsOf S' l.length = dropsOf S l.length) (kb : Below n0 w0 w8) (kB : Keeps B w0 w8) :
    enterK w0 B n0 r l S' s (w8.setCell ⟨r, 6, none⟩ v8) := by
  have hset : Keeps (fun j => j ≠ r) w8 (w8.setCell ⟨r, 6, none⟩ v8) := Keeps.setCell _ _ _ fun h => h rfl
  have hnd : d ≠ r := Blk_ne hd hr (by decide)
  refine ⟨e0, ⟨wv, v8, d, h1, h2, h3, h4, ?_, row_keeps hw hset fun j hj e => row_ne hw hr (by decide) (e ▸ hj), hwB, ?_, fun j hj hBj => by have := hB j hBj; have := (hL.lt j hj).1; omega, ?_, hne⟩, kb.setCell h1 _, kB.trans (Keeps.setCell _ _ _ h3)⟩
  · have := Blk_set (o := 6) (v := v8) hr
    unfold rcells at this ⊢
    rw [hcf, hla]; exact this
  · have hr0 := row_keeps hL hset fun j hj e => row_ne hL hr (by decide) (e ▸ hj)
    rw [← msgs_app, ← hll, show S.l.length + 1 = S'.l.length by rw [hll]; simp] at hr0
    refine ⟨hr0.1, ?_⟩
    rcases hr0.2 with q | ⟨g, cap, cur, q1, q2, q3⟩
    · exact .inl q
    · exact .inr ⟨g, cap, cur, q1, Nat.le_trans hm q2, q3⟩
  · rw [hdr]; exact hd.farCell hnd _
def rK8 (r u sb : Nat) (size sh R : Int) (W : World) (s : Slots) (w : World) : Prop := s 0 = .pointer (some ⟨r, 0, none⟩) ∧ s 1 = .int .i64 u ∧ s 2 = .int .i64 size ∧ s 8 = .pointer (some ⟨sb, 0, none⟩) ∧ s 10 = .int .i64 sh ∧ s 12 = .int .i64 R ∧ w = W
variable {c : GCfg} {sh : List Int} {k : Nat} {S : GS}
set_option maxHeartbeats 12800000 in
theorem rEnter_any (B : Nat → Prop) (n0 r : Nat) (l : List Int) (w : World) (h : RefIn w B n0 r l S) (hI : IF c sh l.length k S) (hsh : sh = sharesTo c.own l l.length) (hc : cfgOk c) (hok : okW l = true) (hk : k ≤ 1000) (hB : ∀ j, B j → j < w.heap.size) (v size : Int) :
    callE Try.prog 24 #[.pointer (some ⟨r, 0, none⟩), .int .i64 v, .int .i64 size] w fun x w' => x = .tuple #[.int .i64 (S.enter v size).2.1, .int .i64 (S.enter v size).2.2] ∧ RefIn w' B n0 r l (S.enter v size).1 ∧ Below n0 w w' ∧ Keeps B w w' := by
  have hss := shares_small hc hok
  rw [← hsh] at hss
  have hn0 : n0 ≤ w.heap.size := by obtain ⟨_, _, _, h1, _, _, _, hr, _⟩ := h; have := hr.lt; omega
  have hKB : ∀ {w'}, Below w.heap.size w w' → Keeps B w w' := fun k => Keeps.of_below k fun j _ hj => hB j hj
  have hnn := hI.nn
  refine calls_E Try.func24 rfl rfl rfl (Nat.le_of_ble_eq_true rfl) ?_
  simp [go_sem, IntWalk.iteOmega, IntWalk.toNatUp]
  refine callE_of (rOf_any B n0 r l w h hI hc hk (fun u hu => (hss u hu).2) v) ?_
  rintro _ w1 ⟨rfl, k1⟩
  by_cases hv : ¬ (0 ≤ v ∧ v < S.n)
  · have e1 : S.ofV v = (GSt.zero, 1) := if_neg hv
    have e2 : S.enter v size = (S, 0, 1) := by rw [GS.enter, if_pos (by omega)]
    rw [e1, e2]
    have k2 := ext_trans k1 (ext_alloc w1 (.cells #[.int .i64 0, .int .i64 0, .int .i64 0, .int .i64 0] 44))
    simp [go_sem, IntWalk.iteOmega, IntWalk.toNatUp, GSt.val, GSt.zero]
    exact ⟨h.grow k2, k2.mono hn0, hKB k2⟩
  have hv := Classical.not_not.1 hv
  obtain ⟨u, rfl⟩ : ∃ u : Nat, v = u := ⟨v.toNat, by omega⟩
  have hu : u < l.length := by omega
  have e1 : S.ofV u = (S.st u, 0) := by rw [GS.ofV, if_pos hv]; simp
  rw [e1]
  have kA := ext_alloc w1 (.cells #[.int .i64 (S.st u).many, .int .i64 (S.st u).large, .int .i64 (S.st u).own, .int .i64 (S.st u).drops] 44)
  have hS1 : Blk (w1.alloc (.cells #[.int .i64 (S.st u).many, .int .i64 (S.st u).large, .int .i64 (S.st u).own, .int .i64 (S.st u).drops] 44)) w1.heap.size 44 #[.int .i64 (S.st u).many, .int .i64 (S.st u).large, .int .i64 (S.st u).own, .int .i64 (S.st u).drops] := Blk.self_ rfl
  have k2 := ext_trans k1 kA
  obtain ⟨wv, Lv, d, h1, h2, h3, h4, hr, hw, hwB, hL, hLB, hd, hne⟩ := h.grow k2
  have hcell := hr.cell
  simp only [rcells] at hcell
  have hrl := hr.lt
  have hdc := hd.cell
  have hdf := hd.frozen
  have hdl := hd.lt
  have x0 := iblk_at (l := dropsOf S l.length) (i := u) (by rw [dropsOf_length]; omega)
  rw [dropsOf_at hu] at x0
  have hdr := hI.drops u hu
  have hdrop := RefIn.dropped hu (by omega) h1 h2 h3 h4 hr hw hwB hL hLB hd hne
  have hE1 : IntKind.i64.wrap ((S.st u).drops + 1) = (S.st u).drops + 1 := wrap_id (by omega)
  have kdrop : Below n0 w ((w1.alloc (.cells #[.int .i64 (S.st u).many, .int .i64 (S.st u).large, .int .i64 (S.st u).own, .int .i64 (S.st u).drops] 44)).setCell ⟨d, u, none⟩ (.int .i64 ((S.st u).drops + 1))) := (k2.mono hn0).setCell h2 _
  have kdropB : Keeps B w ((w1.alloc (.cells #[.int .i64 (S.st u).many, .int .i64 (S.st u).large, .int .i64 (S.st u).own, .int .i64 (S.st u).drops] 44)).setCell ⟨d, u, none⟩ (.int .i64 ((S.st u).drops + 1))) := (hKB k2).trans (Keeps.setCell _ _ _ h4)
  obtain ⟨_, Aw, cw, rfl⟩ := own_sl hw
  by_cases c3 : size < 0
  · have e2 : S.enter u size = (S, 0, 1) := by rw [GS.enter, if_pos (by omega)]
    rw [e2]
    simp [go_sem, IntWalk.iteOmega, IntWalk.toNatUp, GSt.val, c3]
    exact ⟨h.grow k2, k2.mono hn0, hKB k2⟩
  by_cases c4 : S.cfg.size < size
  · have e2 : S.enter u size = (S.drop u, 0, 3) := by rw [GS.enter, if_neg (by omega), if_pos c4, Int.toNat_natCast]
    rw [e2]
    simp [go_sem, IntWalk.iteOmega, IntWalk.toNatUp, GSt.val, c3, c4, hcell, hdc, hdf, x0, hu, hE1]
    exact ⟨hdrop, kdrop, kdropB⟩
  have hcc := hc
  unfold cfgOk at hcc
  have hcfg := hI.cfg
  obtain ⟨sh1, sh2⟩ := shareOf_at (own := c.own) (by omega) (by omega) hok hu
  have hsg : S.share.getD u 0 = shareOf c.own l (u : Nat) := by rw [hI.share, hsh, shares_at hu]
  have hdd := (ext_drew (w1.alloc (.cells #[.int .i64 (S.st u).many, .int .i64 (S.st u).large, .int .i64 (S.st u).own, .int .i64 (S.st u).drops] 44)))
  have hrs := fun W hW k => callE_eq noinit_rshare (rshare_runs c.own u l (.slice Aw l.length cw) W hW) k
  rw [sh2] at hrs
  have hslw : Sl (w1.alloc (.cells #[.int .i64 (S.st u).many, .int .i64 (S.st u).large, .int .i64 (S.st u).own, .int .i64 (S.st u).drops] 44)) 1 (.slice Aw l.length cw) l.length (ints .i64 l) := (own_sl hw).1
  simp [go_sem, IntWalk.iteOmega, IntWalk.toNatUp, GSt.val, c3, c4, hcell]
  generalize (w1.alloc (.cells #[.int .i64 (S.st u).many, .int .i64 (S.st u).large, .int .i64 (S.st u).own, .int .i64 (S.st u).drops] 44)) = w2 at *
  have kd1 := k2.drew
  have hcd1 := (hr.drew).cell
  simp only [rcells] at hcd1
  have hrs1 := hrs w2.drew (Sl_on hslw (ext_drew w2))
  have hcown : S.cfg.own = c.own := by rw [hcfg]
  rw [← hcown] at hrs1
  refine W_cutE (fun s w' => s 0 = .pointer (some ⟨r, 0, none⟩) ∧ s 1 = .int .i64 u ∧ s 2 = .int .i64 size ∧ s 8 = .pointer (some ⟨w1.heap.size, 0, none⟩) ∧ s 10 = .int .i64 (shareOf S.cfg.own l u) ∧ w' = w2.drew) ?_ ?_
  · refine W_tree (.pure 0 (.pure 1 (.pure 2 (.pure 3 (.pure 5 (.pure 6 (.pure 7 (.pure 9 (.two 4 (.one 8 (.one 10 (.pure 11 (.pure 12 (.pure 13 (.pure 14 (.pure 15 (.done)))))))) 8 (.one 4 (.one 10 (.pure 11 (.pure 12 (.pure 13 (.pure 14 (.pure 15 (.done))))))))))))))))) follows (by kernel_rfl) ?_
    simp [go_sem, IntWalk.iteOmega, IntWalk.toNatUp, hcd1, hrs1]
    refine ⟨?_, ?_⟩ <;> exact atCut.mk ⟨by simp [go_sem], by simp [go_sem], by simp [go_sem], by simp [go_sem], by simp [go_sem], rfl⟩
  rintro s _ ⟨e0, e1, e2, e8, e10, rfl⟩
  obtain ⟨E, hE⟩ : ∃ E, IntKind.i64.wrap (S.cfg.each - (S.st u).large) = E := ⟨_, rfl⟩
  obtain ⟨R, hR⟩ : ∃ R, (if E < (if S.free < size then S.free else size) then E else if S.free < size then S.free else size) = R := ⟨_, rfl⟩
  obtain ⟨O, hO⟩ : ∃ O, IntKind.i64.wrap (size - R) = O := ⟨_, rfl⟩
  obtain ⟨D, hD⟩ : ∃ D, IntKind.i64.wrap (S.share.getD u 0 - (S.st u).own) = D := ⟨_, rfl⟩
  have eR : S.room u size = R := by
    rw [GS.room, hE, ← hR]
    by_cases q1 : S.free < size <;> simp only [q1, if_true, if_false] <;> (by_cases q2 : E < S.free <;> by_cases q3 : E < size <;> simp only [q2, q3, if_true, if_false] <;> omega)
  have eO : S.rest u size = O := by rw [GS.rest, eR, hO]
  have hlast := hI.last
  have eN : S.next = S.last + 1 := wrap_id (by omega)
  have hfull : S.full u size = decide (S.cfg.many ≤ (S.st u).many ∨ D < O) := by rw [GS.full, eO, hD]
  rw [hcown, ← hsg] at e10
  generalize S.share.getD u 0 = shv at *
  have kd2 := kd1.drew
  have hcd2 := (hr.drew.drew).cell
  simp only [rcells] at hcd2
  have hSd2 := (hS1.drew.drew).cell
  have hlr := fun k => callE_eq noinit_rlarge (rLarge_runs B n0 r l w2.drew.drew (h.grow kd2) hI hc hk) k
  simp [go_sem, IntWalk.iteOmega, IntWalk.toNatUp, e0, e1, e2, e8, e10]
  refine W_fork (.pure 0 (.pure 1 (.pure 3 (.pure 4 (.pure 5 (.pure 6 (.pure 8 (.alt 2 (.alt 7 (.alt 9 (.pure 10 (.pure 11 (.pure 12 (.done)))) (.no)) (.alt 9 (.alt 7 (.pure 10 (.pure 11 (.pure 12 (.done)))) (.no)) (.no))) (.alt 7 (.alt 2 (.alt 9 (.pure 10 (.pure 11 (.pure 12 (.done)))) (.no)) (.alt 9 (.pure 10 (.alt 2 (.pure 11 (.pure 12 (.done))) (.no))) (.no))) (.alt 9 (.alt 2 (.alt 7 (.pure 10 (.pure 11 (.pure 12 (.done)))) (.no)) (.alt 7 (.pure 10 (.alt 2 (.pure 11 (.pure 12 (.done))) (.no))) (.no))) (.no))))))))))) follows (by kernel_rfl) (rK8 r u w1.heap.size size shv R w2.drew.drew) ?_ ?_
  · simp [go_sem, IntWalk.iteOmega, IntWalk.toNatUp, e0, e1, e2, e8, e10, hcd2, hSd2, hlr, hE, hR]
    and_intros <;> first | rfl | simp [go_sem, IntWalk.iteOmega, IntWalk.toNatUp, e0, e1, e2, e8, e10]
  clear hcd1 hrs1 hcd2 hSd2 hlr e0 e1 e2 e8 e10
  rintro s _ ⟨e0, e1, e2, e8, e10, e12, rfl⟩
  have kd3 := kd2.drew
  have hcd3 := (hr.drew.drew.drew).cell
  simp only [rcells] at hcd3
  have hSd3 := (hS1.drew.drew.drew).cell
  simp [go_sem, IntWalk.iteOmega, IntWalk.toNatUp, e0, e1, e2, e8, e10, e12]
  refine W_still follows (by kernel_rfl) ?_
  obtain ⟨w3, hw3⟩ : ∃ w3, w3 = w2.drew.drew.drew := ⟨_, rfl⟩
  rw [← hw3] at hcd3 hSd3 kd3 ⊢
  clear hdrop kdrop kdropB hdc hdf hdl hcell hrl hr hw hwB hL hLB hd hne h1 h2 h3 h4 hslw hrs hdd kd1 kd2 hw3 hS1 kA k1 k2
  by_cases df : S.cfg.many ≤ (S.st u).many ∨ D < O
  · have he : S.enter u size = (S.drop u, 0, 6) := by rw [GS.enter, if_neg (by omega), if_neg c4, Int.toNat_natCast, hfull, if_pos (decide_eq_true df)]
    rw [he]
    obtain ⟨wv, Lv, d, h1, h2, h3, h4, hr, hw, hwB, hL, hLB, hd, hne⟩ := h.grow kd3
    have hcell := hr.cell
    simp only [rcells] at hcell
    have hdc := hd.cell
    have hdf := hd.frozen
    have hdl := hd.lt
    have hdrop := RefIn.dropped hu (by omega) h1 h2 h3 h4 hr hw hwB hL hLB hd hne
    have kdrop : Below n0 w (w3.setCell ⟨d, u, none⟩ (.int .i64 ((S.st u).drops + 1))) := (kd3.mono hn0).setCell h2 _
    have kdropB : Keeps B w (w3.setCell ⟨d, u, none⟩ (.int .i64 ((S.st u).drops + 1))) := (hKB kd3).trans (Keeps.setCell _ _ _ h4)
    by_cases d1 : S.cfg.many ≤ (S.st u).many
    · simp [go_sem, IntWalk.iteOmega, IntWalk.toNatUp, e0, e1, e2, e8, e10, e12, hcell, hSd3, d1, hdc, hdf, x0, hu, hE1]
      exact ⟨hdrop, kdrop, kdropB⟩
    · have d2 : D < O := by omega
      simp [go_sem, IntWalk.iteOmega, IntWalk.toNatUp, e0, e1, e2, e8, e10, e12, hcell, hSd3, d1, hO, hD, d2, hdc, hdf, x0, hu, hE1]
      exact ⟨hdrop, kdrop, kdropB⟩
  have d1 : ¬ S.cfg.many ≤ (S.st u).many := by omega
  have d2 : ¬ D < O := by omega
  have he : S.enter u size = (S.lets u size, S.last + 1, 0) := by rw [GS.enter, if_neg (by omega), if_neg c4, Int.toNat_natCast, hfull, if_neg (by simpa using df), eN]
  rw [he]
  obtain ⟨wv, Lv, d, h1, h2, h3, h4, hr, hw, hwB, hL, hLB, hd, hne⟩ := h.grow kd3
  have hcell := hr.cell
  simp only [rcells] at hcell
  have hrf := hr.frozen
  have hfit : IntKind.i64.wrap (S.last + 1) = S.last + 1 := wrap_id (by omega)
  have hnd : d ≠ r := Blk_ne hd hr (by decide)
  have hset : Keeps (fun j => j ≠ r) w3 (w3.setCell ⟨r, 7, none⟩ (.int .i64 (S.last + 1))) := Keeps.setCell _ _ _ fun h => h rfl
  have hr4 : Blk (w3.setCell ⟨r, 7, none⟩ (.int .i64 (S.last + 1))) r 92 (rcells { S with last := S.last + 1 } wv Lv d l.length) := Blk_set hr
  have hw4 := row_keeps hw hset fun j hj e => row_ne hw hr (by decide) (e ▸ hj)
  have hL4 := row_keeps hL hset fun j hj e => row_ne hL hr (by decide) (e ▸ hj)
  have hd4 := hd.farCell (b := r) (o := 7) hnd (.int .i64 (S.last + 1))
  have k4 : Below n0 w (w3.setCell ⟨r, 7, none⟩ (.int .i64 (S.last + 1))) := (kd3.mono hn0).setCell h1 _
  have k4B : Keeps B w (w3.setCell ⟨r, 7, none⟩ (.int .i64 (S.last + 1))) := (hKB kd3).trans (Keeps.setCell _ _ _ h3)
  have hs4 : (w3.setCell ⟨r, 7, none⟩ (.int .i64 (S.last + 1))).heap.size = w3.heap.size := sz_set _ _ _
  have hs3 := kd3.size
  have hcf : (S.lets u size).cfg = S.cfg := rfl
  have hla : (S.lets u size).last = S.last + 1 := by rw [← eN]; rfl
  have hll : (S.lets u size).l = S.l ++ [(S.last + 1, ⟨u, R, O⟩)] := by simp only [GS.lets, GS.count, eN, eR, eO]
  have hdl' : dropsOf (S.lets u size) l.length = dropsOf S l.length := dropsOf_lets
  clear he
  generalize S.lets u size = S' at *
  simp [go_sem, IntWalk.iteOmega, IntWalk.toNatUp, e0, e1, e2, e8, e10, e12, hcell, hrf, hSd3, d1, hO, hD, d2, hfit]
  generalize w3.setCell ⟨r, 7, none⟩ (.int .i64 (S.last + 1)) = w4 at *
  clear hcd3 hSd3 kd3 hcell hrf hr hw hL hd hset
  refine W_cutE (enterK w B n0 r l S') ?_ ?_
  · obtain ⟨w5, hw5⟩ : ∃ w5, w5 = w4.drew := ⟨_, rfl⟩
    have hr5 := hr4.drew
    have hL5 := row_below hL4 (ext_drew w4)
    have hw5' := row_below hw4 (ext_drew w4)
    have hd5 := hd4.drew
    have k5 := k4.drew
    have k5B := k4B.trans (Keeps.drew _ _)
    have hs5 : w4.drew.heap.size = w3.heap.size := hs4
    rw [← hw5] at hr5 hL5 hw5' hd5 k5 k5B hs5
    obtain ⟨_, A4, cp4, rfl⟩ := own_sl hL5
    have hcell := hr5.cell
    simp only [rcells] at hcell
    have hrl := hr5.lt
    have hL5r := Rd.of_own hL5
    have kM := ext_alloc w5 (.cells #[.int .i64 (S.last + 1), .int .i64 u, .int .i64 R, .int .i64 O] 94)
    have hcM := (hr5.keep kM).cell
    simp only [rcells] at hcM
    refine W_tree (.pure 0 (.pure 1 (.pure 2 (.pure 3 (.pure 6 (.pure 7 (.pure 8 (.pure 10 (.pure 11 (.pure 12 (.pure 13 (.pure 14 (.two 4 (.two 5 (.one 9 (.pure 15 (.one 16 (.one 17 (.pure 18 (.pure 19 (.one 20 (.done)))))))) 9 (.pure 15 (.two 5 (.one 16 (.one 17 (.pure 18 (.pure 19 (.one 20 (.done)))))) 16 (.one 5 (.one 17 (.pure 18 (.pure 19 (.one 20 (.done))))))))) 9 (.pure 15 (.two 4 (.two 5 (.one 16 (.one 17 (.pure 18 (.pure 19 (.one 20 (.done)))))) 16 (.one 5 (.one 17 (.pure 18 (.pure 19 (.one 20 (.done))))))) 16 (.one 4 (.one 5 (.one 17 (.pure 18 (.pure 19 (.one 20 (.done)))))))))))))))))))))) follows (by kernel_rfl) ?_
    rw [← hw5]
    simp [go_sem, IntWalk.iteOmega, IntWalk.toNatUp, e0, e1, e2, e8, e10, e12, hcell, hcM, hO]
    have hl90 : S.l.length ≤ 1000 := by have := hI.len; omega
    have hsz5 : w.heap.size ≤ w5.heap.size := by omega
    and_intros <;>
    first
    | (refine appendE w.heap.size 94 4 32 Try.underlying90 el94 (World.ownsRow_nil _ _ _ _) hL5r (oneM _) (by unfold maxLen; omega) (by omega) hsz5 ?_
       intro v6 w6 hr6 hg6 hb6
       have k6 := (Below.refl w5.heap.size w5).grown hg6 (Nat.le_refl _) (fun k hk => by cases hk)
       rw [Nat.zero_add, List.nil_append] at hr6
       obtain ⟨_, A6, c6, rfl⟩ := own_sl hr6
       have hc6 := (hr5.keep k6).cell
       have kM6 := ext_alloc w6 (.cells #[.int .i64 (S.last + 1), .int .i64 u, .int .i64 R, .int .i64 O] 94)
       have hx6 : Blk (w6.alloc (.cells #[.int .i64 (S.last + 1), .int .i64 u, .int .i64 R, .int .i64 O] 94)) w6.heap.size 94 #[.int .i64 (S.last + 1), .int .i64 u, .int .i64 R, .int .i64 O] := Blk.self_ rfl
       have hx7 : Rd (w6.alloc (.cells #[.int .i64 (S.last + 1), .int .i64 u, .int .i64 R, .int .i64 O] 94)) 4 (some ⟨w6.heap.size, 0, none⟩) 1 (msgs [(S.last + 1, ⟨u, R, O⟩)]) := ⟨rfl, fun _ => ⟨_, 0, rfl, hx6.lt, fun q u hu => by rw [hx6.cell, Nat.zero_add, List.getElem?_toArray]; exact hu⟩⟩
       have k67 := ext_trans k6 kM6
       have hr7 := row_below hr6 kM6
       have hc7 := (hr5.keep k67).cell
       simp only [rcells] at hc6 hc7
       have hsz7 := k67.size
       have hB7 := hr5.keep k67
       have hD7 := hd5.keep k67
       have hW7 := row_below hw5' k67
       have kk7 := k5.trans (k67.mono (by omega))
       have kk7B := k5B.trans (Keeps.of_ext (O := B) k67)
       simp [go_sem, IntWalk.iteOmega, IntWalk.toNatUp, e0, e1, e2, e8, e10, e12, hc6, hc7, hO]
       refine appendE w.heap.size 94 4 32 Try.underlying90 el94 hr7 hx7 (oneM _) (by unfold maxLen; omega) (by omega) (by omega) ?_
       intro v8 w8 hr8 hg8 hb8
       obtain ⟨_, A8, c8, rfl⟩ := own_sl hr8
       have hB8 : Blk w8 r 92 (rcells { S with last := S.last + 1 } wv (.slice A4 S.l.length cp4) d l.length) := (hg8.block _ hB7.lt (fun e => row_ne hr7 hB7 (by decide) e.symm)).trans hB7
       have hD8 := (hg8.block _ hD7.lt (fun e => row_ne hr7 hD7 (by decide) e.symm)).trans hD7
       have hW8 := row_keeps hW7 (Keeps.grown (O := fun j => (Value.slice A6 S.l.length c6).ownBlock ≠ some j) hg8 fun k hk h => h hk) (fun j hj e => rows_ne hr7 hW7 (by decide) j e hj)
       have kk8 := kk7.grown hg8 (by omega) (fun k hk => by have := (hr7.lt k hk).1; omega)
       have kk8B := kk7B.trans (Keeps.grown (O := B) hg8 fun k hk h => by have := hB k h; have := (hr7.lt k hk).1; omega)
       have hc8 := hB8.cell
       have hf8 := hB8.frozen
       simp only [rcells] at hc8
       simp [go_sem, IntWalk.iteOmega, IntWalk.toNatUp, e0, hc8, hf8]
       exact atCut.mk (enterK_of (by simp [go_sem, e0]) h1 h2 h3 h4 hn0 hB hB8 hW8 hwB hD8 hne hr8 hcf hla hll hdl' kk8 kk8B))
    | (refine appendE w.heap.size 94 4 32 Try.underlying90 el94 (World.ownsRow_nil _ _ _ _) (hL5r.keep kM) (oneM _) (by unfold maxLen; omega) (by omega) (by rw [World.size_alloc]; omega) ?_
       intro v6 w6 hr6 hg6 hb6
       have k6 := (Below.refl (w5.alloc (.cells #[.int .i64 (S.last + 1), .int .i64 u, .int .i64 R, .int .i64 O] 94)).heap.size (w5.alloc (.cells #[.int .i64 (S.last + 1), .int .i64 u, .int .i64 R, .int .i64 O] 94))).grown hg6 (Nat.le_refl _) (fun k hk => by cases hk)
       rw [Nat.zero_add, List.nil_append] at hr6
       obtain ⟨_, A6, c6, rfl⟩ := own_sl hr6
       have hx6 : Blk w6 w5.heap.size 94 #[.int .i64 (S.last + 1), .int .i64 u, .int .i64 R, .int .i64 O] := (Blk.self_ rfl : Blk (w5.alloc (.cells #[.int .i64 (S.last + 1), .int .i64 u, .int .i64 R, .int .i64 O] 94)) w5.heap.size 94 #[.int .i64 (S.last + 1), .int .i64 u, .int .i64 R, .int .i64 O]).keep k6
       have hx7 : Rd w6 4 (some ⟨w5.heap.size, 0, none⟩) 1 (msgs [(S.last + 1, ⟨u, R, O⟩)]) := ⟨rfl, fun _ => ⟨_, 0, rfl, hx6.lt, fun q u hu => by rw [hx6.cell, Nat.zero_add, List.getElem?_toArray]; exact hu⟩⟩
       have k67 := ext_trans kM k6
       have hr7 := hr6
       have hc7 := (hr5.keep k67).cell
       simp only [rcells] at hc7
       have hsz7 := k67.size
       have hB7 := hr5.keep k67
       have hD7 := hd5.keep k67
       have hW7 := row_below hw5' k67
       have kk7 := k5.trans (k67.mono (by omega))
       have kk7B := k5B.trans (Keeps.of_ext (O := B) k67)
       simp [go_sem, IntWalk.iteOmega, IntWalk.toNatUp, e0, e1, e2, e8, e10, e12, hc7, hO]
       refine appendE w.heap.size 94 4 32 Try.underlying90 el94 hr7 hx7 (oneM _) (by unfold maxLen; omega) (by omega) (by omega) ?_
       intro v8 w8 hr8 hg8 hb8
       obtain ⟨_, A8, c8, rfl⟩ := own_sl hr8
       have hB8 : Blk w8 r 92 (rcells { S with last := S.last + 1 } wv (.slice A4 S.l.length cp4) d l.length) := (hg8.block _ hB7.lt (fun e => row_ne hr7 hB7 (by decide) e.symm)).trans hB7
       have hD8 := (hg8.block _ hD7.lt (fun e => row_ne hr7 hD7 (by decide) e.symm)).trans hD7
       have hW8 := row_keeps hW7 (Keeps.grown (O := fun j => (Value.slice A6 S.l.length c6).ownBlock ≠ some j) hg8 fun k hk h => h hk) (fun j hj e => rows_ne hr7 hW7 (by decide) j e hj)
       have kk8 := kk7.grown hg8 (by omega) (fun k hk => by have := (hr7.lt k hk).1; omega)
       have kk8B := kk7B.trans (Keeps.grown (O := B) hg8 fun k hk h => by have := hB k h; have := (hr7.lt k hk).1; omega)
       have hc8 := hB8.cell
       have hf8 := hB8.frozen
       simp only [rcells] at hc8
       simp [go_sem, IntWalk.iteOmega, IntWalk.toNatUp, e0, hc8, hf8]
       exact atCut.mk (enterK_of (by simp [go_sem, e0]) h1 h2 h3 h4 hn0 hB hB8 hW8 hwB hD8 hne hr8 hcf hla hll hdl' kk8 kk8B))
  · rintro s w6 ⟨e0, hR6, k6, k6B⟩
    obtain ⟨_, _, _, _, _, _, _, hr6, _⟩ := id hR6
    have hc6 := hr6.cell
    simp only [rcells] at hc6
    simp [go_sem, IntWalk.iteOmega, IntWalk.toNatUp, e0, hc6, hla]
    exact ⟨hR6, k6, k6B⟩
theorem noinit_renter : Try.prog.inits.idxOf? 24 = none := by kernel_rfl
end Go.Proofs.Ytilpmnbnjeahnaa
