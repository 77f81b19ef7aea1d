/-
  gate.Clone.
-/
import Derived.Test.YtilpmnbnjeahnaaGEq
import Derived.Test.YtilpmnbnjeahnaaCut
namespace Go.Proofs.Ytilpmnbnjeahnaa
open Go.RowKit
set_option linter.unusedVariables false
set_option linter.unusedSimpArgs false
set_option maxRecDepth 10000
theorem F.noinit_none' : Try.prog.inits.idxOf? 33 = none := noinit_none
theorem run_eql_nil {P : Program} {t e : TypeId} (ht : P.underlying t = some (.slice e)) (A : Option Addr) (n c : Nat) (w : World) :
    (binOp .eql t (.slice A n c) (.slice none 0 0)).run P w = .ok (.bool A.isNone) w := by
  unfold binOp Op.equal
  rw [show Op.maxDepth = 9999 + 1 from rfl]
  unfold Op.equalIn
  cases A <;> simp [run_underlying ht, Result.andThen]
theorem ownsEmptyN {w : World} {b g size : Nat} {e : TypeId} (hg : Blk w g e #[]) (hb : b ≤ g) : w.ownsRow b e size (.slice (some ⟨g, 0, none⟩) 0 0) 0 [] := ⟨by simp, .inr ⟨g, 0, #[], rfl, hb, hg, Nat.le_refl _, by unfold maxLen; omega, by simp, by simp⟩⟩
theorem oneI' (k : IntKind) (l : List Int) : allOne (ints k l) = true := allOne_of fun v hv => by
  obtain ⟨x, _, rfl⟩ := List.mem_map.1 hv; rfl
set_option maxHeartbeats 3200000 in
theorem cloneI_any (ds : List Int) (hlen : ds.length ≤ 1000) (vd : Value) (w : World) (hs : Sl w 1 vd ds.length (ints .i64 ds)) :
    callE Try.prog 42 #[vd] w fun v w' => w'.ownsRow w.heap.size 2 1 v ds.length (ints .i64 ds) ∧ Below w.heap.size w w' := by
  obtain ⟨A, cap, rfl, hrd, hA, hc1, hc2⟩ := id hs
  refine calls_E Try.func42 rfl rfl rfl (Nat.le_of_ble_eq_true rfl) ?_
  rcases A with _ | a
  · obtain ⟨hn, hcap⟩ := hA rfl
    obtain rfl : ds = [] := List.length_eq_zero_iff.1 hn
    subst hcap
    have hE := run_eql_nil (P := Try.prog) Try.underlying24 none 0 0 w
    simp [go_sem, IntWalk.iteOmega, IntWalk.toNatUp, hE]
    exact ⟨World.ownsRow_nil _ _ _ _, Below.refl _ _⟩
  · have hE := run_eql_nil (P := Try.prog) Try.underlying24 (some a) ds.length cap w
    simp [go_sem, IntWalk.iteOmega, IntWalk.toNatUp, hE]
    have kB := ext_alloc w (.cells #[] 2)
    have hxb3 : Blk (w.alloc (.cells #[] 2)) w.heap.size 2 #[] := Blk.self_ rfl
    have hrd2 := hrd.keep kB
    refine appendE w.heap.size 2 1 8 Try.underlying24 el2 (ownsEmptyN hxb3 (Nat.le_refl _)) hrd2 (oneI' _ _) (by unfold maxLen; omega) (by omega) kB.size ?_
    intro out' w6 hout6 hgr6 hblk6
    have hb6 := kB.grown hgr6 kB.size (fun k hk => by
      have : w.heap.size = k := Option.some.inj hk
      omega)
    rw [Nat.zero_add, List.nil_append] at hout6
    simp [go_sem, IntWalk.iteOmega, IntWalk.toNatUp]
    exact ⟨hout6, hb6⟩
/-- the cells of what each one has -/
def stc (st : Nat → GSt) (n : Nat) : List Value := (List.range n).flatMap fun u => [.int .i64 (st u).many, .int .i64 (st u).large, .int .i64 (st u).own, .int .i64 (st u).drops]
theorem row_low {w : World} {b b' e size n : Nat} {v : Value} {xs : List Value} (h : w.ownsRow b e size v n xs) (hb : b' ≤ b) : w.ownsRow b' e size v n xs := by
  refine ⟨h.1, ?_⟩
  rcases h.2 with q | ⟨g, cap, cur, q1, q2, q3⟩
  · exact .inl q
  · exact .inr ⟨g, cap, cur, q1, Nat.le_trans hb q2, q3⟩
theorem stc_succ (st : Nat → GSt) (n : Nat) : stc st (n + 1) = stc st n ++ [.int .i64 (st n).many, .int .i64 (st n).large, .int .i64 (st n).own, .int .i64 (st n).drops] := by
  unfold stc; rw [List.range_succ, List.flatMap_append]; simp
theorem stc_length (st : Nat → GSt) : ∀ n, (stc st n).length = n * 4
  | 0 => rfl
  | n + 1 => by rw [stc_succ, List.length_append, stc_length st n]; simp; omega
theorem stc_at (st : Nat → GSt) : ∀ n u, u < n → (stc st n)[u * 4]? = some (.int .i64 (st u).many) ∧ (stc st n)[u * 4 + 1]? = some (.int .i64 (st u).large) ∧ (stc st n)[u * 4 + 2]? = some (.int .i64 (st u).own) ∧ (stc st n)[u * 4 + 3]? = some (.int .i64 (st u).drops)
  | n + 1, u, h => by
    have hl := stc_length st n
    rw [stc_succ]
    by_cases e : u = n
    · subst e
      refine ⟨?_, ?_, ?_, ?_⟩ <;> rw [List.getElem?_append_right (by omega), hl] <;> simp
    · obtain ⟨a, b, c, d⟩ := stc_at st n u (by omega)
      refine ⟨?_, ?_, ?_, ?_⟩ <;> rw [List.getElem?_append_left (by omega)] <;> assumption
theorem stc_one (st : Nat → GSt) (n : Nat) : allOne (stc st n) = true := allOne_of fun v hv => by
  obtain ⟨x, _, hx⟩ := List.mem_flatMap.1 hv
  simp only [List.mem_cons, List.not_mem_nil, or_false] at hx
  rcases hx with rfl | rfl | rfl | rfl <;> rfl
theorem Wst.rd {w : World} {b n : Nat} {st : Nat → GSt} (h : Wst w b n st) : Rd w 4 (some ⟨b, 0, none⟩) n (stc st n) := by
  obtain ⟨cs, hb, hcs, hall⟩ := h
  refine ⟨stc_length st n, fun hn => ⟨b, 0, rfl, hb.lt, fun j u hu => ?_⟩⟩
  have hj : j < n * 4 := by
    have := (List.getElem?_eq_some_iff.1 hu).1
    rwa [stc_length] at this
  obtain ⟨a, b', c, d⟩ := stc_at st n (j / 4) (by omega)
  obtain ⟨x, y, z, v⟩ := hall (j / 4) (by omega)
  rw [hb.cell, Nat.zero_add]
  have h4 : j % 4 = 0 ∨ j % 4 = 1 ∨ j % 4 = 2 ∨ j % 4 = 3 := by omega
  rcases h4 with h4 | h4 | h4 | h4
  · rw [show j = j / 4 * 4 by omega] at hu ⊢
    rw [a] at hu; rw [x]; exact hu
  · rw [show j = j / 4 * 4 + 1 by omega] at hu ⊢
    rw [b'] at hu; rw [y]; exact hu
  · rw [show j = j / 4 * 4 + 2 by omega] at hu ⊢
    rw [c] at hu; rw [z]; exact hu
  · rw [show j = j / 4 * 4 + 3 by omega] at hu ⊢
    rw [d] at hu; rw [v]; exact hu
set_option maxHeartbeats 3200000 in
theorem cloneS_any (st : Nat → GSt) (n cap b : Nat) (hn : 1 ≤ n) (hn2 : n ≤ 32) (w : World) (h : Wst w b n st) :
    callE Try.prog 43 #[.slice (some ⟨b, 0, none⟩) n cap] w fun v w' => ∃ g cp, v = .slice (some ⟨g, 0, none⟩) n cp ∧ w.heap.size ≤ g ∧ Wst w' g n st ∧ Below w.heap.size w w' := by
  have hrd := h.rd
  refine calls_E Try.func43 rfl rfl rfl (Nat.le_of_ble_eq_true rfl) ?_
  have hE := run_eql_nil (P := Try.prog) Try.underlying62 (some ⟨b, 0, none⟩) n cap w
  simp [go_sem, IntWalk.iteOmega, IntWalk.toNatUp, hE]
  have kB := ext_alloc w (.cells #[] 44)
  have hxb3 : Blk (w.alloc (.cells #[] 44)) w.heap.size 44 #[] := Blk.self_ rfl
  refine appendE w.heap.size 44 4 32 Try.underlying62 el44 (ownsEmptyN hxb3 (Nat.le_refl _)) (hrd.keep kB) (stc_one _ _) (by unfold maxLen; omega) (by omega) kB.size ?_
  intro out' w6 hout6 hgr6 hblk6
  have hb6 := kB.grown hgr6 kB.size (fun k hk => by
    have : w.heap.size = k := Option.some.inj hk
    omega)
  rw [Nat.zero_add, List.nil_append] at hout6
  rcases hout6.2 with ⟨_, h0⟩ | ⟨g, cp, cur, rfl, hg0, hg, h3, h4, h5, h6⟩
  · omega
  simp [go_sem, IntWalk.iteOmega, IntWalk.toNatUp]
  refine ⟨hg0, ⟨cur, hg, by omega, fun u hu => ?_⟩, hb6⟩
  have key : ∀ j v, j < n * 4 → (stc st n)[j]? = some v → cur[j]? = some v := fun j v hj hv => by
    rw [← h6, List.getElem?_take, if_pos hj] at hv
    simpa using hv
  obtain ⟨a, b', c, d⟩ := stc_at st n u hu
  exact ⟨key _ _ (by omega) a, key _ _ (by omega) b', key _ _ (by omega) c, key _ _ (by omega) d⟩
theorem run_mclone {w : World} {r : Nat} {es : Array MapEntry} {clock : Nat} {t : TypeId} (hb : w.heap[r]? = some (.map es clock)) : (Extern.MapsClone.clone #[.iface t (.map (some r))]).run Try.prog w = .ok (.iface t (.map (some w.heap.size))) (w.alloc (.map es clock)) := by
  have e : Extern.MapsClone.clone #[.iface t (.map (some r))] = (getObj r >>= fun o => match o with
      | .map entries clock => (newObj (.map entries clock) >>= fun n => pure (.iface t (.map (some n))))
      | _ => stuck "maps.clone: a map expected") := rfl
  rw [e]
  simp [MapKept.run_getObj_map hb, Result.andThen]
theorem assert61 (v : Value) (w : World) : (Instr.typeAssert (.iface 61 v) 20 61 false).run Try.prog w = .ok v w := by
  unfold Instr.typeAssert
  simp [run_underlying und61, Result.andThen]
theorem mclone_any (m : Nat) (L : List (Int × Value)) (w : World) (h : Mp w m .i64 L) :
    callE Try.prog 44 #[.map (some m)] w fun v w' => v = .map (some w.heap.size) ∧ Mp w' w.heap.size .i64 L ∧ Below w.heap.size w w' := by
  obtain ⟨es, ck, h1, h2, h3⟩ := h
  have hrun := run_mclone (t := 61) h1
  have hcall : (callFunc 50 #[.iface 61 (.map (some m))]).run Try.prog w = .ok (.value (.iface 61 (.map (some w.heap.size)))) (w.alloc (.map es ck)) := by
    rw [run_callFunc_extern Try.func50 (by kernel_rfl) (by kernel_rfl) (by kernel_rfl) (e := Extern.MapsClone.clone) (by kernel_rfl)]
    rw [hrun]; rfl
  refine calls_E Try.func44 rfl rfl rfl (Nat.le_of_ble_eq_true rfl) ?_
  simp [go_sem, IntWalk.iteOmega, IntWalk.toNatUp, hcall, assert61]
  exact ⟨⟨es, ck, heap_alloc_new w _, h2, h3⟩, ext_alloc _ _⟩
def cloneK (w0 : World) (S : GS) (x : Nat) (s : Slots) (w' : World) : Prop := ∃ cp, s 3 = .pointer (some ⟨x, 0, none⟩) ∧ F.GateIn w' (fun j => w0.heap.size ≤ j ∧ j < w'.heap.size) x { S with cap := cp } ∧ Below w0.heap.size w0 w'
theorem cloneK_of {w0 w' : World} {S : GS} {x m g cp : Nat} {sv : Value} {s : Slots} {sv0 : Value} {m0 b0 : Nat} (e3 : s 3 = .pointer (some ⟨x, 0, none⟩)) (hx0 : w0.heap.size ≤ x) (hm0 : w0.heap.size ≤ m) (hg0 : w0.heap.size ≤ g) (hx : Blk w' x 64 (gcells S sv0 m0 b0)) (hsv : w'.ownsRow w0.heap.size 2 1 sv S.n (ints .i64 S.share)) (hm : Mp w' m .i64 (lv S.l)) (hg : Wst w' g S.n S.st) (hn : S.n ≤ 32) (hb : Below w0.heap.size w0 w') :
    cloneK w0 S x s (((w'.setCell ⟨x, 5, none⟩ sv).setCell ⟨x, 9, none⟩ (.slice (some ⟨g, 0, none⟩) S.n cp)).setCell ⟨x, 6, none⟩ (.map (some m))) := by
  have hset : Keeps (fun j => j ≠ x) w' (((w'.setCell ⟨x, 5, none⟩ sv).setCell ⟨x, 9, none⟩ (.slice (some ⟨g, 0, none⟩) S.n cp)).setCell ⟨x, 6, none⟩ (.map (some m))) :=
    ((Keeps.setCell _ _ _ fun h => h rfl).trans (Keeps.setCell _ _ _ fun h => h rfl)).trans (Keeps.setCell _ _ _ fun h => h rfl)
  have hsz : (((w'.setCell ⟨x, 5, none⟩ sv).setCell ⟨x, 9, none⟩ (.slice (some ⟨g, 0, none⟩) S.n cp)).setCell ⟨x, 6, none⟩ (.map (some m))).heap.size = w'.heap.size := by rw [sz_set, sz_set, sz_set]
  have hml := hm.lt
  have hxl := hx.lt
  obtain ⟨cs, hc, hr⟩ := hg
  have hgl := hc.lt
  have hX := Blk_set (o := 6) (v := .map (some m)) (Blk_set (o := 9) (v := .slice (some ⟨g, 0, none⟩) S.n cp) (Blk_set (o := 5) (v := sv) hx))
  have hr2 := row_keeps hsv hset fun j hj e => row_ne hsv hx (by decide) (e ▸ hj)
  refine ⟨cp, e3, ⟨sv, m, g, ⟨hx0, by rw [hsz]; exact hxl⟩, ⟨hm0, by rw [hsz]; exact hml⟩, ⟨hg0, by rw [hsz]; exact hgl⟩, hX, ⟨⟨hr2.1, ?_⟩, fun j hj => ⟨(hr2.lt j hj).1, (hr2.lt j hj).2⟩⟩, Mp_far hm (hset.block m hml fun e => Blk_ne_map hx hm e.symm), ⟨cs, hset.blk hc fun e => Blk_ne hx hc (by decide) e.symm, hr⟩, hn⟩, ((hb.setCell hx0 _).setCell hx0 _).setCell hx0 _⟩
  rcases hr2.2 with q | ⟨k, cap, cur, q1, q2, q3⟩
  · exact .inl q
  · exact .inr ⟨k, cap, cur, q1, Nat.zero_le _, q3⟩
set_option maxHeartbeats 12800000 in
theorem clone_any (B : Nat → Prop) (g : Nat) (S : GS) (w : World) (h : F.GateIn w B g S) (hn1 : 1 ≤ S.n) (hsl : S.share.length ≤ 1000) :
    callE Try.prog 26 #[.pointer (some ⟨g, 0, none⟩)] w fun u w' => ∃ x cp, u = .pointer (some ⟨x, 0, none⟩) ∧ F.GateIn w' (fun j => w.heap.size ≤ j ∧ j < w'.heap.size) x { S with cap := cp } ∧ Below w.heap.size w w' := by
  have hno := fun k => callE_eq F.noinit_none' (F.none_runs B g S w h) k
  obtain ⟨sv, m, b, h1, h2, h3, hg, ⟨hsh, hs2⟩, hmp, hst, hn⟩ := id h
  have hcell := hg.cell
  simp only [gcells] at hcell
  have hlt := hg.lt
  have hlen : S.share.length = S.n := by have := hsh.1; simpa [ints] using this
  obtain ⟨hss, As, cs, rfl⟩ := own_sl hsh
  replace hss : Sl w 1 (.slice As S.n cs) S.share.length (ints .i64 S.share) := by rw [hlen]; exact hss
  have kX := ext_alloc w (.cells (gcells S (.slice As S.n cs) m b) 64)
  have hX : Blk (w.alloc (.cells (gcells S (.slice As S.n cs) m b) 64)) w.heap.size 64 (gcells S (.slice As S.n cs) m b) := Blk.self_ rfl
  have hgX := hg.keep kX
  have hcX := (hgX.drew).cell
  have hmX := hmp.keep kX
  have hstX : Wst (w.alloc (.cells (gcells S (.slice As S.n cs) m b) 64)) b S.n S.st := by
    obtain ⟨c, q, q2⟩ := hst
    exact ⟨c, q.keep kX, q2⟩
  have hssX := Sl_on hss kX
  simp only [gcells] at kX hX hgX hcX hmX hstX hssX
  refine calls_E Try.func26 rfl rfl rfl (Nat.le_of_ble_eq_true rfl) ?_
  simp [go_sem, IntWalk.iteOmega, IntWalk.toNatUp, hno, hcell]
  generalize hWX : w.alloc (.cells #[.int .i64 S.cfg.large, .int .i64 S.cfg.each, .int .i64 S.cfg.own, .int .i64 S.cfg.many, .int .i64 S.cfg.size, .slice As S.n cs, .map (some m), .int .i64 S.last, .int .i64 S.free, .slice (some ⟨b, 0, none⟩) S.n S.cap] 64) = WX at *
  have hszX : WX.heap.size = w.heap.size + 1 := by rw [← hWX]; simp
  clear hWX
  refine W_fork (.pure 0 (.pure 1 (.pure 2 (.pure 5 (.pure 6 (.pure 7 (.pure 10 (.pure 11 (.pure 12 (.alt 3 (.alt 4 (.alt 8 (.alt 9 (.alt 13 (.alt 14 (.pure 15 (.alt 16 (.pure 17 (.alt 18 (.pure 19 (.alt 20 (.done) (.no))) (.no))) (.no))) (.no)) (.no)) (.alt 13 (.alt 9 (.alt 14 (.pure 15 (.alt 16 (.pure 17 (.alt 18 (.pure 19 (.alt 20 (.done) (.no))) (.no))) (.no))) (.no)) (.no)) (.no))) (.alt 13 (.alt 8 (.alt 9 (.alt 14 (.pure 15 (.alt 16 (.pure 17 (.alt 18 (.pure 19 (.alt 20 (.done) (.no))) (.no))) (.no))) (.no)) (.no)) (.no)) (.no))) (.alt 8 (.alt 4 (.alt 9 (.alt 13 (.alt 14 (.pure 15 (.alt 16 (.pure 17 (.alt 18 (.pure 19 (.alt 20 (.done) (.no))) (.no))) (.no))) (.no)) (.no)) (.alt 13 (.alt 9 (.alt 14 (.pure 15 (.alt 16 (.pure 17 (.alt 18 (.pure 19 (.alt 20 (.done) (.no))) (.no))) (.no))) (.no)) (.no)) (.no))) (.alt 13 (.alt 4 (.alt 9 (.alt 14 (.pure 15 (.alt 16 (.pure 17 (.alt 18 (.pure 19 (.alt 20 (.done) (.no))) (.no))) (.no))) (.no)) (.no)) (.no)) (.no))) (.alt 13 (.alt 4 (.alt 8 (.alt 9 (.alt 14 (.pure 15 (.alt 16 (.pure 17 (.alt 18 (.pure 19 (.alt 20 (.done) (.no))) (.no))) (.no))) (.no)) (.no)) (.no)) (.alt 8 (.alt 4 (.alt 9 (.alt 14 (.pure 15 (.alt 16 (.pure 17 (.alt 18 (.pure 19 (.alt 20 (.done) (.no))) (.no))) (.no))) (.no)) (.no)) (.no)) (.no))) (.no)))) (.alt 8 (.alt 3 (.alt 4 (.alt 9 (.alt 13 (.alt 14 (.pure 15 (.alt 16 (.pure 17 (.alt 18 (.pure 19 (.alt 20 (.done) (.no))) (.no))) (.no))) (.no)) (.no)) (.alt 13 (.alt 9 (.alt 14 (.pure 15 (.alt 16 (.pure 17 (.alt 18 (.pure 19 (.alt 20 (.done) (.no))) (.no))) (.no))) (.no)) (.no)) (.no))) (.alt 13 (.alt 4 (.alt 9 (.alt 14 (.pure 15 (.alt 16 (.pure 17 (.alt 18 (.pure 19 (.alt 20 (.done) (.no))) (.no))) (.no))) (.no)) (.no)) (.no)) (.no))) (.alt 13 (.alt 3 (.alt 4 (.alt 9 (.alt 14 (.pure 15 (.alt 16 (.pure 17 (.alt 18 (.pure 19 (.alt 20 (.done) (.no))) (.no))) (.no))) (.no)) (.no)) (.no)) (.no)) (.no))) (.alt 13 (.alt 3 (.alt 4 (.alt 8 (.alt 9 (.alt 14 (.pure 15 (.alt 16 (.pure 17 (.alt 18 (.pure 19 (.alt 20 (.done) (.no))) (.no))) (.no))) (.no)) (.no)) (.no)) (.alt 8 (.alt 4 (.alt 9 (.alt 14 (.pure 15 (.alt 16 (.pure 17 (.alt 18 (.pure 19 (.alt 20 (.done) (.no))) (.no))) (.no))) (.no)) (.no)) (.no)) (.no))) (.alt 8 (.alt 3 (.alt 4 (.alt 9 (.alt 14 (.pure 15 (.alt 16 (.pure 17 (.alt 18 (.pure 19 (.alt 20 (.done) (.no))) (.no))) (.no))) (.no)) (.no)) (.no)) (.no)) (.no))) (.no))))))))))))) follows (by kernel_rfl) (cloneK w S w.heap.size) ?_ ?_
  · obtain ⟨w2, hw2⟩ : ∃ w2, w2 = WX.drew := ⟨_, rfl⟩
    have kd := kX.drew
    have hX2 := hX.drew
    have hg2 := hgX.drew
    have hm2 := hmX.keep (ext_drew WX)
    have hst2 : Wst WX.drew b S.n S.st := by
      obtain ⟨c, q, q2⟩ := hstX
      exact ⟨c, q.drew, q2⟩
    have hss2 := Sl_on hssX (ext_drew WX)
    rw [← hw2] at hcX kd hX2 hg2 hm2 hst2 hss2 ⊢
    have hsz2 : w2.heap.size = w.heap.size + 1 := by rw [hw2]; exact hszX
    simp [go_sem, IntWalk.iteOmega, IntWalk.toNatUp, hcX]
    and_intros <;>
    (refine callE_of (cloneI_any S.share hsl _ w2 hss2) ?_
     rintro v3 w3 ⟨hr3, k3⟩
     rw [hlen] at hr3
     obtain ⟨_, A3, c3, rfl⟩ := own_sl hr3
     have hc3 := (hg2.keep k3).cell
     have hst3 : Wst w3 b S.n S.st := by
       obtain ⟨c, q, q2⟩ := hst2
       exact ⟨c, q.keep k3, q2⟩
     simp [go_sem, IntWalk.iteOmega, IntWalk.toNatUp, hc3]
     and_intros <;>
     (refine callE_of (cloneS_any S.st S.n S.cap b hn1 hn w3 hst3) ?_
      rintro _ w4 ⟨g4, cp4, rfl, hg4, hst4, k4⟩
      have hc4 := ((hg2.keep k3).keep k4).cell
      simp [go_sem, IntWalk.iteOmega, IntWalk.toNatUp, hc4]
      and_intros <;>
      (refine callE_of (mclone_any m (lv S.l) w4 ((hm2.keep k3).keep k4)) ?_
       rintro _ w5 ⟨rfl, hm5, k5⟩
       have s3 := k3.size
       have s4 := k4.size
       have s5 := k5.size
       have hX5 := ((hX2.keep k3).keep k4).keep k5
       have hX5c := hX5.cell
       have hX5f := hX5.frozen
       have hst5 : Wst w5 g4 S.n S.st := by
         obtain ⟨c, q, q2⟩ := hst4
         exact ⟨c, q.keep k5, q2⟩
       have hr5 := row_low (row_below (row_below hr3 k4) k5) (show w.heap.size ≤ w2.heap.size by omega)
       have kall := kd.trans ((ext_trans (ext_trans k3 k4) k5).mono (show w.heap.size ≤ w2.heap.size by omega))
       simp [go_sem, IntWalk.iteOmega, IntWalk.toNatUp, hX5c, hX5f]
       exact cloneK_of (sv0 := .slice As S.n cs) (m0 := m) (b0 := b) (by simp [go_sem]) (Nat.le_refl _) (by omega) (by omega) hX5 hr5 hm5 hst5 hn kall)))
  · rintro s w' ⟨cp, e3, hG, hb⟩
    simp [go_sem, IntWalk.iteOmega, IntWalk.toNatUp, e3]
    exact ⟨⟨cp, hG⟩, hb⟩
end Go.Proofs.Ytilpmnbnjeahnaa
