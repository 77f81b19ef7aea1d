/-
  Texts joined: FPairL, FRSetT, FRChain.
-/
import Derived.Test.YtdjcjjodbniebaaGreatDoorJoin42
namespace Go.Proofs.YtdjcjjodbniebaaGreatDoor
open Go.RowKit
set_option linter.unusedVariables false
set_option linter.unusedSimpArgs false
set_option maxRecDepth 10000
def AskM (m : Nat) (R : RF) : Prop := R.A.length ≤ m ∧ ∀ x ∈ R.A, x.1.length = 32 ∧ 0 ≤ x.2.1 ∧ x.2.1 ≤ m
theorem AskM.mono {m k : Nat} {R : RF} (h : AskM m R) (hk : m ≤ k) : AskM k R := ⟨by have := h.1; omega, fun x hx => ⟨(h.2 x hx).1, (h.2 x hx).2.1, by have := (h.2 x hx).2.2; omega⟩⟩
theorem atL_numM {m : Nat} (id : List UInt8) : ∀ (L : List (List UInt8 × Int × Bool)), (∀ x ∈ L, x.1.length = 32 ∧ 0 ≤ x.2.1 ∧ x.2.1 ≤ m) → 0 ≤ ((atL id L).map Prod.fst).getD 0 ∧ ((atL id L).map Prod.fst).getD 0 ≤ m
  | [], _ => by simp [atL]
  | x :: L, h => by
    have ih := atL_numM id L fun y hy => h y (by simp [hy])
    by_cases he : id = x.1
    · have : atL id (x :: L) = some x.2 := by rw [atL_cons, if_pos he]
      rw [this]
      exact (h x (by simp)).2
    · have : atL id (x :: L) = atL id L := by rw [atL_cons, if_neg he]
      rw [this]
      exact ih
theorem AskM.fail {m : Nat} {R : RF} (h : AskM m R) (id : List UInt8) : AskM m (failR R id).2 := by
  unfold failR
  split
  · refine ⟨by show (setA _ _ _).length ≤ m; rw [setA_len]; exact h.1, fun x hx => ?_⟩
    rcases setA_mem _ _ _ x hx with h' | ⟨⟨z, hz, h1, h2⟩, h3⟩
    · exact h.2 x h'
    · rw [← h1, h3]
      exact ⟨(h.2 z hz).1, atL_numM id R.A h.2⟩
  · exact h
theorem AskM.target {m : Nat} {R : RF} (h : AskM m R) (id : List UInt8) (us : List Int) : AskM m (targetR R id us).2 := by
  have e : (targetR R id us).2.A = R.A := by
    unfold targetR
    split
    · rfl
    · split
      · rfl
      · split <;> rfl
  unfold AskM
  rw [e]
  exact h
theorem AskM.ask {m : Nat} {R : RF} (h : AskM m R) {id : List UInt8} (hid : id.length = 32) : AskM (m + 1) (askR R id).2 := by
  have hn := atL_numM id R.A h.2
  unfold askR
  split
  · exact h.mono (by omega)
  · split
    · exact h.mono (by omega)
    · have hA : (askA R id (numR R id + 1, true)).length ≤ m + 1 ∧ ∀ x ∈ askA R id (numR R id + 1, true), x.1.length = 32 ∧ 0 ≤ x.2.1 ∧ x.2.1 ≤ (m + 1 : Nat) := by
        have hn' : 0 ≤ numR R id ∧ numR R id ≤ m := hn
        unfold askA
        split
        · refine ⟨by rw [setA_len]; have := h.1; omega, fun x hx => ?_⟩
          rcases setA_mem _ _ _ x hx with h' | ⟨⟨z, hz, h1, h2⟩, h3⟩
          · have := h.2 x h'
            exact ⟨this.1, this.2.1, by omega⟩
          · rw [← h1, h3]
            exact ⟨(h.2 z hz).1, by show 0 ≤ numR R id + 1; omega, by show numR R id + 1 ≤ ((m + 1 : Nat) : Int); omega⟩
        · refine ⟨by rw [List.length_append]; have := h.1; show R.A.length + 1 ≤ m + 1; omega, fun x hx => ?_⟩
          rcases List.mem_append.1 hx with h' | h'
          · have := h.2 x h'
            exact ⟨this.1, this.2.1, by omega⟩
          · obtain rfl : x = (id, numR R id + 1, true) := by simpa using h'
            exact ⟨hid, by show 0 ≤ numR R id + 1; omega, by show numR R id + 1 ≤ ((m + 1 : Nat) : Int); omega⟩
      exact hA
theorem gotRL_A : ∀ (raws : List (List UInt8)) (R : RF) (id : List UInt8) (ahead : List Bk), (gotRL raws R id ahead).1.A = R.A
  | [], R, id, ahead => by unfold gotRL; rfl
  | raw :: rest, R, id, ahead => by
    rw [gotRL_cons]
    split
    · rfl
    · split
      · rfl
      · split
        · rfl
        · rw [gotRL_A rest]
theorem AskM.got {m : Nat} {R : RF} (h : AskM m R) (id : List UInt8) (raws : List (List UInt8)) : AskM m (gotR R id raws).2 := by
  unfold gotR
  split
  · have e : AskM m (failR R id).2 := h.fail id
    unfold AskM at e ⊢
    dsimp only
    rw [gotRL_A]
    exact e
  · exact h
theorem NamedK.target {S : FS} (h : NamedK S) (id : List UInt8) (us : List Int) : NamedK (targetF S id us).2 := by
  unfold targetF
  split
  · exact h
  · split
    · exact h
    · exact h
theorem NamedK.ask {S : FS} (h : NamedK S) (id : List UInt8) : NamedK (askF S id).2 := by
  unfold askF
  split
  · exact h
  · split
    · exact h
    · exact h
theorem NamedK.fail {S : FS} (h : NamedK S) (id : List UInt8) : NamedK (failF S id).2 := by
  unfold failF
  split
  · exact h
  · exact h
theorem NamedK.got {S : FS} (h : NamedK S) (id : List UInt8) (raws : List (List UInt8)) : NamedK (gotF S id raws).2 := by
  unfold gotF
  split
  · exact (gotL_kept id (raws.take 16) { S with asked := delB id S.asked } [] h).1
  · exact h
structure Both (m : Nat) (S : FS) (R : RF) : Prop where
  rel : RelF S R
  ok : FOk S
  named : NamedK S
  often : OftenOk m S
  ask : AskM m R
theorem Both.rok {m : Nat} {S : FS} {R : RF} (h : Both m S R) (hm : m ≤ 100000) : ROk R := by
  have r := h.rel.rel
  refine ⟨by rw [r.last]; exact h.ok.last, by rw [r.height]; exact h.ok.hlo, by rw [r.height]; exact h.ok.hhi, by rw [r.room]; exact h.ok.room, by rw [r.T]; exact h.ok.tsn, fun x hx => ?_, by rw [r.K]; exact h.ok.keptn, fun x hx => ?_, Nat.le_trans h.ask.1 hm, fun x hx => ⟨(h.ask.2 x hx).1, (h.ask.2 x hx).2.1, by have := (h.ask.2 x hx).2.2; omega⟩⟩
  · rw [r.T] at hx
    obtain ⟨h1, h2, h3⟩ := h.ok.ts x hx
    exact ⟨h1, Places.len ⟨h2, h3⟩⟩
  · rw [r.K] at hx
    have := h.named x hx
    exact ⟨by rw [← this]; exact idB_len _, h.ok.kept x hx⟩
theorem Both.mono {m k : Nat} {S : FS} {R : RF} (h : Both m S R) (hk : m ≤ k) : Both k S R := ⟨h.rel, h.ok, h.named, fun x hx => ⟨(h.often x hx).1, by have := (h.often x hx).2; omega⟩, h.ask.mono hk⟩
theorem Both.target {m : Nat} {S : FS} {R : RF} (h : Both m S R) {id : List UInt8} (hid : id.length = 32) (us : List Int) : Both m (targetF S id us).2 (targetR R id us).2 :=
  ⟨(target_eq h.rel h.ok id us).2, targetF_ok h.ok hid us, h.named.target id us, h.often.target id us, h.ask.target id us⟩
theorem Both.asks {m : Nat} {S : FS} {R : RF} (h : Both m S R) {id : List UInt8} (hid : id.length = 32) : Both (m + 1) (askF S id).2 (askR R id).2 :=
  ⟨(ask_eq h.rel h.ok h.named id).2, askF_ok h.ok id, h.named.ask id, h.often.ask id, h.ask.ask hid⟩
theorem Both.fail {m : Nat} {S : FS} {R : RF} (h : Both m S R) (id : List UInt8) : Both m (failF S id).2 (failR R id).2 :=
  ⟨(fail_eq h.rel id).2, failF_ok h.ok id, h.named.fail id, h.often.fail id, h.ask.fail id⟩
theorem Both.got {m : Nat} {S : FS} {R : RF} (h : Both m S R) (id : List UInt8) (raws : List (List UInt8)) (hok : FOk (gotF S id raws).2) : Both m (gotF S id raws).2 (gotR R id raws).2 :=
  ⟨(got_eq h.rel id raws).2, hok, h.named.got id raws, h.often.got id raws, h.ask.got id raws⟩
theorem both_new {last : List UInt8} {height room : Int} (hl : last.length = 32) (h0 : 0 ≤ height) (h1 : height ≤ 9223372036854775807) (hr : 1 ≤ room ∧ room ≤ 4096) : Both 0 ⟨last, height, room, [], [], [], []⟩ ⟨last, height, room, [], [], []⟩ := by
  refine ⟨⟨⟨rfl, rfl, rfl, rfl, rfl, fun id => rfl⟩, fun id => rfl, List.nodup_nil⟩, ⟨hl, h0, h1, hr, ?_, ?_, ?_, ?_⟩, ?_, ?_, ⟨?_, ?_⟩⟩
  · show (0 : Nat) ≤ 32; decide
  · intro t ht; cases ht
  · show (0 : Nat) ≤ 4096; decide
  · intro t ht; cases ht
  · intro t ht; cases ht
  · intro t ht; cases ht
  · show (0 : Nat) ≤ 0; decide
  · intro t ht; cases ht
section
variable {w : World} {O : Nat → Prop} {g : Nat} {R : RF} {tv kv av : Value} {vs : List Value} {ds : List (List UInt8 × Bk × Value)}
theorem RIn.putT {w9 : World} {tb tc i : Nat} {v : Value} {l : List Int} (h : RIn w O g R (.slice (some ⟨tb, 0, none⟩) R.T.length tc) kv av vs ds) (hok : ROk R) (hi : i < R.T.length) (hk : Below w.heap.size w w9) (hv : w9.ownsRow w.heap.size 3 1 v l.length (intsK .i64 l)) :
    RIn (w9.setCell ⟨tb, i * 33 + 32, none⟩ v) (fun j => O j ∨ v.ownBlock = some j) g { R with T := R.T.set i ((R.T[i]).1, l) } (.slice (some ⟨tb, 0, none⟩) R.T.length tc) kv av (vs.set i v) ds ∧ Mine O (fun j => O j ∨ v.ownBlock = some j) w (w9.setCell ⟨tb, i * 33 + 32, none⟩ v) := by
  have h9 := h.keep hk
  have hown : (Value.slice (some ⟨tb, 0, none⟩) R.T.length tc).ownBlock = some tb := rfl
  have hOt : O tb := h.torow tb hown
  have hk1 : Keeps (fun j => j ≠ tb) w9 (w9.setCell ⟨tb, i * 33 + 32, none⟩ v) := Keeps.setCell _ _ _ (fun hh => hh rfl)
  have hs := hk.size
  have hiv : i < vs.length := by rw [h.vlen]; exact hi
  have hzl : ((R.T.map Prod.fst).zip vs).length = R.T.length := by simp [h.vlen]
  have hiz : i < ((R.T.map Prod.fst).zip vs).length := by omega
  have hze : ((R.T.map Prod.fst).zip vs)[i] = ((R.T[i]).1, vs[i]) := by simp
  have l32 : (bl (R.T[i]).1).length = 32 := by rw [bl_length]; exact (hok.t _ (List.getElem_mem hi)).1
  have hset := rec_set ((R.T.map Prod.fst).zip vs) (rtcell_len hok) i hiz ((R.T[i]).1, v) 32 v (by decide) (by
    rw [hze]
    unfold tcell
    dsimp only
    rw [List.set_append_right _ _ (by omega), l32]
    rfl)
  have hzs : ((R.T.map Prod.fst).zip vs).set i ((R.T[i]).1, v) = ((R.T.set i ((R.T[i]).1, l)).map Prod.fst).zip (vs.set i v) := by
    have e1 : (R.T.set i ((R.T[i]).1, l)).map Prod.fst = R.T.map Prod.fst := by
      rw [List.map_set]
      apply List.ext_getElem
      · simp
      · intro j h1 h2
        rw [List.getElem_set]
        split
        · rename_i hij
          subst hij
          simp
        · rfl
    rw [e1]
    apply List.ext_getElem
    · simp
    · intro j h1 h2
      rw [List.getElem_set]
      by_cases hij : i = j
      · subst hij
        rw [if_pos rfl]
        simp
      · rw [if_neg hij]
        simp [List.getElem_set, hij]
  have hlt' : i * 33 + 32 < R.T.length * 33 := by
    have : (i + 1) * 33 ≤ R.T.length * 33 := Nat.mul_le_mul_right _ hi
    omega
  have htrow := own_putN h9.trow hlt' v
  rw [hset, hzs] at htrow
  have nb : ∀ {e size n : Nat} {u : Value} {xs : List Value} {base : Nat}, w9.ownsRow base e size u n xs → 132 ≠ e → (w9.setCell ⟨tb, i * 33 + 32, none⟩ v).ownsRow base e size u n xs := fun hr hne => row_keeps hr hk1 fun j hj e => rows_ne h9.trow hr hne tb hown (by rw [hj, e])
  have e1 := row_ne h9.trow h9.blk (by decide)
  have hlt : ∀ j, (O j ∨ v.ownBlock = some j) → j < (w9.setCell ⟨tb, i * 33 + 32, none⟩ v).heap.size := fun j hj => by
    rw [sz_set]
    rcases hj with hj | hj
    · exact h9.lt j hj
    · exact (hv.lt j hj).2
  refine ⟨⟨.inl h.og, hlt, fun hj => ?_, hk1.blk h9.blk (fun e => e1 (by rw [hown, e])), ?_, fun j hj => .inl (h9.torow j hj), by rw [List.length_set, List.length_set]; exact h9.vlen, fun k u m h1 h2 => ?_, nb h9.krow (by decide), fun j hj => .inl (h9.korow j hj), h9.kmap, fun x hx => ⟨(h9.dat x hx).1, nb (h9.dat x hx).2.1 (by decide), fun j hj => .inl ((h9.dat x hx).2.2 j hj)⟩, nb h9.arow (by decide), fun j hj => .inl (h9.aorow j hj)⟩, fun j hj => hj.imp (fun h => h) fun hj => (hv.lt j hj).1, hlt, (Keeps.of_ext hk).trans (Keeps.setCell _ _ _ fun hh => hh hOt)⟩
  · rcases hj with hj | hj
    · exact h.zero hj
    · have h1 := (hv.lt 0 hj).1
      have h2 := h.lt g h.og
      omega
  · show World.ownsRow _ 0 132 33 (.slice (some ⟨tb, 0, none⟩) R.T.length tc) (R.T.set i ((R.T[i]).1, l)).length ((((R.T.set i ((R.T[i]).1, l)).map Prod.fst).zip (vs.set i v)).flatMap tcell)
    rw [List.length_set]
    exact htrow
  · have h2' : ((R.T.map Prod.snd).set i l)[k]? = some m := by
      have e : (R.T.set i ((R.T[i]).1, l)).map Prod.snd = (R.T.map Prod.snd).set i l := by rw [List.map_set]
      rw [← e]
      exact h2
    by_cases hik : i = k
    · subst hik
      rw [List.getElem?_set_self hiv] at h1
      rw [List.getElem?_set_self (by rw [List.length_map]; exact hi)] at h2'
      obtain rfl := Option.some.inj h1
      obtain rfl := Option.some.inj h2'
      exact ⟨nb (own_mono hv (Nat.zero_le _)) (by decide), fun j hj => .inr hj⟩
    · rw [List.getElem?_set_ne hik] at h1 h2'
      exact ⟨nb (h9.rows k u m h1 h2').1 (by decide), fun j hj => .inl ((h9.rows k u m h1 h2').2 j hj)⟩
end
theorem wayR_len (R : RF) : ∀ (n : Nat) (l : List Bk) (id : List UInt8), (wayR R n l id).1.length ≤ l.length + n
  | 0, l, id => by unfold wayR; simp
  | n + 1, l, id => by
    unfold wayR
    split
    · simp
    · split
      · simp
      · split
        · simp
        · split
          · simp
          · refine Nat.le_trans (wayR_len R n _ _) ?_
            rw [List.length_append]
            show l.length + 1 + n ≤ _
            omega
theorem bksR_nil (w : World) : BksR w (.slice none 0 0) [] := bksR_own (xs := []) (World.ownsRow_nil w 0 _ _) (by simp)
section
variable {w : World} {O : Nat → Prop} {g : Nat} {R : RF} {tv kv av : Value} {vs : List Value} {ds : List (List UInt8 × Bk × Value)}
set_option maxHeartbeats 12800000 in
theorem rchain_any (h : RIn w O g R tv kv av vs ds) (hok : ROk R) :
    callE Tryz.prog 73 #[.pointer (some ⟨g, 0, none⟩)] w fun r w' => ∃ v, r = .tuple #[v, .int .i64 (chainR R).2] ∧ BksR w' v (chainR R).1 ∧ (chainR R).1.length ≤ 5000 ∧ Below w.heap.size w w' := by
  have htn := hok.tn
  have hkn := hok.kn
  obtain ⟨-, tA, tc, etv⟩ := own_sl h.trow
  refine calls_E Tryz.func73 rfl rfl rfl (Nat.le_of_ble_eq_true rfl) ?_
  simp [go_sem, IntWalk.iteOmega, IntWalk.toNatUp]
  refine callE_of (rdone_any h hok) ?_
  rintro _ w1 ⟨rfl, k1⟩
  by_cases hm : missR R = []
  case neg =>
    have hc : chainR R = ([], 7) := by unfold chainR; rw [if_pos hm]
    rw [hc]
    simp [go_sem, IntWalk.iteOmega, IntWalk.toNatUp, hm]
    exact ⟨bksR_nil _, k1⟩
  obtain ⟨L, hL⟩ : ∃ L, L = (R.T.foldl (bestStepR R) ([], zeroId)).1 := ⟨_, rfl⟩
  have hc : chainR R = (L.reverse, 0) := by unfold chainR; rw [if_neg (by simpa using hm), hL]
  rw [hc]
  simp [go_sem, IntWalk.iteOmega, IntWalk.toNatUp, hm]
  have kN := ext_alloc w1 (.cells zeroI.toArray 27)
  have hN : Blk (w1.alloc (.cells zeroI.toArray 27)) w1.heap.size 27 (bl zeroId).toArray := Blk.self_ rfl
  have hN0 : w.heap.size ≤ w1.heap.size := k1.size
  rw [← zeroI_lit]
  have k2 := k1.trans (kN.mono k1.size)
  generalize w1.alloc (.cells zeroI.toArray 27) = w2 at *
  clear kN
  refine W_loop (fun st wr => ∃ i p bv xs, i ≤ R.T.length ∧ st 0 = .pointer (some ⟨g, 0, none⟩) ∧ st 4 = bv ∧ st 5 = .pointer (some ⟨w1.heap.size, 0, none⟩) ∧ st 6 = .int .i64 i ∧ (R.T.take i).foldl (bestStepR R) ([], zeroId) = p ∧ p.2.length = 32 ∧ Blk wr w1.heap.size 27 (bl p.2).toArray ∧ wr.ownsRow w.heap.size 29 34 bv p.1.length (flat xs) ∧ xs.map Prod.fst = p.1 ∧ (∀ x ∈ xs, ∃ a, (a, x.1, x.2) ∈ ds) ∧ p.1.length ≤ 4100 ∧ Below w.heap.size w wr) (fun st _ => R.T.length - (intOf (st 6)).toNat) ?_ ?_
  · exact ⟨0, ([], zeroId), .slice none 0 0, [], by omega, by simp [go_sem], by simp [go_sem], by simp [go_sem], by simp [go_sem], rfl, by simp [zeroId], hN, World.ownsRow_nil _ _ _ _, rfl, by simp, by simp, k2⟩
  · rintro st wr ⟨i, p, bv, xs, hi, d0, d4, d5, d6, hfold, hp32, hNr, hbv, hxs, hxK, hpl, hB⟩
    clear hN k2 k1
    have hw := h.keep hB
    have c34 := hw.c34 hok
    rw [etv] at c34
    by_cases hlt : i < R.T.length
    · have hlt' : (i : Int) < R.T.length := by omega
      obtain ⟨tb, to_, tc', e, htb, tvi, hvi, hat⟩ := h.tid hok hlt
      rw [e] at etv
      injection etv with ev1 ev2 ev3
      subst ev1 ev3
      have hx : R.T[i]? = some R.T[i] := List.getElem?_eq_getElem hlt
      obtain ⟨ht1, ht2⟩ := hok.t _ (List.getElem_mem hlt)
      have hL1 := take_fold (bestStepR R) ([], zeroId) hlt
      rw [hfold] at hL1
      have hbs : bestStepR R p R.T[i] = if (endR R (R.T[i]).1).2.2 ≠ 1 ∨ (endR R (R.T[i]).1).1 = [] then p else if p.1 = [] ∨ hdH p.1 < hdH (endR R (R.T[i]).1).1 ∨ (hdH (endR R (R.T[i]).1).1 = hdH p.1 ∧ Lib.compareBytes (R.T[i]).1 p.2 < 0) then ((endR R (R.T[i]).1).1, (R.T[i]).1) else p := by
        unfold bestStepR
        congr
      rw [hbs] at hL1
      clear hbs
      have hwl := wayR_len R (R.K.length + 1) [] (R.T[i]).1
      obtain ⟨t, htt⟩ : ∃ t, t = (R.T[i]).1 := ⟨_, rfl⟩
      rw [← htt] at ht1 hL1 hat hwl
      clear hx htt ht2
      have r1 := (hat wr hB).1
      simp [go_sem, IntWalk.iteOmega, IntWalk.toNatUp, d0, d4, d5, d6, c34, hlt', hlt, r1]
      refine callE_of (rwayD_any hw hok ht1) ?_
      rintro _ w4 ⟨wv, rfl, ⟨ys, hys, hwr, hyK⟩, hat4, k4⟩
      have hend : endR R t = wayR R (R.K.length + 1) [] t := rfl
      rw [hend] at hL1
      have z2 : ∀ (k : Array Value) (t : TypeId), k.size = 32 → canWrite (w4.alloc (.cells k t)) ⟨w4.heap.size, 0, none⟩ 0 32 = true := fun k t hk => canWrite_all (Blk.self_ rfl) 32 hk
      have z3 : ∀ (k : Array Value) (t : TypeId) (l : List Value), k.size = 32 → l.length = 32 → storeSeg (w4.alloc (.cells k t)) ⟨w4.heap.size, 0, none⟩ 0 l = (w4.alloc (.cells k t)).setRow w4.heap.size l.toArray := fun k t l hk hl => storeSeg_all (Blk.self_ rfl) l (by omega)
      generalize (wayR R (R.K.length + 1) [] t).2.1 = la_ at *
      generalize (wayR R (R.K.length + 1) [] t).2.2 = how at *
      generalize (wayR R (R.K.length + 1) [] t).1 = wl at *
      have hwlen : wl.length ≤ 4100 := by simp at hwl; omega
      have lla : (bl la_).length = 32 := by rw [bl_length]; exact hat4
      have kC' : Below wr.heap.size wr ((w4.alloc (.cells zeroI.toArray 27)).setRow w4.heap.size (bl la_).toArray) := below_setRow (k4.alloc k4.size _) k4.size _
      have k45 : Below w4.heap.size w4 ((w4.alloc (.cells zeroI.toArray 27)).setRow w4.heap.size (bl la_).toArray) := below_setRow (ext_alloc w4 _) (Nat.le_refl _) _
      obtain ⟨-, qA, qc, rfl⟩ := own_sl hwr
      obtain ⟨-, bA, bc, rfl⟩ := own_sl hbv
      have hNC := hNr.keep kC'
      have hbvC := row_below hbv kC'
      have hBC := hB.trans (kC'.mono hB.size)
      have hwrC := row_below hwr k45
      have hFC := hw.keep kC'
      have hyK' : ∀ x ∈ ys, ∃ a, (a, x.1, x.2) ∈ ds := fun x hx => (hyK x hx).2.2.2
      clear hyK
      by_cases h1 : how = 1
      · subst h1
        by_cases h2 : wl = []
        · rw [if_pos (.inr h2)] at hL1
          have h2' : ((wl.length : Int) == 0) = true := by simp [h2]
          simp [go_sem, IntWalk.iteOmega, IntWalk.toNatUp, d0, d4, d5, d6, z2, z3, lla, bl_one, h2']
          rw [← zeroI_lit]
          refine roundEnd.mk ⟨i + 1, p, _, xs, by omega, by simp [go_sem, d0], by simp [go_sem, d4], by simp [go_sem, d5], by simp [go_sem], hL1, hp32, hNC, hbvC, hxs, hxK, hpl, hBC⟩ ?_
          simp [go_sem, intOf, d6]; omega
        · rw [if_neg (by rintro (h | h); exact h rfl; exact h2 h)] at hL1
          have h2' : ((wl.length : Int) == 0) = false := by simp [h2]
          simp [go_sem, IntWalk.iteOmega, IntWalk.toNatUp, d0, d4, d5, d6, z2, z3, lla, bl_one, h2']
          rw [← zeroI_lit]
          generalize (w4.alloc (.cells zeroI.toArray 27)).setRow w4.heap.size (bl la_).toArray = w5 at *
          have hwl0 : 0 < wl.length := List.length_pos_iff.2 h2
          obtain ⟨qb, qo, rfl, hqb, hqc⟩ := (Rd.of_own hwrC).cells (by omega)
          have hqok : ∀ x ∈ ys, BkOk x.1 ∧ RdB w5 x.2 x.1.data := fun x hx => by
            obtain ⟨y, hy⟩ := hyK' x hx
            exact ⟨(hFC.dat _ hy).1, own_rdB (hFC.dat _ hy).2.1⟩
          obtain ⟨qdv, qok, _, qcs⟩ := rd_block hys hqok hqc hwl0
          have hq32 : ∀ W, Below w5.heap.size w5 W → W.cell? ⟨qb, qo + 32, none⟩ = some (.int .i64 wl[0].height) := fun W hW => by
            have := qcs 32 _ (bkv_32 (dv := qdv) qok.len)
            rw [Nat.mul_zero, Nat.zero_add] at this
            exact (hW.cell (p := ⟨qb, qo + 32, none⟩) hqb).trans this
          have hwh : hdH wl = wl[0].height := by unfold hdH; rw [List.head?_eq_getElem?, List.getElem?_eq_getElem hwl0]; rfl
          have hFd := hBC.drew
          have c34d := (h.keep hFd).c34 hok
          rw [e] at c34d
          have hgl := (hFC.blk).lt
          have htbl : tb < w5.heap.size := Nat.lt_of_lt_of_le htb hBC.size
          have r7 := (hat w5.drew hFd).1
          refine W_cutE (fun s8 w8 => ∃ better : Bool, s8 0 = .pointer (some ⟨g, 0, none⟩) ∧ s8 4 = .slice bA p.1.length bc ∧ s8 5 = .pointer (some ⟨w1.heap.size, 0, none⟩) ∧ s8 6 = .int .i64 i ∧ s8 7 = .slice (some ⟨qb, qo, none⟩) wl.length qc ∧ s8 82 = .bool better ∧ (better = true ↔ (p.1 = [] ∨ hdH p.1 < hdH wl ∨ (hdH wl = hdH p.1 ∧ Lib.compareBytes t p.2 < 0))) ∧ Below w5.heap.size w5 w8) ?_ ?_
          · have kd := ext_drew w5
            have hr4 := held_refl (fun _ => True) w5.drew
            have hq32d := hq32 _ kd
            have hwl' : (0 : Int) < wl.length := by omega
            refine W_flow (fun _ => True) (.pure 0 (.pure 1 (.pure 2 (.pure 3 (.pure 4 (.pure 5 (.pure 6 (.pure 7 (.pure 8 (.pure 9 (.pure 10 (.pure 11 (.pure 12 (.pure 13 (.pure 14 (.pure 15 (.pure 16 (.pure 17 (.pure 18 (.pure 19 (.pure 20 (.pure 21 (.pure 22 (.pure 23 (.pure 24 (.pure 25 (.pure 26 (.pure 27 (.pure 28 (.pure 29 (.pure 30 (.pure 31 (.pure 32 (.pure 33 (.one 34 (.pure 35 (.pure 36 (.pure 37 (.done))))))))))))))))))))))))))))))))))))))) follows (by kernel_rfl) ?_
            by_cases hp0 : p.1 = []
            · have hp0' : ((p.1.length : Int) == 0) = true := by simp [hp0]
              simp [go_sem, IntWalk.iteOmega, IntWalk.toNatUp, d0, d4, d5, d6, hp0']
              refine atCut.mk ⟨true, by simp [go_sem, d0], by simp [go_sem, d4], by simp [go_sem, d5], by simp [go_sem, d6], by simp [go_sem], by simp [go_sem], ?_, kd⟩
              simp [hp0]
            · have hp0' : ((p.1.length : Int) == 0) = false := by simp [hp0]
              have hpp0 : 0 < p.1.length := List.length_pos_iff.2 hp0
              have hpp' : (0 : Int) < p.1.length := by omega
              obtain ⟨pb, po, eP, hpb, hpc⟩ := (Rd.of_own hbvC).cells (by omega)
              have hpok : ∀ x ∈ xs, BkOk x.1 ∧ RdB w5 x.2 x.1.data := fun x hx => by
                obtain ⟨y, hy⟩ := hxK x hx
                exact ⟨(hFC.dat _ hy).1, own_rdB (hFC.dat _ hy).2.1⟩
              obtain ⟨pdv, pok, _, pcs⟩ := rd_block hxs hpok hpc hpp0
              have hp32' : w5.drew.cell? ⟨pb, po + 32, none⟩ = some (.int .i64 p.1[0].height) := by
                have := pcs 32 _ (bkv_32 (dv := pdv) pok.len)
                rw [Nat.mul_zero, Nat.zero_add] at this
                exact this
              have hph : hdH p.1 = p.1[0].height := by unfold hdH; rw [List.head?_eq_getElem?, List.getElem?_eq_getElem hpp0]; rfl
              by_cases c1 : p.1[0].height < wl[0].height
              · simp [go_sem, IntWalk.iteOmega, IntWalk.toNatUp, d0, d4, d5, d6, hp0', hwl0, hwl', hpp0, hpp', eP, hr4, hqb, hpb, hq32d, hp32', c1]
                refine atCut.mk ⟨true, by simp [go_sem, d0], by simp [go_sem, d4, eP], by simp [go_sem, d5], by simp [go_sem, d6], by simp [go_sem], by simp [go_sem], ?_, kd⟩
                simp only [true_iff]
                exact .inr (.inl (by rw [hwh, hph]; exact c1))
              · by_cases c2 : wl[0].height = p.1[0].height
                · have c2' : (wl[0].height == p.1[0].height) = true := by simpa using c2
                  have r8 := readCells_all hNC.drew 32 (by rw [List.size_toArray, bl_length]; exact hp32)
                  have rl8 : w1.heap.size < w5.heap.size := hNC.lt
                  simp [go_sem, IntWalk.iteOmega, IntWalk.toNatUp, d0, d4, d5, d6, hp0', hwl0, hwl', hpp0, hpp', eP, hr4, hqb, hpb, hq32d, hp32', c1, c2', c2, r7, r8, rl8, c34d, hgl, htbl, hlt, hlt']
                  refine callE_of (refCompare_any t p.2 w5.drew ht1 hp32) ?_
                  rintro _ w6 ⟨rfl, k6⟩
                  have hr6 := hr4.below k6
                  simp [go_sem, IntWalk.iteOmega, IntWalk.toNatUp, d0, d4, d5, d6, hr6]
                  refine atCut.mk ⟨decide (Lib.compareBytes t p.2 < 0), by simp [go_sem, d0], by simp [go_sem, d4, eP], by simp [go_sem, d5], by simp [go_sem, d6], by simp [go_sem], by simp [go_sem], ?_, kd.trans (k6.mono kd.size)⟩
                  rw [decide_eq_true_iff, hwh, hph]
                  exact ⟨fun h => .inr (.inr ⟨c2, h⟩), fun h => by
                    rcases h with h | h | h
                    · exact absurd h hp0
                    · exact absurd h c1
                    · exact h.2⟩
                · have c2' : (wl[0].height == p.1[0].height) = false := by simpa using c2
                  simp [go_sem, IntWalk.iteOmega, IntWalk.toNatUp, d0, d4, d5, d6, hp0', hwl0, hwl', hpp0, hpp', eP, hr4, hqb, hpb, hq32d, hp32', c1, c2', c2]
                  refine atCut.mk ⟨false, by simp [go_sem, d0], by simp [go_sem, d4, eP], by simp [go_sem, d5], by simp [go_sem, d6], by simp [go_sem], by simp [go_sem], ?_, kd⟩
                  simp only [Bool.false_eq_true, false_iff]
                  rw [hwh, hph]
                  rintro (h | h | h)
                  · exact hp0 h
                  · exact c1 h
                  · exact c2 h.1
          · rintro s8 w8 ⟨better, f0, f4, f5, f6, f7, f82, hbet, k8⟩
            have kk8 : Below wr.heap.size wr w8 := kC'.trans (k8.mono kC'.size)
            have hB8 := hB.trans (kk8.mono hB.size)
            have hN8 := hNC.keep k8
            have hbv8 := row_below hbvC k8
            have hwr8 := own_mono (base' := w.heap.size) (row_below hwrC k8) hB.size
            cases better with
            | false =>
              rw [if_neg (fun h => by simpa using hbet.2 h)] at hL1
              simp [go_sem, IntWalk.iteOmega, IntWalk.toNatUp, f0, f4, f5, f6, f82]
              refine roundEnd.mk ⟨i + 1, p, _, xs, by omega, by simp [go_sem, f0], by simp [go_sem, f4], by simp [go_sem, f5], by simp [go_sem], hL1, hp32, hN8, hbv8, hxs, hxK, hpl, hB8⟩ ?_
              simp [go_sem, intOf, f6]; omega
            | true =>
              rw [if_pos (hbet.1 rfl)] at hL1
              have l1 : (bl t).length = 32 := by rw [bl_length]; exact ht1
              have c34e := (h.keep hB8).c34 hok
              rw [e] at c34e
              have r9 := (hat w8 hB8).1
              have c9 := canWrite_all hN8 32 (by rw [List.size_toArray, bl_length]; exact hp32)
              have s9 := storeSeg_all hN8 (bl t) (by rw [List.size_toArray, bl_length, bl_length, hp32, ht1])
              simp [go_sem, IntWalk.iteOmega, IntWalk.toNatUp, f0, f4, f5, f6, f7, f82, c34e, hlt, hlt', r9, c9, s9, l1, bl_one]
              have hwr10 := row_keeps (O := fun j => j ≠ w1.heap.size) (a := w8) hwr8 (Keeps.setRow w8 w1.heap.size (bl t).toArray (by simp)) (fun j hj e => row_ne hwr8 hN8 (by decide) (e ▸ hj))
              refine roundEnd.mk ⟨i + 1, (wl, t), .slice (some ⟨qb, qo, none⟩) wl.length qc, ys, by omega, by simp [go_sem, f0], by simp [go_sem], by simp [go_sem, f5], by simp [go_sem], hL1, ht1, Blk_setRow hN8, hwr10, hys, hyK', hwlen, below_setRow hB8 (by omega) _⟩ ?_
              simp [go_sem, intOf, f6]; omega
      · rw [if_pos (.inl h1)] at hL1
        have h1' : (how != 1) = true := by simpa using h1
        simp [go_sem, IntWalk.iteOmega, IntWalk.toNatUp, d0, d4, d5, d6, z2, z3, lla, bl_one, h1']
        rw [← zeroI_lit]
        refine roundEnd.mk ⟨i + 1, p, _, xs, by omega, by simp [go_sem, d0], by simp [go_sem, d4], by simp [go_sem, d5], by simp [go_sem], hL1, hp32, hNC, hbvC, hxs, hxK, hpl, hBC⟩ ?_
        simp [go_sem, intOf, d6]; omega
    · obtain rfl : i = R.T.length := by omega
      have hlt' : ¬ (R.T.length : Int) < R.T.length := by omega
      rw [List.take_of_length_le (Nat.le_refl _)] at hfold
      rw [hfold] at hL
      subst hL
      obtain ⟨-, bA, bc, rfl⟩ := own_sl hbv
      have hlx : xs.length = p.1.length := by rw [← hxs, List.length_map]
      have hE : IntKind.i64.wrap ((p.1.length : Int) - 1) = (p.1.length : Int) - 1 := by rw [wrap_i64_if, if_pos (by omega)]
      simp [go_sem, IntWalk.iteOmega, IntWalk.toNatUp, d0, d4, d5, d6, c34, hlt', hE]
      have hxd : ∀ x ∈ xs, BkOk x.1 ∧ RdB w x.2 x.1.data := fun x hx => by
        obtain ⟨y, hy⟩ := hxK x hx
        exact ⟨(h.dat _ hy).1, own_rdB (h.dat _ hy).2.1⟩
      clear hw c34 hfold hNr hp32 hxK hE etv
      refine W_loop (fun st w9 => ∃ (j q : Nat) (ov : Value), q + j = p.1.length ∧ st 4 = .slice bA p.1.length bc ∧ st 10 = ov ∧ st 11 = .int .i64 ((j : Int) - 1) ∧ w9.ownsRow wr.heap.size 29 34 ov q (flat (xs.reverse.take q)) ∧ Below wr.heap.size wr w9) (fun st _ => (intOf (st 11) + 1).toNat) ?_ ?_
      · exact ⟨p.1.length, 0, .slice none 0 0, by omega, by simp [go_sem, d4], by simp [go_sem], by simp [go_sem], World.ownsRow_nil _ _ _ _, Below.refl _ _⟩
      · clear d0 d4 d5 d6
        rintro s9 w9 ⟨j, q, ov, hj, f4, f10, f11, hov, hB9⟩
        obtain ⟨-, oA, oc, rfl⟩ := own_sl hov
        have hB09 := hB.trans (hB9.mono hB.size)
        rcases Nat.eq_zero_or_pos j with rfl | hj0
        · rw [List.take_of_length_le (by rw [List.length_reverse]; omega)] at hov
          have hql : q = xs.reverse.length := by rw [List.length_reverse]; omega
          have hr := fun v => bksR_own (w := w9) (base := wr.heap.size) (v := v) (xs := xs.reverse)
          have hr2 : BksR w9 (.slice oA q oc) p.1.reverse := by
            rw [← hxs, ← List.map_reverse]
            rw [hql] at hov ⊢
            exact bksR_own hov fun x hx => ⟨(hxd x (List.mem_reverse.1 hx)).1, (hxd x (List.mem_reverse.1 hx)).2.keep hB09⟩
          simp [go_sem, IntWalk.iteOmega, IntWalk.toNatUp, f4, f10, f11]
          exact ⟨hr2, by omega, hB09⟩
        · obtain ⟨m, rfl⟩ : ∃ m, j = m + 1 := ⟨j - 1, by omega⟩
          have hm1 : ((m + 1 : Nat) : Int) - 1 = (m : Int) := by omega
          rw [hm1] at f11
          have hml : m < p.1.length := by omega
          have hmI : (m : Int) < p.1.length := by omega
          have hm0 : (0 : Int) ≤ (m : Int) := by omega
          have hm2 : ¬ (m : Int) < 0 := by omega
          have hbv9 := row_below hbv hB9
          obtain ⟨qb, qo, rfl, hqb, hqc⟩ := (Rd.of_own hbv9).cells (by omega)
          obtain ⟨qdv, qx⟩ := map_at hxs hml
          have hmx : m < xs.length := by omega
          have hxe : xs[m] = (p.1[m], qdv) := by
            rw [List.getElem?_eq_getElem hmx] at qx
            exact Option.some.inj qx
          have hqo := hxd _ (List.getElem_mem hmx)
          rw [hxe] at hqo
          have l34 : (bkv p.1[m] qdv).length = 34 := bkv_len hqo.1.len
          have rb : readCells w9 ⟨qb, qo + m * 34, none⟩ 0 34 = some (bkv p.1[m] qdv) := readCells_cells 34 0 _ l34 fun j v hj => by
            rw [show qo + m * 34 + 0 + j = qo + (34 * m + j) by omega]
            exact hqc _ _ (flat_at xs (fun x hx => (hxd x hx).1.len) m _ qx j v hj)
          have htk : xs.reverse.take (q + 1) = xs.reverse.take q ++ [(p.1[m], qdv)] := by
            have h1 : q < xs.reverse.length := by rw [List.length_reverse]; omega
            rw [take_snoc' h1, List.getElem_reverse]
            congr 2
            rw [← hxe]
            congr 1
            omega
          have hE : IntKind.i64.wrap ((m : Int) - 1) = (m : Int) - 1 := by rw [wrap_i64_if, if_pos (by omega)]
          obtain ⟨bm, hbm⟩ : ∃ bm, bm = p.1[m] := ⟨_, rfl⟩
          rw [← hbm] at l34 rb htk hqo
          simp [go_sem, IntWalk.iteOmega, IntWalk.toNatUp, f4, f10, f11, hml, hmI, hm0, hm2, rb, l34]
          rw [fold_bk (bkv bm qdv) l34]
          have kC := ext_alloc w9 (.cells (bkv bm qdv).toArray 29)
          have hC : Blk (w9.alloc (.cells (bkv bm qdv).toArray 29)) w9.heap.size 29 (bkv bm qdv).toArray := Blk.self_ rfl
          have hov5 := row_below hov kC
          have hB5 := hB9.trans (kC.mono hB9.size)
          generalize w9.alloc (.cells (bkv bm qdv).toArray 29) = w5 at *
          have hrb : Rd w5 34 (some ⟨w9.heap.size, 0, none⟩) 1 (flat [(bm, qdv)]) := by
            have := rd_one hC l34
            simpa [flat] using this
          have h1b := flat_one (w := w) (xs := [(bm, qdv)]) fun x hx => by
            obtain rfl : x = (bm, qdv) := by simpa using hx
            exact hqo.2
          have hq50 : q ≤ 5000 := by omega
          refine appendE wr.heap.size 29 34 64 Tryz.underlying24 el29 hov5 hrb h1b (by unfold maxLen; omega) (by omega) hB5.size ?_
          intro v' w6 hr6 hg6 hb6
          have hB6 := hB5.grown hg6 hB5.size fun j hj => (hov5.lt j hj).1
          rw [← flat_app, ← htk] at hr6
          simp [go_sem, IntWalk.iteOmega, IntWalk.toNatUp, f4, f11, hE]
          refine roundEnd.mk ⟨m, q + 1, v', by omega, by simp [go_sem, f4], by simp [go_sem], by simp [go_sem], hr6, hB6⟩ ?_
          simp [go_sem, intOf, f11]
end
end Go.Proofs.YtdjcjjodbniebaaGreatDoor
