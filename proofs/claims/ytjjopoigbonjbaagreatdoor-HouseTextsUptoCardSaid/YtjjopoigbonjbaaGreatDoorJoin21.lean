/-
  Texts joined: ExD4.
-/
import Derived.Test.YtjjopoigbonjbaaGreatDoorJoin20
namespace Go.Proofs.YtjjopoigbonjbaaGreatDoor.Ex
open Go Go.RowKit
set_option linter.unusedVariables false
set_option linter.unusedSimpArgs false
section
variable {C : Ctx} {callF : CallF} {n : Nat} {ops : List Oper}
theorem Fx.congr {S0 SF : Sl} {H Bs H' Bs' : Nat → St} {K : Nat} {x : PS} {lo : Nat} {v : Value} {nm : Nat} (h : Fx C callF n ops S0 SF H Bs K x lo v nm) (hH : ∀ j, lo ≤ j → H' j = H j) (h1 : Bs' (lo + 1) = Bs (lo + 1)) (h0 : HE (Bs' lo) (Bs lo)) : Fx C callF n ops S0 SF H' Bs' K x lo v nm := by
  refine ⟨h.dst, fun hw => ⟨(h.skip hw).1, fun hl => by rw [h1, hH lo (Nat.le_refl _)]; exact (h.skip hw).2 hl⟩, fun hw hc k h1 h2 h3 => by rw [hH k h1]; exact h.still hw hc k h1 h2 h3, fun hw hc => ?_, fun hw hc => by rw [hH lo (Nat.le_refl _), h1]; exact h.loud hw hc⟩
  obtain ⟨c, mk, S, a1, a2, a3, a4, a5⟩ := h.alloc hw hc
  refine ⟨c, mk, S, a1, a2, a3, ?_, fun k h1 h2 h3 => by rw [hH k h1]; exact a5 k h1 h2 h3⟩
  cases hg : (Bs' lo).heap.get nm with
  | none => rfl
  | some u => have := h0 _ _ hg; rw [a4] at this; cases this
structure DF (C : Ctx) (callF : CallF) (n : Nat) (ops : List Oper) (pl : List PS) (S0 s s' : Sl) (st st' : St) (k : Nat) (pend : List Pend) (H Bs : Nat → St) (v : Nat → Value) (nm : Nat → Nat) : Prop where
  last : H (k + louds pl) = st'
  first : Bs k = st
  ge : ∀ j, k ≤ j → j ≤ k + louds pl → GE (Bs j) (H j)
  fx : ∀ x ∈ pl, Fx C callF n ops S0 s' H Bs (k + louds pl) x (loF pl k x.i) (v x.i) (nm x.i)
  far : ∀ t, (∀ x ∈ pl, x.o.dst ≠ some t) → s'.get t = s.get t
  held : ∀ q ∈ pend, ∀ j, k ≤ j → j ≤ q.hi → j ≤ k + louds pl → PNow C s' (H j) q
  new : ∀ x ∈ pl, AW ops s' x → loF pl k x.i = k → st.heap.get (nm x.i) = none
  unlike : ∀ x ∈ pl, AW ops s' x → ∀ h b c, Pend.obj h b c ∈ pend → loF pl k x.i ≤ h → nm x.i ≠ b
  two : ∀ x ∈ pl, ∀ y ∈ pl, AW ops s' x → AW ops s' y → x.i ≠ y.i → loF pl k x.i ≤ y.hi → loF pl k y.i ≤ x.hi → nm x.i ≠ nm y.i
theorem louds_cons (p : PS) (l : List PS) : louds (p :: l) = louds l + cond (loudB p.ins) 1 0 := by
  simp only [louds, List.countP_cons]
  cases loudB p.ins <;> simp
theorem far_cons {p : PS} {l : List PS} {s s1 s' : Sl} {u : Value} (hp : putA n s p.o.dst u = some s1) (h : ∀ t, (∀ x ∈ l, x.o.dst ≠ some t) → s'.get t = s1.get t) : ∀ t, (∀ x ∈ p :: l, x.o.dst ≠ some t) → s'.get t = s.get t := fun t ht => by
  rw [h t fun x hx => ht x (List.mem_cons_of_mem _ hx), (putA_get hp).1 t (ht p List.mem_cons_self)]
theorem DF.quiet {p : PS} {l : List PS} {S0 s s1 s' : Sl} {st st1 st' : St} {k : Nat} {pend pend1 : List Pend} {H Bs : Nat → St} {v : Nat → Value} {nm : Nat → Nat} {u : Value} {np : Nat} (h : DF C callF n ops l S0 s1 s' st1 st' k pend1 H Bs v nm)
    (hb : loudB p.ins = false) (hR : Rowed ops (p :: l)) (hp : putA n s p.o.dst u = some s1) (hge : GE st st1) (hpe : ∀ q ∈ pend, q ∈ pend1) (hpn : ∀ q ∈ pend, PNow C s st q)
    (hf : Fx C callF n ops S0 s' H (fun j => if j = k then st else Bs j) (k + louds l) p k u np) (hn : AW ops s' p → st.heap.get np = none) (h2 : AW ops s' p → ∀ y ∈ l, AW ops s' y → loF l k y.i ≤ p.hi → nm y.i ≠ np) :
    DF C callF n ops (p :: l) S0 s s' st st' k pend H (fun j => if j = k then st else Bs j) (fun i => if i = p.i then u else v i) (fun i => if i = p.i then np else nm i) := by
  obtain ⟨r1, r2, r3, r4⟩ := hR
  have hl : louds (p :: l) = louds l := by rw [louds_cons, hb]; rfl
  have hlo : ∀ x ∈ l, loF (p :: l) k x.i = loF l k x.i := fun x hx => by rw [loF_ne (r3 x hx), hb]; rfl
  have hv : ∀ x ∈ l, (if x.i = p.i then u else v x.i) = v x.i := fun x hx => if_neg (r3 x hx)
  have hm : ∀ x ∈ l, (if x.i = p.i then np else nm x.i) = nm x.i := fun x hx => if_neg (r3 x hx)
  have hnone : ∀ b, st1.heap.get b = none → st.heap.get b = none := fun b hb => by
    cases hg : st.heap.get b with
    | none => rfl
    | some c => have := hge.he _ _ hg; rw [hb] at this; cases this
  refine ⟨by rw [hl]; exact h.last, if_pos rfl, fun j h1 h2 => ?_, fun x hx => ?_, far_cons hp h.far, fun q hq j h1 h2 h3 => h.held q (hpe q hq) j h1 h2 (by rwa [hl] at h3), fun x hx ha hk => ?_, fun x hx ha hh b c hq hk => ?_, fun x hx y hy hax hay hne h3 h4 => ?_⟩
  · skip
    rw [hl] at h2
    split
    · rename_i e1
      subst e1
      have := h.ge j h1 h2
      rw [h.first] at this
      exact hge.trans this
    · exact h.ge j h1 h2
  · rw [hl]
    rcases List.mem_cons.1 hx with rfl | hx
    · simp only [if_true, loF_eq]; exact hf
    · skip
      rw [hlo x hx, hv x hx, hm x hx]
      have := loF_le l k x.i
      refine (h.fx x hx).congr (fun j _ => rfl) (by rw [if_neg (by omega)]) ?_
      split
      · rename_i e1; rw [e1, h.first]; exact hge.he
      · exact HE.refl _
  · rcases List.mem_cons.1 hx with rfl | hx
    · simp only [if_true]; exact hn ha
    · skip
      rw [hm x hx]
      rw [hlo x hx] at hk
      exact hnone _ (h.new x hx ha hk)
  · rcases List.mem_cons.1 hx with rfl | hx
    · simp only [if_true]
      intro e1
      have := hpn _ hq
      have h9 := hn ha
      rw [e1] at h9
      rw [show st.heap.get b = some c from this] at h9
      cases h9
    · skip
      rw [hm x hx]
      rw [hlo x hx] at hk
      exact h.unlike x hx ha hh b c (hpe _ hq) hk
  · rcases List.mem_cons.1 hx with rfl | hx1 <;> rcases List.mem_cons.1 hy with rfl | hy1
    · exact absurd rfl hne
    · simp only [if_true]
      rw [hm y hy1]
      rw [hlo y hy1] at h4
      exact fun e1 => h2 hax y hy1 hay h4 e1.symm
    · simp only [if_true]
      rw [hm x hx1]
      rw [hlo x hx1] at h3
      exact h2 hay x hx1 hax h3
    · skip
      rw [hm x hx1, hm y hy1]
      rw [hlo x hx1] at h3
      rw [hlo y hy1] at h4
      exact h.two x hx1 y hy1 hax hay hne h3 h4
theorem DF.loud {p : PS} {l : List PS} {S0 s s1 s' : Sl} {st st1 st' : St} {k : Nat} {pend pend1 : List Pend} {H Bs : Nat → St} {v : Nat → Value} {nm : Nat → Nat} {u : Value} (h : DF C callF n ops l S0 s1 s' st1 st' (k + 1) pend1 H Bs v nm)
    (hb : loudB p.ins = true) (hR : Rowed ops (p :: l)) (hp : putA n s p.o.dst u = some s1) (hpe : ∀ q ∈ pend, k + 1 ≤ q.hi → q ∈ pend1) (hpn : ∀ q ∈ pend, PNow C s st q) (hpo : ∀ q ∈ pend, POk ops (p :: l) q) (hna : insCls p.ins ≠ .alloc ∨ wantedA ops s' p.o.guard = false)
    (hf : Fx C callF n ops S0 s' (fun j => if j ≤ k then st else H j) (fun j => if j ≤ k then st else Bs j) (k + 1 + louds l) p k u 0) :
    DF C callF n ops (p :: l) S0 s s' st st' k pend (fun j => if j ≤ k then st else H j) (fun j => if j ≤ k then st else Bs j) (fun i => if i = p.i then u else v i) nm := by
  obtain ⟨r1, r2, r3, r4⟩ := hR
  have hl : k + louds (p :: l) = k + 1 + louds l := by rw [louds_cons, hb]; simp only [cond_true]; omega
  have hlo : ∀ x ∈ l, loF (p :: l) k x.i = loF l (k + 1) x.i := fun x hx => by rw [loF_ne (r3 x hx), hb]; rfl
  have hle : ∀ x ∈ l, k + 1 ≤ loF l (k + 1) x.i := fun x _ => loF_le _ _ _
  have hv : ∀ x ∈ l, (if x.i = p.i then u else v x.i) = v x.i := fun x hx => if_neg (r3 x hx)
  have hnot : ¬ AW ops s' p := fun ha => by
    rcases hna with h1 | h1
    · exact h1 ha.1
    · have := ha.2; rw [h1] at this; cases this
  have far := far_cons hp h.far
  refine ⟨by simp only [hl]; rw [if_neg (by omega)]; exact h.last, if_pos (Nat.le_refl _), fun j h1 h2 => ?_, fun x hx => ?_, far, fun q hq j h1 h2 h3 => ?_, fun x hx ha hk => ?_, fun x hx ha hh b c hq hk => ?_, fun x hx y hy hax hay hne h3 h4 => ?_⟩
  · skip
    split
    · exact .refl _
    · rw [hl] at h2; exact h.ge j (by omega) h2
  · rw [hl]
    rcases List.mem_cons.1 hx with rfl | hx
    · simp only [if_true, loF_eq]
      refine ⟨hf.dst, hf.skip, hf.still, fun hw hc => absurd ⟨hc, hw⟩ hnot, hf.loud⟩
    · skip
      rw [hlo x hx, hv x hx]
      have := hle x hx
      refine (h.fx x hx).congr (fun j hj => if_neg (by omega)) (by rw [if_neg (by omega)]) ?_
      rw [if_neg (by omega)]
      exact HE.refl _
  · skip
    split
    · exact (hpn q hq).to (hpo q hq) far
    · rw [hl] at h3; exact h.held q (hpe q hq (by omega)) j (by omega) h2 h3
  · rcases List.mem_cons.1 hx with rfl | hx
    · exact absurd ha hnot
    · rw [hlo x hx] at hk
      have := hle x hx
      omega
  · rcases List.mem_cons.1 hx with rfl | hx
    · exact absurd ha hnot
    · rw [hlo x hx] at hk
      have := hle x hx
      exact h.unlike x hx ha hh b c (hpe _ hq (by show k + 1 ≤ hh; omega)) hk
  · rcases List.mem_cons.1 hx with rfl | hx1 <;> rcases List.mem_cons.1 hy with rfl | hy1
    · exact absurd hax hnot
    · exact absurd hax hnot
    · exact absurd hay hnot
    · rw [hlo x hx1] at h3
      rw [hlo y hy1] at h4
      exact h.two x hx1 y hy1 hax hay hne h3 h4
theorem draw_facts {S0 s' : Sl} {st' : St} : ∀ (pl : List PS) (s : Sl) (st : St) (k : Nat) (pend : List Pend), drawA C callF n ops pl s st k pend = some (s', st') → Rowed ops pl → (∀ q ∈ pend, POk ops pl q) → (∀ q ∈ pend, PNow C s st q) → (∀ x ∈ pl, ∀ t, x.o.dst = some t → s.get t = S0.get t) →
    ∃ H Bs v nm, DF C callF n ops pl S0 s s' st st' k pend H Bs v nm
  | [], s, st, k, pend, h, hR, hpo, hpn, hs0 => by
    cases h
    exact ⟨fun _ => st', fun _ => st', fun _ => undefA, fun _ => 0, rfl, rfl, fun j _ _ => .refl _, fun x hx => (by cases hx), fun t _ => rfl, fun q hq j _ _ _ => hpn q hq, fun x hx => (by cases hx), fun x hx => (by cases hx), fun x hx => (by cases hx)⟩
  | p :: l, s, st, k, pend, h, hR, hpo, hpn, hs0 => by
    have hR' := hR
    obtain ⟨r1, r2, r3, r4⟩ := hR'
    have tl : ∀ q ∈ pend, POk ops l q := fun q hq => (hpo q hq).tail
    have hs1 : ∀ {u : Value} {s1 : Sl}, putA n s p.o.dst u = some s1 → ∀ x ∈ l, ∀ t, x.o.dst = some t → s1.get t = S0.get t := fun hp x hx t ht => by
      rw [(putA_get hp).1 t fun e1 => r2 t e1 x hx ht]
      exact hs0 x (List.mem_cons_of_mem _ hx) t ht
    have hsame : ∀ {s2 : Sl}, (∀ t, (∀ x ∈ p :: l, x.o.dst ≠ some t) → s2.get t = s.get t) → wantedA ops s2 p.o.guard = wantedA ops s p.o.guard := fun far => by
      rcases r1 with r1 | r1
      · exact wanted_same r1.1 far
      · rw [r1.1]; rfl
    have hago : ∀ {s2 : Sl}, (∀ t, (∀ x ∈ p :: l, x.o.dst ≠ some t) → s2.get t = s.get t) → AgrO ops S0 s s2 p := fun far => by
      rcases r1 with r1 | ⟨_, t, z, e1, e2, e3, e4, e5, e6⟩
      · exact .inl ⟨(Agr.refl s p.o).to r1.1 far, r1.2⟩
      · exact .inr ⟨t, z.i, z.o, e1, e5, e4, e6, hs0 z (List.mem_cons_of_mem _ e3) t e4⟩
    cases drawA_cons h with
    | skip s1 hw hp h1 =>
      have hn1 : ∀ q ∈ pend, PNow C s1 st q := fun q hq => POk.put (hpn q hq) (hpo q hq) hp
      obtain ⟨H, Bs, v, nm, hD⟩ := draw_facts l s1 st _ pend h1 r4 tl hn1 (hs1 hp)
      have far := far_cons hp hD.far
      have hws : wantedA ops s' p.o.guard = false := by rw [hsame far]; exact hw
      have hdst : ∀ d, p.o.dst = some d → s'.get d = some undefA ∧ d < n := fun d hd => by rw [hD.far d fun x hx => r2 d hd x hx]; exact (putA_get hp).2 d hd
      cases hb : loudB p.ins with
      | true =>
        rw [hb] at hD
        simp only [cond_true] at hD
        refine ⟨_, _, _, _, hD.loud (u := undefA) hb hR hp (fun q hq _ => hq) hpn hpo (.inr hws) ⟨hdst, fun _ => ⟨rfl, fun _ => ?_⟩, fun hw2 => ?_, fun hw2 => ?_, fun hw2 => ?_⟩⟩
        · simp only [Nat.le_refl, if_true]
          rw [if_neg (by omega)]
          exact hD.first
        all_goals (rw [hws] at hw2; cases hw2)
      | false =>
        rw [hb] at hD
        simp only [cond_false] at hD
        refine ⟨_, _, _, _, hD.quiet (u := undefA) (np := 0) hb hR hp (.refl _) (fun q hq => hq) hpn ⟨hdst, fun _ => ⟨rfl, fun hl => ?_⟩, fun hw2 => ?_, fun hw2 => ?_, fun hw2 => ?_⟩ (fun ha => ?_) (fun ha => ?_)⟩
        · rw [hb] at hl; cases hl
        iterate 3 (rw [hws] at hw2; cases hw2)
        all_goals (have := ha.2; rw [hws] at this; cases this)
    | still u s1 pend1 hw hc hi hp h0 h1 =>
      have hb : loudB p.ins = false := loudB_not (by rw [hc]; intro h; cases h)
      have hsub : ∀ q ∈ pend, q ∈ pend1 := by
        rcases h0 with ⟨rfl, _⟩ | ⟨rfl, _⟩
        · exact fun q hq => List.mem_cons_of_mem _ hq
        · exact fun q hq => hq
      have hmem : ∀ q ∈ pend1, (q = .val p u ∧ blind p.ins = false) ∨ q ∈ pend := by
        rcases h0 with ⟨rfl, hbl⟩ | ⟨rfl, _⟩
        · exact fun q hq => (List.mem_cons.1 hq).imp (fun h => ⟨h, hbl⟩) id
        · exact fun q hq => .inr hq
      have hapt : blind p.ins = false → Apart ops (p :: l) p.o := fun hbl => by
        rcases r1 with r1 | ⟨_, t, z, e1, e2, _⟩
        · exact r1.1
        · rw [e2] at hbl; cases hbl
      have hag : blind p.ins = false → Agr s s1 p.o := fun hbl => (Agr.refl s p.o).to (pl := [p]) (fun x hx => hapt hbl x (by simp at hx; rw [hx]; exact List.mem_cons_self)) fun t ht => (putA_get hp).1 t (ht p List.mem_cons_self)
      have hn1 : ∀ q ∈ pend1, PNow C s1 st q := fun q hq => by
        rcases hmem q hq with ⟨rfl, hbl⟩ | hq
        · exact ⟨s, hag hbl, hi⟩
        · exact POk.put (hpn q hq) (hpo q hq) hp
      have ho1 : ∀ q ∈ pend1, POk ops l q := fun q hq => by
        rcases hmem q hq with ⟨rfl, hbl⟩ | hq
        · exact fun x hx => hapt hbl x (List.mem_cons_of_mem _ hx)
        · exact tl q hq
      obtain ⟨H, Bs, v, nm, hD⟩ := draw_facts l s1 st k pend1 h1 r4 ho1 hn1 (hs1 hp)
      have far := far_cons hp hD.far
      have hws : wantedA ops s' p.o.guard = true := by rw [hsame far]; exact hw
      have hdst : ∀ d, p.o.dst = some d → s'.get d = some u ∧ d < n := fun d hd => by rw [hD.far d fun x hx => r2 d hd x hx]; exact (putA_get hp).2 d hd
      have hag2 := hago far
      have hgk : GE st (H k) := by have := hD.ge k (Nat.le_refl _) (by omega); rwa [hD.first] at this
      refine ⟨_, _, _, _, hD.quiet (u := u) (np := 0) hb hR hp (.refl _) hsub hpn ⟨hdst, fun hw2 => ?_, fun _ _ j h2 h3 h4 => ?_, fun _ hc2 => ?_, fun _ hc2 => ?_⟩ (fun ha => ?_) (fun ha => ?_)⟩
      · rw [hws] at hw2; cases hw2
      · rcases h0 with ⟨rfl, hbl⟩ | ⟨rfl, h0⟩
        · rcases r1 with r1 | ⟨_, t, z, e1, e2, _⟩
          · obtain ⟨S, g1, g2⟩ := hD.held _ List.mem_cons_self j h2 h3 h4
            exact ⟨S, .inl ⟨g1, r1.2⟩, g2⟩
          · rw [e2] at hbl; cases hbl
        · rcases h0 with h0 | h0
          · have : j = k := by omega
            subst this
            exact ⟨s, hag2, insS_grow hgk.he hi⟩
          · exact ⟨s, hag2, by rw [blind_same h0 (H j) st]; exact hi⟩
      · rw [hc] at hc2; cases hc2
      · rw [hc] at hc2; cases hc2
      all_goals (have := ha.1; rw [hc] at this; cases this)
    | alloc c mk s1 pend1 hw hc hi hno hp h0 h1 =>
      have hb : loudB p.ins = false := loudB_not (by rw [hc]; intro h; cases h)
      have hsub : ∀ q ∈ pend, q ∈ pend1 := by
        rcases h0 with rfl | ⟨rfl, _⟩
        · exact fun q hq => List.mem_cons_of_mem _ hq
        · exact fun q hq => hq
      have hmem : ∀ q ∈ pend1, q = .obj p.hi st.next c ∨ q ∈ pend := by
        rcases h0 with rfl | ⟨rfl, _⟩
        · exact fun q hq => List.mem_cons.1 hq
        · exact fun q hq => .inr hq
      have hself : (st.new c).heap.get st.next = some c := by simp [St.new, get_set]
      have hE := HE.new c hno
      have hn1 : ∀ q ∈ pend1, PNow C s1 (st.new c) q := fun q hq => by
        rcases hmem q hq with rfl | hq
        · exact hself
        · exact (POk.put (hpn q hq) (hpo q hq) hp).grow hE
      have ho1 : ∀ q ∈ pend1, POk ops l q := fun q hq => by
        rcases hmem q hq with rfl | hq
        · trivial
        · exact tl q hq
      obtain ⟨H, Bs, v, nm, hD⟩ := draw_facts l s1 (st.new c) k pend1 h1 r4 ho1 hn1 (hs1 hp)
      have far := far_cons hp hD.far
      have hws : wantedA ops s' p.o.guard = true := by rw [hsame far]; exact hw
      have hdst : ∀ d, p.o.dst = some d → s'.get d = some (mk st.next) ∧ d < n := fun d hd => by rw [hD.far d fun x hx => r2 d hd x hx]; exact (putA_get hp).2 d hd
      have hag2 := hago far
      have hgk : GE (st.new c) (H k) := by have := hD.ge k (Nat.le_refl _) (by omega); rwa [hD.first] at this
      refine ⟨_, _, _, _, hD.quiet (u := mk st.next) (np := st.next) hb hR hp (.new c hno (.refl _)) hsub hpn ⟨hdst, fun hw2 => ?_, fun _ hc2 => ?_, fun _ _ => ⟨c, mk, s, hag2, hi, rfl, ?_, fun j h2 h3 h4 => ?_⟩, fun _ hc2 => ?_⟩ (fun ha => hno) (fun ha y hy hay hly e1 => ?_)⟩
      · rw [hws] at hw2; cases hw2
      · rw [hc] at hc2; cases hc2
      · rw [if_pos rfl]; exact hno
      · rcases h0 with rfl | ⟨rfl, h0⟩
        · exact hD.held _ List.mem_cons_self j h2 h3 h4
        · have : j = k := by omega
          subst this
          exact hgk.he _ _ hself
      · rw [hc] at hc2; cases hc2
      · have hly2 := loF_le l k y.i
        by_cases hk : loF l k y.i = k
        · have := hD.new y hy hay hk
          rw [e1, hself] at this
          cases this
        · rcases h0 with rfl | ⟨rfl, h0⟩
          · exact hD.unlike y hy hay p.hi st.next c List.mem_cons_self hly e1
          · omega
    | loud u st1 s1 hw hc hi hp hq h1 =>
      have hb : loudB p.ins = true := loudB_cls hc
      have hmem : ∀ q ∈ pend.filter (fun q => Nat.ble (k + 1) q.hi), q ∈ pend ∧ k + 1 ≤ q.hi := fun q hq => by
        obtain ⟨h2, h3⟩ := List.mem_filter.1 hq
        exact ⟨h2, Nat.le_of_ble_eq_true h3⟩
      obtain ⟨H, Bs, v, nm, hD⟩ := draw_facts l s1 st1 (k + 1) _ h1 r4 (fun q hq2 => tl q (hmem q hq2).1) (fun q hq2 => PNow.ok (hq q (hmem q hq2).1 (hmem q hq2).2)) (hs1 hp)
      have far := far_cons hp hD.far
      have hws : wantedA ops s' p.o.guard = true := by rw [hsame far]; exact hw
      have hdst : ∀ d, p.o.dst = some d → s'.get d = some u ∧ d < n := fun d hd => by rw [hD.far d fun x hx => r2 d hd x hx]; exact (putA_get hp).2 d hd
      have hag2 := hago far
      refine ⟨_, _, _, _, hD.loud (u := u) hb hR hp (fun q hq2 h2 => List.mem_filter.2 ⟨hq2, Nat.ble_eq_true_of_le h2⟩) hpn hpo (.inl (by rw [hc]; intro h; cases h)) ⟨hdst, fun hw2 => ?_, fun _ hc2 => ?_, fun _ hc2 => ?_, fun _ _ => ⟨s, hag2, ?_⟩⟩⟩
      · rw [hws] at hw2; cases hw2
      · rw [hc] at hc2; cases hc2
      · rw [hc] at hc2; cases hc2
      · simp only [Nat.le_refl, if_true]
        rw [if_neg (by omega), hD.first]
        exact hi
end
end Go.Proofs.YtjjopoigbonjbaaGreatDoor.Ex
