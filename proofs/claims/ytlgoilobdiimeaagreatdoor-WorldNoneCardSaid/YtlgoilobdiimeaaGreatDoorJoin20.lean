/-
  Texts joined: ExD4, ExD5.
-/
import Derived.Test.YtlgoilobdiimeaaGreatDoorJoin19
namespace Go.Proofs.YtlgoilobdiimeaaGreatDoor.Ex
open Go Go.RowKit
set_option linter.unusedVariables false
set_option linter.unusedSimpArgs false
section
variable {C : Ctx} {callF : CallF} {n : Nat} {ops : List Oper}
theorem Fx.congr {SF : Sl} {H Bs H' Bs' : Nat → St} {K : Nat} {x : PS} {lo : Nat} {v : Value} {nm : Nat} (h : Fx C callF n ops SF H Bs K x lo v nm) (hH : ∀ j, lo ≤ j → H' j = H j) (h1 : Bs' (lo + 1) = Bs (lo + 1)) (h0 : HE (Bs' lo) (Bs lo)) : Fx C callF n ops SF H' Bs' K x lo v nm := by
  refine ⟨h.dst, fun hw => ⟨(h.skip hw).1, fun hl => by rw [h1, hH lo (Nat.le_refl _)]; exact (h.skip hw).2 hl⟩, fun hw hc k h1 h2 h3 => by rw [hH k h1]; exact h.still hw hc k h1 h2 h3, fun hw hc => ?_, fun hw hc => by rw [hH lo (Nat.le_refl _), h1]; exact h.loud hw hc⟩
  obtain ⟨c, mk, S, a1, a2, a3, a4, a5⟩ := h.alloc hw hc
  refine ⟨c, mk, S, a1, a2, a3, ?_, fun k h1 h2 h3 => by rw [hH k h1]; exact a5 k h1 h2 h3⟩
  cases hg : (Bs' lo).heap.get nm with
  | none => rfl
  | some u => have := h0 _ _ hg; rw [a4] at this; cases this
structure DF (C : Ctx) (callF : CallF) (n : Nat) (ops : List Oper) (pl : List PS) (s s' : Sl) (st st' : St) (k : Nat) (pend : List Pend) (H Bs : Nat → St) (v : Nat → Value) (nm : Nat → Nat) : Prop where
  last : H (k + louds pl) = st'
  first : Bs k = st
  ge : ∀ j, k ≤ j → j ≤ k + louds pl → GE (Bs j) (H j)
  fx : ∀ x ∈ pl, Fx C callF n ops s' H Bs (k + louds pl) x (loF pl k x.i) (v x.i) (nm x.i)
  far : ∀ t, (∀ x ∈ pl, x.o.dst ≠ some t) → s'.get t = s.get t
  held : ∀ q ∈ pend, ∀ j, k ≤ j → j ≤ q.hi → j ≤ k + louds pl → PNow C s' (H j) q
  new : ∀ x ∈ pl, AW ops s' x → loF pl k x.i = k → st.heap.get (nm x.i) = none
  unlike : ∀ x ∈ pl, AW ops s' x → ∀ h b c, Pend.obj h b c ∈ pend → loF pl k x.i ≤ h → nm x.i ≠ b
  two : ∀ x ∈ pl, ∀ y ∈ pl, AW ops s' x → AW ops s' y → x.i ≠ y.i → loF pl k x.i ≤ y.hi → loF pl k y.i ≤ x.hi → nm x.i ≠ nm y.i
theorem louds_cons (p : PS) (l : List PS) : louds (p :: l) = louds l + cond (loudB p.ins) 1 0 := by
  simp only [louds, List.countP_cons]
  cases loudB p.ins <;> simp
theorem far_cons {p : PS} {l : List PS} {s s1 s' : Sl} {u : Value} (hp : putA n s p.o.dst u = some s1) (h : ∀ t, (∀ x ∈ l, x.o.dst ≠ some t) → s'.get t = s1.get t) : ∀ t, (∀ x ∈ p :: l, x.o.dst ≠ some t) → s'.get t = s.get t := fun t ht => by
  rw [h t fun x hx => ht x (List.mem_cons_of_mem _ hx), (putA_get hp).1 t (ht p List.mem_cons_self)]
theorem DF.quiet {p : PS} {l : List PS} {s s1 s' : Sl} {st st1 st' : St} {k : Nat} {pend pend1 : List Pend} {H Bs : Nat → St} {v : Nat → Value} {nm : Nat → Nat} {u : Value} {np : Nat} (h : DF C callF n ops l s1 s' st1 st' k pend1 H Bs v nm)
    (hb : loudB p.ins = false) (hR : Rowed ops (p :: l)) (hp : putA n s p.o.dst u = some s1) (hge : GE st st1) (hpe : ∀ q ∈ pend, q ∈ pend1) (hpn : ∀ q ∈ pend, PNow C s st q)
    (hf : Fx C callF n ops s' H (fun j => if j = k then st else Bs j) (k + louds l) p k u np) (hn : AW ops s' p → st.heap.get np = none) (h2 : AW ops s' p → ∀ y ∈ l, AW ops s' y → loF l k y.i ≤ p.hi → nm y.i ≠ np) :
    DF C callF n ops (p :: l) s s' st st' k pend H (fun j => if j = k then st else Bs j) (fun i => if i = p.i then u else v i) (fun i => if i = p.i then np else nm i) := by
  obtain ⟨r1, r2, r3, r4⟩ := hR
  have hl : louds (p :: l) = louds l := by rw [louds_cons, hb]; rfl
  have hlo : ∀ x ∈ l, loF (p :: l) k x.i = loF l k x.i := fun x hx => by rw [loF_ne (r3 x hx), hb]; rfl
  have hv : ∀ x ∈ l, (if x.i = p.i then u else v x.i) = v x.i := fun x hx => if_neg (r3 x hx)
  have hm : ∀ x ∈ l, (if x.i = p.i then np else nm x.i) = nm x.i := fun x hx => if_neg (r3 x hx)
  have hnone : ∀ b, st1.heap.get b = none → st.heap.get b = none := fun b hb => by
    cases hg : st.heap.get b with
    | none => rfl
    | some c => have := hge.he _ _ hg; rw [hb] at this; cases this
  refine ⟨by rw [hl]; exact h.last, if_pos rfl, fun j h1 h2 => ?_, fun x hx => ?_, far_cons hp h.far, fun q hq j h1 h2 h3 => h.held q (hpe q hq) j h1 h2 (by rwa [hl] at h3), fun x hx ha hk => ?_, fun x hx ha hh b c hq hk => ?_, fun x hx y hy hax hay hne h3 h4 => ?_⟩
  · skip
    rw [hl] at h2
    split
    · rename_i e1
      subst e1
      have := h.ge j h1 h2
      rw [h.first] at this
      exact hge.trans this
    · exact h.ge j h1 h2
  · rw [hl]
    rcases List.mem_cons.1 hx with rfl | hx
    · simp only [if_true, loF_eq]; exact hf
    · skip
      rw [hlo x hx, hv x hx, hm x hx]
      have := loF_le l k x.i
      refine (h.fx x hx).congr (fun j _ => rfl) (by rw [if_neg (by omega)]) ?_
      split
      · rename_i e1; rw [e1, h.first]; exact hge.he
      · exact HE.refl _
  · rcases List.mem_cons.1 hx with rfl | hx
    · simp only [if_true]; exact hn ha
    · skip
      rw [hm x hx]
      rw [hlo x hx] at hk
      exact hnone _ (h.new x hx ha hk)
  · rcases List.mem_cons.1 hx with rfl | hx
    · simp only [if_true]
      intro e1
      have := hpn _ hq
      have h9 := hn ha
      rw [e1] at h9
      rw [show st.heap.get b = some c from this] at h9
      cases h9
    · skip
      rw [hm x hx]
      rw [hlo x hx] at hk
      exact h.unlike x hx ha hh b c (hpe _ hq) hk
  · rcases List.mem_cons.1 hx with rfl | hx1 <;> rcases List.mem_cons.1 hy with rfl | hy1
    · exact absurd rfl hne
    · simp only [if_true]
      rw [hm y hy1]
      rw [hlo y hy1] at h4
      exact fun e1 => h2 hax y hy1 hay h4 e1.symm
    · simp only [if_true]
      rw [hm x hx1]
      rw [hlo x hx1] at h3
      exact h2 hay x hx1 hax h3
    · skip
      rw [hm x hx1, hm y hy1]
      rw [hlo x hx1] at h3
      rw [hlo y hy1] at h4
      exact h.two x hx1 y hy1 hax hay hne h3 h4
theorem DF.loud {p : PS} {l : List PS} {s s1 s' : Sl} {st st1 st' : St} {k : Nat} {pend pend1 : List Pend} {H Bs : Nat → St} {v : Nat → Value} {nm : Nat → Nat} {u : Value} (h : DF C callF n ops l s1 s' st1 st' (k + 1) pend1 H Bs v nm)
    (hb : loudB p.ins = true) (hR : Rowed ops (p :: l)) (hp : putA n s p.o.dst u = some s1) (hpe : ∀ q ∈ pend, k + 1 ≤ q.hi → q ∈ pend1) (hpn : ∀ q ∈ pend, PNow C s st q) (hpo : ∀ q ∈ pend, POk ops (p :: l) q) (hna : insCls p.ins ≠ .alloc ∨ wantedA ops s' p.o.guard = false)
    (hf : Fx C callF n ops s' (fun j => if j ≤ k then st else H j) (fun j => if j ≤ k then st else Bs j) (k + 1 + louds l) p k u 0) :
    DF C callF n ops (p :: l) s s' st st' k pend (fun j => if j ≤ k then st else H j) (fun j => if j ≤ k then st else Bs j) (fun i => if i = p.i then u else v i) nm := by
  obtain ⟨r1, r2, r3, r4⟩ := hR
  have hl : k + louds (p :: l) = k + 1 + louds l := by rw [louds_cons, hb]; simp only [cond_true]; omega
  have hlo : ∀ x ∈ l, loF (p :: l) k x.i = loF l (k + 1) x.i := fun x hx => by rw [loF_ne (r3 x hx), hb]; rfl
  have hle : ∀ x ∈ l, k + 1 ≤ loF l (k + 1) x.i := fun x _ => loF_le _ _ _
  have hv : ∀ x ∈ l, (if x.i = p.i then u else v x.i) = v x.i := fun x hx => if_neg (r3 x hx)
  have hnot : ¬ AW ops s' p := fun ha => by
    rcases hna with h1 | h1
    · exact h1 ha.1
    · have := ha.2; rw [h1] at this; cases this
  have far := far_cons hp h.far
  refine ⟨by simp only [hl]; rw [if_neg (by omega)]; exact h.last, if_pos (Nat.le_refl _), fun j h1 h2 => ?_, fun x hx => ?_, far, fun q hq j h1 h2 h3 => ?_, fun x hx ha hk => ?_, fun x hx ha hh b c hq hk => ?_, fun x hx y hy hax hay hne h3 h4 => ?_⟩
  · skip
    split
    · exact .refl _
    · rw [hl] at h2; exact h.ge j (by omega) h2
  · rw [hl]
    rcases List.mem_cons.1 hx with rfl | hx
    · simp only [if_true, loF_eq]
      refine ⟨hf.dst, hf.skip, hf.still, fun hw hc => absurd ⟨hc, hw⟩ hnot, hf.loud⟩
    · skip
      rw [hlo x hx, hv x hx]
      have := hle x hx
      refine (h.fx x hx).congr (fun j hj => if_neg (by omega)) (by rw [if_neg (by omega)]) ?_
      rw [if_neg (by omega)]
      exact HE.refl _
  · skip
    split
    · exact (hpn q hq).to (hpo q hq) far
    · rw [hl] at h3; exact h.held q (hpe q hq (by omega)) j (by omega) h2 h3
  · rcases List.mem_cons.1 hx with rfl | hx
    · exact absurd ha hnot
    · rw [hlo x hx] at hk
      have := hle x hx
      omega
  · rcases List.mem_cons.1 hx with rfl | hx
    · exact absurd ha hnot
    · rw [hlo x hx] at hk
      have := hle x hx
      exact h.unlike x hx ha hh b c (hpe _ hq (by show k + 1 ≤ hh; omega)) hk
  · rcases List.mem_cons.1 hx with rfl | hx1 <;> rcases List.mem_cons.1 hy with rfl | hy1
    · exact absurd hax hnot
    · exact absurd hax hnot
    · exact absurd hay hnot
    · rw [hlo x hx1] at h3
      rw [hlo y hy1] at h4
      exact h.two x hx1 y hy1 hax hay hne h3 h4
theorem draw_facts {s' : Sl} {st' : St} : ∀ (pl : List PS) (s : Sl) (st : St) (k : Nat) (pend : List Pend), drawA C callF n ops pl s st k pend = some (s', st') → Rowed ops pl → (∀ q ∈ pend, POk ops pl q) → (∀ q ∈ pend, PNow C s st q) →
    ∃ H Bs v nm, DF C callF n ops pl s s' st st' k pend H Bs v nm
  | [], s, st, k, pend, h, hR, hpo, hpn => by
    cases h
    exact ⟨fun _ => st', fun _ => st', fun _ => undefA, fun _ => 0, rfl, rfl, fun j _ _ => .refl _, fun x hx => (by cases hx), fun t _ => rfl, fun q hq j _ _ _ => hpn q hq, fun x hx => (by cases hx), fun x hx => (by cases hx), fun x hx => (by cases hx)⟩
  | p :: l, s, st, k, pend, h, hR, hpo, hpn => by
    have hR' := hR
    obtain ⟨r1, r2, r3, r4⟩ := hR'
    have tl : ∀ q ∈ pend, POk ops l q := fun q hq => (hpo q hq).tail
    cases drawA_cons h with
    | skip s1 hw hp h1 =>
      have hn1 : ∀ q ∈ pend, PNow C s1 st q := fun q hq => POk.put (hpn q hq) (hpo q hq) hp
      obtain ⟨H, Bs, v, nm, hD⟩ := draw_facts l s1 st _ pend h1 r4 tl hn1
      have far := far_cons hp hD.far
      have hws : wantedA ops s' p.o.guard = false := by rw [wanted_same r1 far]; exact hw
      have hdst : ∀ d, p.o.dst = some d → s'.get d = some undefA ∧ d < n := fun d hd => by rw [hD.far d fun x hx => r2 d hd x hx]; exact (putA_get hp).2 d hd
      cases hb : loudB p.ins with
      | true =>
        rw [hb] at hD
        simp only [cond_true] at hD
        refine ⟨_, _, _, _, hD.loud (u := undefA) hb hR hp (fun q hq _ => hq) hpn hpo (.inr hws) ⟨hdst, fun _ => ⟨rfl, fun _ => ?_⟩, fun hw2 => ?_, fun hw2 => ?_, fun hw2 => ?_⟩⟩
        · simp only [Nat.le_refl, if_true]
          rw [if_neg (by omega)]
          exact hD.first
        all_goals (rw [hws] at hw2; cases hw2)
      | false =>
        rw [hb] at hD
        simp only [cond_false] at hD
        refine ⟨_, _, _, _, hD.quiet (u := undefA) (np := 0) hb hR hp (.refl _) (fun q hq => hq) hpn ⟨hdst, fun _ => ⟨rfl, fun hl => ?_⟩, fun hw2 => ?_, fun hw2 => ?_, fun hw2 => ?_⟩ (fun ha => ?_) (fun ha => ?_)⟩
        · rw [hb] at hl; cases hl
        iterate 3 (rw [hws] at hw2; cases hw2)
        all_goals (have := ha.2; rw [hws] at this; cases this)
    | still u s1 pend1 hw hc hi hp h0 h1 =>
      have hb : loudB p.ins = false := loudB_not (by rw [hc]; intro h; cases h)
      have hsub : ∀ q ∈ pend, q ∈ pend1 := by
        rcases h0 with rfl | ⟨rfl, _⟩
        · exact fun q hq => List.mem_cons_of_mem _ hq
        · exact fun q hq => hq
      have hmem : ∀ q ∈ pend1, q = .val p u ∨ q ∈ pend := by
        rcases h0 with rfl | ⟨rfl, _⟩
        · exact fun q hq => List.mem_cons.1 hq
        · exact fun q hq => .inr hq
      have hag : Agr s s1 p.o := (Agr.refl s p.o).to (pl := [p]) (fun x hx => r1 x (by simp at hx; rw [hx]; exact List.mem_cons_self)) fun t ht => (putA_get hp).1 t (ht p List.mem_cons_self)
      have hn1 : ∀ q ∈ pend1, PNow C s1 st q := fun q hq => by
        rcases hmem q hq with rfl | hq
        · exact ⟨s, hag, hi⟩
        · exact POk.put (hpn q hq) (hpo q hq) hp
      have ho1 : ∀ q ∈ pend1, POk ops l q := fun q hq => by
        rcases hmem q hq with rfl | hq
        · exact fun x hx => r1 x (List.mem_cons_of_mem _ hx)
        · exact tl q hq
      obtain ⟨H, Bs, v, nm, hD⟩ := draw_facts l s1 st k pend1 h1 r4 ho1 hn1
      have far := far_cons hp hD.far
      have hws : wantedA ops s' p.o.guard = true := by rw [wanted_same r1 far]; exact hw
      have hdst : ∀ d, p.o.dst = some d → s'.get d = some u ∧ d < n := fun d hd => by rw [hD.far d fun x hx => r2 d hd x hx]; exact (putA_get hp).2 d hd
      have hag2 : Agr s s' p.o := (Agr.refl s p.o).to r1 far
      have hgk : GE st (H k) := by have := hD.ge k (Nat.le_refl _) (by omega); rwa [hD.first] at this
      refine ⟨_, _, _, _, hD.quiet (u := u) (np := 0) hb hR hp (.refl _) hsub hpn ⟨hdst, fun hw2 => ?_, fun _ _ j h2 h3 h4 => ?_, fun _ hc2 => ?_, fun _ hc2 => ?_⟩ (fun ha => ?_) (fun ha => ?_)⟩
      · rw [hws] at hw2; cases hw2
      · rcases h0 with rfl | ⟨rfl, h0⟩
        · exact hD.held _ List.mem_cons_self j h2 h3 h4
        · rcases h0 with h0 | h0
          · have : j = k := by omega
            subst this
            exact ⟨s, hag2, insS_grow hgk.he hi⟩
          · exact ⟨s, hag2, by rw [blind_same h0 (H j) st]; exact hi⟩
      · rw [hc] at hc2; cases hc2
      · rw [hc] at hc2; cases hc2
      all_goals (have := ha.1; rw [hc] at this; cases this)
    | alloc c mk s1 pend1 hw hc hi hno hp h0 h1 =>
      have hb : loudB p.ins = false := loudB_not (by rw [hc]; intro h; cases h)
      have hsub : ∀ q ∈ pend, q ∈ pend1 := by
        rcases h0 with rfl | ⟨rfl, _⟩
        · exact fun q hq => List.mem_cons_of_mem _ hq
        · exact fun q hq => hq
      have hmem : ∀ q ∈ pend1, q = .obj p.hi st.next c ∨ q ∈ pend := by
        rcases h0 with rfl | ⟨rfl, _⟩
        · exact fun q hq => List.mem_cons.1 hq
        · exact fun q hq => .inr hq
      have hself : (st.new c).heap.get st.next = some c := by simp [St.new, get_set]
      have hE := HE.new c hno
      have hn1 : ∀ q ∈ pend1, PNow C s1 (st.new c) q := fun q hq => by
        rcases hmem q hq with rfl | hq
        · exact hself
        · exact (POk.put (hpn q hq) (hpo q hq) hp).grow hE
      have ho1 : ∀ q ∈ pend1, POk ops l q := fun q hq => by
        rcases hmem q hq with rfl | hq
        · trivial
        · exact tl q hq
      obtain ⟨H, Bs, v, nm, hD⟩ := draw_facts l s1 (st.new c) k pend1 h1 r4 ho1 hn1
      have far := far_cons hp hD.far
      have hws : wantedA ops s' p.o.guard = true := by rw [wanted_same r1 far]; exact hw
      have hdst : ∀ d, p.o.dst = some d → s'.get d = some (mk st.next) ∧ d < n := fun d hd => by rw [hD.far d fun x hx => r2 d hd x hx]; exact (putA_get hp).2 d hd
      have hag2 : Agr s s' p.o := (Agr.refl s p.o).to r1 far
      have hgk : GE (st.new c) (H k) := by have := hD.ge k (Nat.le_refl _) (by omega); rwa [hD.first] at this
      refine ⟨_, _, _, _, hD.quiet (u := mk st.next) (np := st.next) hb hR hp (.new c hno (.refl _)) hsub hpn ⟨hdst, fun hw2 => ?_, fun _ hc2 => ?_, fun _ _ => ⟨c, mk, s, hag2, hi, rfl, ?_, fun j h2 h3 h4 => ?_⟩, fun _ hc2 => ?_⟩ (fun ha => hno) (fun ha y hy hay hly e1 => ?_)⟩
      · rw [hws] at hw2; cases hw2
      · rw [hc] at hc2; cases hc2
      · rw [if_pos rfl]; exact hno
      · rcases h0 with rfl | ⟨rfl, h0⟩
        · exact hD.held _ List.mem_cons_self j h2 h3 h4
        · have : j = k := by omega
          subst this
          exact hgk.he _ _ hself
      · rw [hc] at hc2; cases hc2
      · have hly2 := loF_le l k y.i
        by_cases hk : loF l k y.i = k
        · have := hD.new y hy hay hk
          rw [e1, hself] at this
          cases this
        · rcases h0 with rfl | ⟨rfl, h0⟩
          · exact hD.unlike y hy hay p.hi st.next c List.mem_cons_self hly e1
          · omega
    | loud u st1 s1 hw hc hi hp hq h1 =>
      have hb : loudB p.ins = true := loudB_cls hc
      have hmem : ∀ q ∈ pend.filter (fun q => Nat.ble (k + 1) q.hi), q ∈ pend ∧ k + 1 ≤ q.hi := fun q hq => by
        obtain ⟨h2, h3⟩ := List.mem_filter.1 hq
        exact ⟨h2, Nat.le_of_ble_eq_true h3⟩
      obtain ⟨H, Bs, v, nm, hD⟩ := draw_facts l s1 st1 (k + 1) _ h1 r4 (fun q hq2 => tl q (hmem q hq2).1) (fun q hq2 => PNow.ok (hq q (hmem q hq2).1 (hmem q hq2).2))
      have far := far_cons hp hD.far
      have hws : wantedA ops s' p.o.guard = true := by rw [wanted_same r1 far]; exact hw
      have hdst : ∀ d, p.o.dst = some d → s'.get d = some u ∧ d < n := fun d hd => by rw [hD.far d fun x hx => r2 d hd x hx]; exact (putA_get hp).2 d hd
      have hag2 : Agr s s' p.o := (Agr.refl s p.o).to r1 far
      refine ⟨_, _, _, _, hD.loud (u := u) hb hR hp (fun q hq2 h2 => List.mem_filter.2 ⟨hq2, Nat.ble_eq_true_of_le h2⟩) hpn hpo (.inl (by rw [hc]; intro h; cases h)) ⟨hdst, fun hw2 => ?_, fun _ hc2 => ?_, fun _ hc2 => ?_, fun _ _ => ⟨s, hag2, ?_⟩⟩⟩
      · rw [hws] at hw2; cases hw2
      · rw [hc] at hc2; cases hc2
      · rw [hc] at hc2; cases hc2
      · simp only [Nat.le_refl, if_true]
        rw [if_neg (by omega), hD.first]
        exact hi
end
end Go.Proofs.YtlgoilobdiimeaaGreatDoor.Ex
namespace Go.Proofs.YtlgoilobdiimeaaGreatDoor.Ex
open Go Go.RowKit
set_option linter.unusedVariables false
set_option linter.unusedSimpArgs false
theorem loud_at : ∀ (pl : List PS) (k j : Nat), pl.Pairwise (fun x y => y.i ≠ x.i) → k ≤ j → j < k + louds pl → ∃ x ∈ pl, loudB x.ins = true ∧ loF pl k x.i = j
  | [], k, j, _, h1, h2 => by simp only [louds, List.countP_nil] at h2; omega
  | p :: pl, k, j, hpw, h1, h2 => by
    obtain ⟨h3, h4⟩ := List.pairwise_cons.1 hpw
    rw [louds_cons] at h2
    cases hb : loudB p.ins with
    | true =>
      rw [hb] at h2
      simp only [cond_true] at h2
      by_cases hj : j = k
      · exact ⟨p, List.mem_cons_self, hb, by rw [loF_eq, hj]⟩
      · obtain ⟨x, hx, h5, h6⟩ := loud_at pl (k + 1) j h4 (by omega) (by omega)
        exact ⟨x, List.mem_cons_of_mem _ hx, h5, by rw [loF_ne (h3 x hx), hb]; exact h6⟩
    | false =>
      rw [hb] at h2
      simp only [cond_false] at h2
      obtain ⟨x, hx, h5, h6⟩ := loud_at pl k j h4 h1 (by omega)
      exact ⟨x, List.mem_cons_of_mem _ hx, h5, by rw [loF_ne (h3 x hx), hb]; exact h6⟩
theorem loud_lt : ∀ (pl : List PS) (k : Nat), pl.Pairwise (fun x y => y.i ≠ x.i) → ∀ x ∈ pl, loudB x.ins = true → loF pl k x.i < k + louds pl
  | [], k, _, x, hx, _ => by cases hx
  | p :: pl, k, hpw, x, hx, hl => by
    obtain ⟨h3, h4⟩ := List.pairwise_cons.1 hpw
    rw [louds_cons]
    rcases List.mem_cons.1 hx with rfl | hx
    · rw [loF_eq, hl]; simp only [cond_true]; omega
    · rw [loF_ne (h3 x hx)]
      have := loud_lt pl (cond (loudB p.ins) (k + 1) k) h4 x hx hl
      cases hb : loudB p.ins <;> rw [hb] at this <;> simp only [cond_true, cond_false] at this ⊢ <;> omega
theorem loud_uniq : ∀ (pl : List PS) (k : Nat), pl.Pairwise (fun x y => y.i ≠ x.i) → ∀ x ∈ pl, ∀ y ∈ pl, loudB x.ins = true → loudB y.ins = true → loF pl k x.i = loF pl k y.i → x.i = y.i
  | [], k, _, x, hx, _, _, _, _, _ => by cases hx
  | p :: pl, k, hpw, x, hx, y, hy, hlx, hly, he => by
    obtain ⟨h3, h4⟩ := List.pairwise_cons.1 hpw
    rcases List.mem_cons.1 hx with rfl | hx1 <;> rcases List.mem_cons.1 hy with rfl | hy1
    · rfl
    · rw [loF_eq, loF_ne (h3 y hy1), hlx] at he
      have := loF_le pl (k + 1) y.i
      simp only [cond_true] at he
      omega
    · rw [loF_eq, loF_ne (h3 x hx1), hly] at he
      have := loF_le pl (k + 1) x.i
      simp only [cond_true] at he
      omega
    · rw [loF_ne (h3 x hx1), loF_ne (h3 y hy1)] at he
      exact loud_uniq pl _ h4 x hx1 y hy1 hlx hly he
variable {ro : Option Nat} {ds : List Deferred}
section
variable {C : Ctx} {callF : CallF} {B n : Nat} {w0 : World} {ops : List Oper}
/-- What is listed. -/
def Li (listed : Array Bool) (i : Nat) : Prop := listed.getD i true = true
theorem Li_set {listed : Array Bool} {i j : Nat} (hi : i < listed.size) : Li (listed.setIfInBounds i true) j ↔ j = i ∨ Li listed j := by
  unfold Li
  by_cases h : j = i
  · subst h
    simp [Array.getD, hi]
  · simp [Array.getD_eq_getD_getElem?, Array.getElem?_setIfInBounds, Ne.symm h, h]
structure DInv (C : Ctx) (B : Nat) (w0 : World) (n : Nat) (ds : List Deferred) (ops : List Oper) (pl : List PS) (SF : Sl) (H Bs : Nat → St) (nm : Nat → Nat) (st0 : St) (e0 : Env) (listed : Array Bool) (a : Act) (w : World) : Prop where
  size : listed.size = ops.length
  closed : Closed pl (Li listed)
  at_ : ∃ k e σ S, k ≤ louds pl ∧ (∀ x ∈ pl, loudB x.ins = true → (Li listed x.i ↔ loF pl 0 x.i < k)) ∧ Rel C B w0 e (H k) w ∧ Fol st0 e0 (H k) e ∧ Fits n ds σ a ∧ SlR e S σ ∧ (∀ t, (∀ x ∈ pl, ¬ Li listed x.i → x.o.dst ≠ some t) → S.get t = SF.get t) ∧
    (∀ x ∈ pl, AW ops SF x → ¬ Li listed x.i → loF pl 0 x.i ≤ k → e (nm x.i) = none) ∧ ∀ j, j ≤ k → ∀ b c, st0.heap.get b = some c → ∃ c', (Bs j).heap.get b = some c'
theorem DInv.step {pl : List PS} {s SF : Sl} {st stF : St} {H Bs : Nat → St} {v : Nat → Value} {nm : Nat → Nat} {e0 : Env} {Q : Exit → Act → World → Prop} (HO : OpsOK C B w0 callF) (hP : PlanOK C ops pl) (hD : DF C callF n ops pl s SF st stF 0 [] H Bs v nm)
    {listed : Array Bool} {a : Act} {w : World} (h : DInv C B w0 n ds ops pl SF H Bs nm st e0 listed a w) {i : Nat} (hi : i ∈ Region.ready .any ops.toArray listed) :
    wpOpIn (fR ro) 0 C.P ops.toArray Q i (DInv C B w0 n ds ops pl SF H Bs nm st e0 (listed.setIfInBounds i true)) a w := by
  obtain ⟨hsz, hcl, k, e, σ, S, hk, hlo, hR, hF, hf, hs, hS, hnm, hdm⟩ := h
  obtain ⟨hun, o, ho, hall⟩ := mem_ready.1 hi
  have hol : ops[i]? = some o := by simpa using ho
  have hlt : i < listed.size := by rw [hsz]; exact (List.getElem?_eq_some_iff.1 hol).1
  obtain ⟨x, hx, rfl, rfl⟩ := hP.cover i o hol
  have hnl : ¬ Li listed x.i := by unfold Li; rw [hun]; exact Bool.false_ne_true
  have hpw := hP.rowed.pairwise
  have hdep : ∀ j, Dep x.o j → Li listed j := by
    rintro j ⟨e1, he, hb, rfl⟩
    have h1 := hall e1 he hb
    unfold Li
    rcases Nat.lt_or_ge e1.on listed.size with h2 | h2
    · simpa [Array.getD, h2] using h1
    · simp [Array.getD, Nat.not_lt.2 h2] at h1
  have hlox : loF pl 0 x.i ≤ k := hP.lo k _ hcl hlo x hx hdep
  have hrd : ∀ t, Reads ops x.o t → S.get t = SF.get t := fun t ht => hS t fun z hz hzl hzd => hzl (hdep _ (hP.bound x hx t z.i z.o ht (hP.of z hz).at_ hzd))
  have hops : ∀ S1, Agr S1 SF x.o → OpR C e S1 σ x.o := by
    intro S1 hag y hy hyo
    have h1 := OpR.of hR.glob hs x.o y hy hyo
    have h2 : evA S1 y = evA S y := by
      rw [hag y hy]
      cases y with
      | tmp t => show ogetD (SF.get t) = ogetD (S.get t); rw [hrd t (.inl hy)]
      | _ => rfl
    rw [h2]; exact h1
  have hwant : wantedA ops SF x.o.guard = Region.wanted x.o (yielded ops.toArray a.tmps) := by
    rw [← wanted_ok (ops := ops) hs hf]
    cases hg : x.o.guard with
    | none => rfl
    | some jw =>
      obtain ⟨j, wt⟩ := jw
      have : guardA ops SF j = guardA ops S j := by
        unfold guardA
        rw [lget_eq]
        split
        · rename_i d _ _ _ _ _ hq
          rw [hrd d (.inr ⟨j, wt, _, hg, hq, rfl⟩)]
        · rfl
      simp only [wantedA, this]
  have hfx := hD.fx x hx
  simp only [Nat.zero_add] at hfx
  -- what is behind, whatever was run
  have hclosed : Closed pl (Li (listed.setIfInBounds x.i true)) := by
    intro z hz hzl j hj
    rw [Li_set hlt] at hzl ⊢
    rcases hzl with e1 | e1
    · rw [hP.uniq z hz x hx e1] at hj; exact .inr (hdep j hj)
    · exact .inr (hcl z hz e1 j hj)
  have hput : ∀ (e' : Env) (v' : Value), SlR e' S σ → VR e' (v x.i) v' → ∃ S', SlR e' S' (put n σ x.o.dst v') ∧ ∀ t, (∀ z ∈ pl, ¬ Li (listed.setIfInBounds x.i true) z.i → z.o.dst ≠ some t) → S'.get t = SF.get t := by
    intro e' v' hs' hv'
    cases hd : x.o.dst with
    | none =>
      refine ⟨S, hs', fun t ht => hS t fun z hz hzl hzd => ?_⟩
      by_cases e1 : z.i = x.i
      · rw [hP.uniq z hz x hx e1, hd] at hzd; cases hzd
      · exact ht z hz (fun h2 => by rw [Li_set hlt] at h2; rcases h2 with h2 | h2; exact e1 h2; exact hzl h2) hzd
    | some d =>
      obtain ⟨h1, h2⟩ := hfx.dst d hd
      refine ⟨S.set d (v x.i), fun t => ?_, fun t ht => ?_⟩
      · rw [get_set]
        by_cases e1 : t = d
        · subst e1; rw [if_pos rfl, put_same _ _ _ _ h2]; exact hv'
        · rw [if_neg e1, put_other _ _ _ _ _ e1]; exact hs' t
      · rw [get_set]
        by_cases e1 : t = d
        · subst e1; rw [if_pos rfl, h1]
        · rw [if_neg e1]
          refine hS t fun z hz hzl hzd => ?_
          by_cases e2 : z.i = x.i
          · rw [hP.uniq z hz x hx e2, hd] at hzd; exact e1 (Option.some.inj hzd).symm
          · exact ht z hz (fun h2 => by rw [Li_set hlt] at h2; rcases h2 with h2 | h2; exact e2 h2; exact hzl h2) hzd
  have hunl : ∀ z, ¬ Li (listed.setIfInBounds x.i true) z → z ≠ x.i ∧ ¬ Li listed z := fun z hz => by
    rw [Li_set hlt] at hz
    exact ⟨fun h => hz (.inl h), fun h => hz (.inr h)⟩
  have quiet : ∀ (hlx : loudB x.ins = false) (e' : Env) (w' : World) (v' : Value), e.le e' → Rel C B w0 e' (H k) w' → Fol st e0 (H k) e' → VR e' (v x.i) v' → (∀ z ∈ pl, AW ops SF z → z.i ≠ x.i → ¬ Li listed z.i → loF pl 0 z.i ≤ k → e' (nm z.i) = none) →
      DInv C B w0 n ds ops pl SF H Bs nm st e0 (listed.setIfInBounds x.i true) (a.put x.o.dst v') w' := by
    intro hlx e' w' v' hle hR' hF' hv' hnm'
    obtain ⟨S', h1, h2⟩ := hput e' v' (hs.mono hle) hv'
    refine ⟨by simp [hsz], hclosed, k, e', put n σ x.o.dst v', S', hk, fun z hz hlz => ?_, hR', hF', hf.put _ _, h1, h2, fun z hz ha hzl hzk => ?_, hdm⟩
    · rw [Li_set hlt, ← hlo z hz hlz]
      refine ⟨fun h => h.resolve_left fun e1 => ?_, .inr⟩
      rw [hP.uniq z hz x hx e1, hlx] at hlz; cases hlz
    · exact hnm' z hz ha (hunl _ hzl).1 (hunl _ hzl).2 hzk
  have loud : ∀ (hlx : loudB x.ins = true) (e' : Env) (w' : World) (v' : Value), Fol (H k) e (Bs (k + 1)) e' → Rel C B w0 e' (Bs (k + 1)) w' → loF pl 0 x.i = k → VR e' (v x.i) v' →
      DInv C B w0 n ds ops pl SF H Bs nm st e0 (listed.setIfInBounds x.i true) (a.put x.o.dst v') w' := by
    intro hlx e' w' v' hF' hR' hxk hv'
    have hle := hF'.le hR
    obtain ⟨S', h1, h2⟩ := hput e' v' (hs.mono hle) hv'
    have hkl : k + 1 ≤ louds pl := by
      have := loud_lt pl 0 hpw x hx hlx
      omega
    have hge := hD.ge (k + 1) (by omega) (by omega)
    have hfol : Fol st e0 (H (k + 1)) e' := by
      have h3 := hF.trans hF'
      exact ⟨h3.keep, fun b c hb => let ⟨c', hc'⟩ := h3.dom b c hb; ⟨c', hge.he _ _ hc'⟩⟩
    refine ⟨by simp [hsz], hclosed, k + 1, e', put n σ x.o.dst v', S', hkl, fun z hz hlz => ?_, hR'.ghosts hge, hfol, hf.put _ _, h1, h2, fun z hz ha hzl hzk => ?_, fun j hj b c hb => ?_⟩
    · rw [Li_set hlt]
      by_cases e1 : z.i = x.i
      · exact ⟨fun _ => by rw [e1]; omega, fun _ => .inl e1⟩
      · have h3 : loF pl 0 z.i ≠ k := fun h4 => e1 (loud_uniq pl 0 hpw z hz x hx hlz hlx (by rw [h4, hxk]))
        rw [hlo z hz hlz]
        constructor
        · rintro (h4 | h4)
          · exact absurd h4 e1
          · omega
        · intro h4; right; omega
    · obtain ⟨h3, h4⟩ := hunl _ hzl
      have hfz := hD.fx z hz
      simp only [Nat.zero_add] at hfz
      obtain ⟨c, mk, S1, _, _, _, hb0, hb1⟩ := hfz.alloc ha.2 ha.1
      by_cases h5 : loF pl 0 z.i ≤ k
      · have hlz : loudB z.ins = false := loudB_not (by rw [ha.1]; intro h; cases h)
        have hhi := hP.hi k _ hk hcl hlo z hz hlz h4
        rw [hF'.keep _ _ (hb1 k h5 hhi hk)]
        exact hnm z hz ha h4 h5
      · have h6 : loF pl 0 z.i = k + 1 := by omega
        rw [h6] at hb0
        cases he : e' (nm z.i) with
        | none => rfl
        | some y => obtain ⟨_, c2, hc2⟩ := hR'.dom _ _ he; rw [hb0] at hc2; cases hc2
    · by_cases h3 : j ≤ k
      · exact hdm j h3 b c hb
      · have : j = k + 1 := by omega
        subst this
        obtain ⟨c1, hc1⟩ := hF.dom b c hb
        exact hF'.dom b c1 hc1
  unfold wpOpIn
  simp only [ho]
  cases hw : wantedA ops SF x.o.guard with
  | false =>
    rw [if_neg (by rw [← hwant, hw]; exact Bool.false_ne_true)]
    refine ⟨fun f _ => trivial, ?_⟩
    obtain ⟨h1, h2⟩ := hfx.skip hw
    have hv : VR e (v x.i) undef := by rw [h1]; exact VR.undef_
    cases hlx : loudB x.ins with
    | false => exact quiet hlx e w undef (Env.le.refl e) hR hF hv fun z hz ha _ hzl hzk => hnm z hz ha hzl hzk
    | true =>
      have hxk : loF pl 0 x.i = k := by
        have : ¬ loF pl 0 x.i < k := fun h => hnl ((hlo x hx hlx).2 h)
        omega
      have h3 := h2 hlx
      rw [hxk] at h3
      exact loud hlx e w undef (by rw [h3]; exact Fol.refl _ _) (by rw [h3]; exact hR) hxk hv
  | true =>
    rw [if_pos (by rw [← hwant, hw])]
    have hins := (hP.of x hx).ins
    cases hc : insCls x.ins with
    | still =>
      have hlx : loudB x.ins = false := loudB_not (by rw [hc]; intro h; cases h)
      have hhi := hP.hi k _ hk hcl hlo x hx hlx hnl
      obtain ⟨S1, g1, g2⟩ := hfx.still hw hc k hlox hhi hk
      rw [hins] at hc g2
      obtain ⟨v', hr, hv⟩ := HO.still x.o S1 σ (H k) e w (v x.i) hc g2 hR (hops S1 g1)
      refine wpIn_of_resE (k := fun u w' => u = v' ∧ w' = w) (by rw [hf.eval, hr]; exact ⟨rfl, rfl⟩) ?_
      rintro u w' ⟨rfl, rfl⟩
      exact quiet hlx e w' u (Env.le.refl e) hR hF hv fun z hz ha _ hzl hzk => hnm z hz ha hzl hzk
    | alloc =>
      have hlx : loudB x.ins = false := loudB_not (by rw [hc]; intro h; cases h)
      have hhi := hP.hi k _ hk hcl hlo x hx hlx hnl
      obtain ⟨c, mk, S1, g1, g2, g3, g4, g5⟩ := hfx.alloc hw hc
      have hen := hnm x hx ⟨hc, hw⟩ hnl hlox
      have hgc := g5 k hlox hhi hk
      have haw : AW ops SF x := ⟨hc, hw⟩
      rw [hins] at hc g2
      obtain ⟨ob, sh, r, v', w1, h1, hr, hcr, hv⟩ := HO.alloc x.o S1 σ e c mk hc g2 (hops S1 g1) (nm x.i) w hen
      obtain ⟨hR1, hsz1⟩ := hR.drewOr h1
      have hR2 := hR1.alloc_ hgc hen ob sh r (by rw [hsz1]; exact hcr)
      rw [hsz1] at hR2
      have hle := upd_le (x := ⟨w.heap.size, sh, r⟩) hen
      refine wpIn_of_resE (k := fun u w' => u = v' ∧ w' = w1.alloc ob) (by rw [hf.eval, hr]; exact ⟨rfl, rfl⟩) ?_
      rintro u w' ⟨rfl, rfl⟩
      refine quiet hlx _ _ u hle hR2 ⟨fun b c2 hb => ?_, hF.dom⟩ (by rw [g3]; exact hv) fun z hz ha hne hzl hzk => ?_
      · obtain ⟨c3, hc3⟩ := hdm _ hlox b c2 hb
        unfold Env.upd
        rw [if_neg (fun e1 => by subst e1; rw [g4] at hc3; cases hc3)]
        exact hF.keep b c2 hb
      · have hlz : loudB z.ins = false := loudB_not (by rw [ha.1]; intro h; cases h)
        have hzh := hP.hi k _ hk hcl hlo z hz hlz hzl
        have := hD.two z hz x hx ha haw hne (by omega) (by omega)
        unfold Env.upd
        rw [if_neg this]
        exact hnm z hz ha hzl hzk
    | loud =>
      have hlx : loudB x.ins = true := loudB_cls hc
      have hxk : loF pl 0 x.i = k := by
        have : ¬ loF pl 0 x.i < k := fun h => hnl ((hlo x hx hlx).2 h)
        omega
      obtain ⟨S1, g1, g2⟩ := hfx.loud hw hc
      rw [hins] at hc g2
      rw [hxk] at g2
      refine wpIn_of_resE (k := PostA C B w0 (H k) e (Bs (k + 1)) (v x.i)) (by rw [hf.eval]; exact HO.loud x.o S1 σ (H k) (Bs (k + 1)) e w (v x.i) hc g2 hR (hops S1 g1)) ?_
      rintro u w' ⟨e', hF', hR', hv⟩
      exact loud hlx e' w' u hF' hR' hxk hv
theorem DInv.all {pl : List PS} {s SF : Sl} {st stF : St} {H Bs : Nat → St} {v : Nat → Value} {nm : Nat → Nat} {e0 : Env} {Q : Exit → Act → World → Prop} (HO : OpsOK C B w0 callF) (hP : PlanOK C ops pl) (hD : DF C callF n ops pl s SF st stF 0 [] H Bs v nm)
    (hend : ∀ listed a w, DInv C B w0 n ds ops pl SF H Bs nm st e0 listed a w → Region.ready .any ops.toArray listed = [] → Q .normal a w) :
    ∀ (fuel : Nat) (listed : Array Bool) (a : Act) (w : World), DInv C B w0 n ds ops pl SF H Bs nm st e0 listed a w → listed.toList.countP (fun b => !b) ≤ fuel → wpAnyIn (fR ro) 0 C.P .any ops.toArray Q fuel listed a w := by
  intro fuel
  induction fuel with
  | zero =>
    intro listed a w hp hc
    have hr : Region.ready .any ops.toArray listed = [] := by
      rw [List.eq_nil_iff_forall_not_mem]
      intro i hi
      obtain ⟨hl, hv⟩ := getD_true (mem_ready.1 hi).1
      have := List.countP_eq_zero.1 (Nat.le_zero.1 hc) _ (List.getElem_mem hl)
      simp [hv] at this
    exact ⟨hr, hend listed a w hp hr⟩
  | succ fuel ih =>
    intro listed a w hp hc
    refine ⟨fun hr => hend listed a w hp hr, fun i hi => ?_⟩
    obtain ⟨hl, hv⟩ := getD_true (mem_ready.1 hi).1
    refine wpOpIn_mono (fun a' w' hp' => ih _ _ _ hp' ?_) (hp.step (Q := Q) HO hP hD hi)
    rw [Array.toList_setIfInBounds, List.countP_set hl]
    generalize List.countP (fun b => !b) listed.toList = c at hc ⊢
    simp [hv]
    omega
/-- A region that draws its order comes to what its plan comes to. -/
theorem draw_ok (hC : C.OK) (HO : OpsOK C B w0 callF) : DrawOK C B w0 callF := by
  intro n ops pl s s' st st' hpl hdr ro ds id e w σ a Q hR hs hf hQ
  have hP := plan_ok hpl
  obtain ⟨H, Bs, v, nm, hD⟩ := draw_facts pl s st 0 [] hdr hP.rowed (fun q hq => by cases hq) (fun q hq => by cases hq)
  have hpw := hP.rowed.pairwise
  refine wpIn_region_any hC.mixed ?_
  have h0 : ∀ i, i < ops.length → ¬ Li (Array.replicate ops.length false) i := fun i hi => by unfold Li; simp [Array.getD, hi]
  have hin : ∀ x ∈ pl, x.i < ops.length := fun x hx => (List.getElem?_eq_some_iff.1 (hP.of x hx).at_).1
  have hge := hD.ge 0 (Nat.le_refl _) (by omega)
  rw [hD.first] at hge
  refine DInv.all (e0 := e) (Q := Q) HO hP hD (fun listed a' w' hp hr => ?_) _ _ _ _ ⟨by simp, fun x hx hxl => absurd hxl (by simpa using h0 _ (hin x hx)), 0, e, σ, s, Nat.zero_le _, fun x hx _ => ⟨fun h => absurd h (by simpa using h0 _ (hin x hx)), fun h => by omega⟩, hR.drew.ghosts hge, ⟨fun _ _ _ => rfl, fun b c hb => ⟨c, hge.he _ _ hb⟩⟩, hf, hs, fun t ht => ?_, fun x hx ha _ hx0 => ?_, fun j hj b c hb => ?_⟩ (by simp [List.countP_replicate])
  · obtain ⟨hsz, hcl, k, e', σ', S, hk, hlo, hR', hF', hf', hs', hS, _, _⟩ := hp
    have hall : ∀ x ∈ pl, Li listed x.i := by
      refine hP.all (Li listed) fun x hx hd => ?_
      cases hun : listed.getD x.i true with
      | true => exact hun
      | false =>
        have hm : x.i ∈ Region.ready .any ops.toArray listed := mem_ready.2 ⟨hun, x.o, by simpa using (hP.of x hx).at_, fun e1 he hb => by
          have h1 := hd e1.on ⟨e1, he, hb, rfl⟩
          obtain ⟨z, hzm, hze⟩ := hP.inn x hx e1.on ⟨e1, he, hb, rfl⟩
          have hz := (hP.of z hzm).at_
          rw [hze] at hz
          have h2 : e1.on < listed.size := by rw [hsz]; exact (List.getElem?_eq_some_iff.1 hz).1
          unfold Li at h1
          simpa [Array.getD, h2] using h1⟩
        rw [hr] at hm
        cases hm
    have hkk : k = louds pl := by
      by_cases h1 : k < louds pl
      · obtain ⟨x, hx, h2, h3⟩ := loud_at pl 0 k hpw (Nat.zero_le _) (by omega)
        have := (hlo x hx h2).1 (hall x hx)
        omega
      · omega
    have hlast := hD.last
    rw [Nat.zero_add, ← hkk] at hlast
    rw [hlast] at hR' hF'
    refine hQ e' w' σ' a' hF' hR' (fun t => ?_) hf'
    have := hs' t
    rwa [hS t fun x hx hxl => absurd (hall x hx) hxl] at this
  · refine (hD.far t fun x hx => ht x hx (by simpa using h0 _ (hin x hx))).symm
  · have h1 := hD.new x hx ha (by omega)
    cases he : e (nm x.i) with
    | none => rfl
    | some y => obtain ⟨_, c2, hc2⟩ := hR.dom _ _ he; rw [h1] at hc2; cases hc2
  · have : j = 0 := by omega
    subst this
    rw [hD.first]
    exact ⟨c, hb⟩
end
end Go.Proofs.YtlgoilobdiimeaaGreatDoor.Ex
