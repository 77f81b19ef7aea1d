/-
  Texts joined: ExD5, ExZ, ExW.
-/
import Derived.Test.YtmcbcoafodmbjaaGreatDoorJoin17
namespace Go.Proofs.YtmcbcoafodmbjaaGreatDoor.Ex
open Go Go.RowKit
set_option linter.unusedVariables false
set_option linter.unusedSimpArgs false
theorem loud_at : ∀ (pl : List PS) (k j : Nat), pl.Pairwise (fun x y => y.i ≠ x.i) → k ≤ j → j < k + louds pl → ∃ x ∈ pl, loudB x.ins = true ∧ loF pl k x.i = j
  | [], k, j, _, h1, h2 => by simp only [louds, List.countP_nil] at h2; omega
  | p :: pl, k, j, hpw, h1, h2 => by
    obtain ⟨h3, h4⟩ := List.pairwise_cons.1 hpw
    rw [louds_cons] at h2
    cases hb : loudB p.ins with
    | true =>
      rw [hb] at h2
      simp only [cond_true] at h2
      by_cases hj : j = k
      · exact ⟨p, List.mem_cons_self, hb, by rw [loF_eq, hj]⟩
      · obtain ⟨x, hx, h5, h6⟩ := loud_at pl (k + 1) j h4 (by omega) (by omega)
        exact ⟨x, List.mem_cons_of_mem _ hx, h5, by rw [loF_ne (h3 x hx), hb]; exact h6⟩
    | false =>
      rw [hb] at h2
      simp only [cond_false] at h2
      obtain ⟨x, hx, h5, h6⟩ := loud_at pl k j h4 h1 (by omega)
      exact ⟨x, List.mem_cons_of_mem _ hx, h5, by rw [loF_ne (h3 x hx), hb]; exact h6⟩
theorem loud_lt : ∀ (pl : List PS) (k : Nat), pl.Pairwise (fun x y => y.i ≠ x.i) → ∀ x ∈ pl, loudB x.ins = true → loF pl k x.i < k + louds pl
  | [], k, _, x, hx, _ => by cases hx
  | p :: pl, k, hpw, x, hx, hl => by
    obtain ⟨h3, h4⟩ := List.pairwise_cons.1 hpw
    rw [louds_cons]
    rcases List.mem_cons.1 hx with rfl | hx
    · rw [loF_eq, hl]; simp only [cond_true]; omega
    · rw [loF_ne (h3 x hx)]
      have := loud_lt pl (cond (loudB p.ins) (k + 1) k) h4 x hx hl
      cases hb : loudB p.ins <;> rw [hb] at this <;> simp only [cond_true, cond_false] at this ⊢ <;> omega
theorem loud_uniq : ∀ (pl : List PS) (k : Nat), pl.Pairwise (fun x y => y.i ≠ x.i) → ∀ x ∈ pl, ∀ y ∈ pl, loudB x.ins = true → loudB y.ins = true → loF pl k x.i = loF pl k y.i → x.i = y.i
  | [], k, _, x, hx, _, _, _, _, _ => by cases hx
  | p :: pl, k, hpw, x, hx, y, hy, hlx, hly, he => by
    obtain ⟨h3, h4⟩ := List.pairwise_cons.1 hpw
    rcases List.mem_cons.1 hx with rfl | hx1 <;> rcases List.mem_cons.1 hy with rfl | hy1
    · rfl
    · rw [loF_eq, loF_ne (h3 y hy1), hlx] at he
      have := loF_le pl (k + 1) y.i
      simp only [cond_true] at he
      omega
    · rw [loF_eq, loF_ne (h3 x hx1), hly] at he
      have := loF_le pl (k + 1) x.i
      simp only [cond_true] at he
      omega
    · rw [loF_ne (h3 x hx1), loF_ne (h3 y hy1)] at he
      exact loud_uniq pl _ h4 x hx1 y hy1 hlx hly he
variable {ro : Option Nat} {ds : List Deferred}
section
variable {C : Ctx} {callF : CallF} {B n : Nat} {w0 : World} {ops : List Oper}
def Li (listed : Array Bool) (i : Nat) : Prop := listed.getD i true = true
theorem Li_set {listed : Array Bool} {i j : Nat} (hi : i < listed.size) : Li (listed.setIfInBounds i true) j ↔ j = i ∨ Li listed j := by
  unfold Li
  by_cases h : j = i
  · subst h
    simp [Array.getD, hi]
  · simp [Array.getD_eq_getD_getElem?, Array.getElem?_setIfInBounds, Ne.symm h, h]
structure DInv (C : Ctx) (B : Nat) (w0 : World) (n : Nat) (ds : List Deferred) (ops : List Oper) (pl : List PS) (SF : Sl) (H Bs : Nat → St) (nm : Nat → Nat) (S0 : Sl) (st0 : St) (e0 : Env) (listed : Array Bool) (a : Act) (w : World) : Prop where
  size : listed.size = ops.length
  closed : Closed pl (Li listed)
  at_ : ∃ k e σ S, k ≤ louds pl ∧ (∀ x ∈ pl, loudB x.ins = true → (Li listed x.i ↔ loF pl 0 x.i < k)) ∧ Rel C B w0 e (H k) w ∧ Fol st0 e0 (H k) e ∧ Fits n ds σ a ∧ SlR e S σ ∧ (∀ t, (∀ x ∈ pl, ¬ Li listed x.i → x.o.dst ≠ some t) → S.get t = SF.get t) ∧ (∀ x ∈ pl, ¬ Li listed x.i → ∀ t, x.o.dst = some t → S.get t = S0.get t) ∧
    (∀ x ∈ pl, AW ops SF x → ¬ Li listed x.i → loF pl 0 x.i ≤ k → e (nm x.i) = none) ∧ ∀ j, j ≤ k → ∀ b c, st0.heap.get b = some c → ∃ c', (Bs j).heap.get b = some c'
theorem DInv.step {pl : List PS} {s SF : Sl} {st stF : St} {H Bs : Nat → St} {v : Nat → Value} {nm : Nat → Nat} {e0 : Env} {Q : Exit → Act → World → Prop} (HO : OpsOK C B w0 callF) (hP : PlanOK C ops pl) (hD : DF C callF n ops pl s s SF st stF 0 [] H Bs v nm)
    {listed : Array Bool} {a : Act} {w : World} (h : DInv C B w0 n ds ops pl SF H Bs nm s st e0 listed a w) {i : Nat} (hi : i ∈ Region.ready .any ops.toArray listed) :
    wpOpIn (fR ro) 0 C.P ops.toArray Q i (DInv C B w0 n ds ops pl SF H Bs nm s st e0 (listed.setIfInBounds i true)) a w := by
  obtain ⟨hsz, hcl, k, e, σ, S, hk, hlo, hR, hF, hf, hs, hS, hS0, hnm, hdm⟩ := h
  obtain ⟨hun, o, ho, hall⟩ := mem_ready.1 hi
  have hol : ops[i]? = some o := by simpa using ho
  have hlt : i < listed.size := by rw [hsz]; exact (List.getElem?_eq_some_iff.1 hol).1
  obtain ⟨x, hx, rfl, rfl⟩ := hP.cover i o hol
  have hnl : ¬ Li listed x.i := by unfold Li; rw [hun]; exact Bool.false_ne_true
  have hpw := hP.rowed.pairwise
  have hdep : ∀ j, Dep x.o j → Li listed j := by
    rintro j ⟨e1, he, hb, rfl⟩
    have h1 := hall e1 he hb
    unfold Li
    rcases Nat.lt_or_ge e1.on listed.size with h2 | h2
    · simpa [Array.getD, h2] using h1
    · simp [Array.getD, Nat.not_lt.2 h2] at h1
  have hlox : loF pl 0 x.i ≤ k := hP.lo k _ hcl hlo x hx hdep
  have hrd : ∀ t, Reads ops x.o t → S.get t = SF.get t := fun t ht => hS t fun z hz hzl hzd => hzl (hdep _ (hP.bound x hx t z.i z.o ht (hP.of z hz).at_ hzd))
  have hback : ∀ j i, Reach ops j i → Li listed j → Li listed i := by
    intro j i hr
    induction hr with
    | one ho2 d =>
      intro hj
      obtain ⟨z, hz, rfl, rfl⟩ := hP.cover _ _ ho2
      exact hcl z hz hj _ d
    | more ho2 d _ ih =>
      intro hj
      obtain ⟨z, hz, rfl, rfl⟩ := hP.cover _ _ ho2
      exact ih (hcl z hz hj _ d)
  have hops : ∀ S1, AgrO ops s S1 SF x → OpR C e S1 σ x.o := by
    intro S1 hag y hy hyo
    have h1 := OpR.of hR.glob hs x.o y hy hyo
    have h2 : evA S1 y = evA S y := by
      rcases hag with ⟨hag, hbd⟩ | ⟨t, j, z, g1, g2, g3, g4, g5⟩
      · rw [hag y hy]
        cases y with
        | tmp t => show ogetD (SF.get t) = ogetD (S.get t); rw [hS t fun z hz hzl hzd => hzl (hdep _ (hbd t z.i z.o hy (hP.of z hz).at_ hzd))]
        | _ => rfl
      · have hyt : y = .tmp t := by
          rw [g1] at hy
          simpa [Op.operands] using hy
        subst hyt
        obtain ⟨z', hz', rfl, rfl⟩ := hP.cover _ _ g2
        show ogetD (S1.get t) = ogetD (S.get t)
        rw [g5, hS0 z' hz' (fun h2 => hnl (hback _ _ g4 h2)) t g3]
    rw [h2]; exact h1
  have hwant : wantedA ops SF x.o.guard = Region.wanted x.o (yielded ops.toArray a.tmps) := by
    rw [← wanted_ok (ops := ops) hs hf]
    cases hg : x.o.guard with
    | none => rfl
    | some jw =>
      obtain ⟨j, wt⟩ := jw
      have : guardA ops SF j = guardA ops S j := by
        unfold guardA
        rw [lget_eq]
        split
        · rename_i d _ _ _ _ _ hq
          rw [hrd d ⟨j, wt, _, hg, hq, rfl⟩]
        · rfl
      simp only [wantedA, this]
  have hfx := hD.fx x hx
  simp only [Nat.zero_add] at hfx
  -- what is behind, whatever was run
  have hclosed : Closed pl (Li (listed.setIfInBounds x.i true)) := by
    intro z hz hzl j hj
    rw [Li_set hlt] at hzl ⊢
    rcases hzl with e1 | e1
    · rw [hP.uniq z hz x hx e1] at hj; exact .inr (hdep j hj)
    · exact .inr (hcl z hz e1 j hj)
  have hput : ∀ (e' : Env) (v' : Value), SlR e' S σ → VR e' (v x.i) v' → ∃ S', SlR e' S' (put n σ x.o.dst v') ∧ (∀ t, (∀ z ∈ pl, ¬ Li (listed.setIfInBounds x.i true) z.i → z.o.dst ≠ some t) → S'.get t = SF.get t) ∧ ∀ z ∈ pl, ¬ Li (listed.setIfInBounds x.i true) z.i → ∀ t, z.o.dst = some t → S'.get t = s.get t := by
    intro e' v' hs' hv'
    have hun2 : ∀ z, ¬ Li (listed.setIfInBounds x.i true) z → z ≠ x.i ∧ ¬ Li listed z := fun z hz => by
      rw [Li_set hlt] at hz
      exact ⟨fun h => hz (.inl h), fun h => hz (.inr h)⟩
    cases hd : x.o.dst with
    | none =>
      refine ⟨S, hs', fun t ht => hS t fun z hz hzl hzd => ?_, fun z hz hzl t hzd => hS0 z hz (hun2 _ hzl).2 t hzd⟩
      by_cases e1 : z.i = x.i
      · rw [hP.uniq z hz x hx e1, hd] at hzd; cases hzd
      · exact ht z hz (fun h2 => by rw [Li_set hlt] at h2; rcases h2 with h2 | h2; exact e1 h2; exact hzl h2) hzd
    | some d =>
      obtain ⟨h1, h2⟩ := hfx.dst d hd
      refine ⟨S.set d (v x.i), fun t => ?_, fun t ht => ?_, fun z hz hzl t hzd => ?_⟩
      · rw [get_set]
        by_cases e1 : t = d
        · subst e1; rw [if_pos rfl, put_same _ _ _ _ h2]; exact hv'
        · rw [if_neg e1, put_other _ _ _ _ _ e1]; exact hs' t
      · rw [get_set]
        by_cases e1 : t = d
        · subst e1; rw [if_pos rfl, h1]
        · rw [if_neg e1]
          refine hS t fun z hz hzl hzd => ?_
          by_cases e2 : z.i = x.i
          · rw [hP.uniq z hz x hx e2, hd] at hzd; exact e1 (Option.some.inj hzd).symm
          · exact ht z hz (fun h2 => by rw [Li_set hlt] at h2; rcases h2 with h2 | h2; exact e2 h2; exact hzl h2) hzd
      · rw [get_set, if_neg (fun e1 => by subst e1; exact (hun2 _ hzl).1 (hP.dsts z hz x hx _ hzd hd))]
        exact hS0 z hz (hun2 _ hzl).2 t hzd
  have hunl : ∀ z, ¬ Li (listed.setIfInBounds x.i true) z → z ≠ x.i ∧ ¬ Li listed z := fun z hz => by
    rw [Li_set hlt] at hz
    exact ⟨fun h => hz (.inl h), fun h => hz (.inr h)⟩
  have quiet : ∀ (hlx : loudB x.ins = false) (e' : Env) (w' : World) (v' : Value), e.le e' → Rel C B w0 e' (H k) w' → Fol st e0 (H k) e' → VR e' (v x.i) v' → (∀ z ∈ pl, AW ops SF z → z.i ≠ x.i → ¬ Li listed z.i → loF pl 0 z.i ≤ k → e' (nm z.i) = none) →
      DInv C B w0 n ds ops pl SF H Bs nm s st e0 (listed.setIfInBounds x.i true) (a.put x.o.dst v') w' := by
    intro hlx e' w' v' hle hR' hF' hv' hnm'
    obtain ⟨S', h1, h2, h20⟩ := hput e' v' (hs.mono hle) hv'
    refine ⟨by simp [hsz], hclosed, k, e', put n σ x.o.dst v', S', hk, fun z hz hlz => ?_, hR', hF', hf.put _ _, h1, h2, h20, fun z hz ha hzl hzk => ?_, hdm⟩
    · rw [Li_set hlt, ← hlo z hz hlz]
      refine ⟨fun h => h.resolve_left fun e1 => ?_, .inr⟩
      rw [hP.uniq z hz x hx e1, hlx] at hlz; cases hlz
    · exact hnm' z hz ha (hunl _ hzl).1 (hunl _ hzl).2 hzk
  have loud : ∀ (hlx : loudB x.ins = true) (e' : Env) (w' : World) (v' : Value), Fol (H k) e (Bs (k + 1)) e' → Rel C B w0 e' (Bs (k + 1)) w' → loF pl 0 x.i = k → VR e' (v x.i) v' →
      DInv C B w0 n ds ops pl SF H Bs nm s st e0 (listed.setIfInBounds x.i true) (a.put x.o.dst v') w' := by
    intro hlx e' w' v' hF' hR' hxk hv'
    have hle := hF'.le hR
    obtain ⟨S', h1, h2, h20⟩ := hput e' v' (hs.mono hle) hv'
    have hkl : k + 1 ≤ louds pl := by
      have := loud_lt pl 0 hpw x hx hlx
      omega
    have hge := hD.ge (k + 1) (by omega) (by omega)
    have hfol : Fol st e0 (H (k + 1)) e' := by
      have h3 := hF.trans hF'
      exact ⟨h3.keep, fun b c hb => let ⟨c', hc'⟩ := h3.dom b c hb; ⟨c', hge.he _ _ hc'⟩⟩
    refine ⟨by simp [hsz], hclosed, k + 1, e', put n σ x.o.dst v', S', hkl, fun z hz hlz => ?_, hR'.ghosts hge, hfol, hf.put _ _, h1, h2, h20, fun z hz ha hzl hzk => ?_, fun j hj b c hb => ?_⟩
    · rw [Li_set hlt]
      by_cases e1 : z.i = x.i
      · exact ⟨fun _ => by rw [e1]; omega, fun _ => .inl e1⟩
      · have h3 : loF pl 0 z.i ≠ k := fun h4 => e1 (loud_uniq pl 0 hpw z hz x hx hlz hlx (by rw [h4, hxk]))
        rw [hlo z hz hlz]
        constructor
        · rintro (h4 | h4)
          · exact absurd h4 e1
          · omega
        · intro h4; right; omega
    · obtain ⟨h3, h4⟩ := hunl _ hzl
      have hfz := hD.fx z hz
      simp only [Nat.zero_add] at hfz
      obtain ⟨c, mk, S1, _, _, _, hb0, hb1⟩ := hfz.alloc ha.2 ha.1
      by_cases h5 : loF pl 0 z.i ≤ k
      · have hlz : loudB z.ins = false := loudB_not (by rw [ha.1]; intro h; cases h)
        have hhi := hP.hi k _ hk hcl hlo z hz hlz h4
        rw [hF'.keep _ _ (hb1 k h5 hhi hk)]
        exact hnm z hz ha h4 h5
      · have h6 : loF pl 0 z.i = k + 1 := by omega
        rw [h6] at hb0
        cases he : e' (nm z.i) with
        | none => rfl
        | some y => obtain ⟨_, c2, hc2⟩ := hR'.dom _ _ he; rw [hb0] at hc2; cases hc2
    · by_cases h3 : j ≤ k
      · exact hdm j h3 b c hb
      · have : j = k + 1 := by omega
        subst this
        obtain ⟨c1, hc1⟩ := hF.dom b c hb
        exact hF'.dom b c1 hc1
  unfold wpOpIn
  simp only [ho]
  cases hw : wantedA ops SF x.o.guard with
  | false =>
    rw [if_neg (by rw [← hwant, hw]; exact Bool.false_ne_true)]
    refine ⟨fun f _ => trivial, ?_⟩
    obtain ⟨h1, h2⟩ := hfx.skip hw
    have hv : VR e (v x.i) undef := by rw [h1]; exact VR.undef_
    cases hlx : loudB x.ins with
    | false => exact quiet hlx e w undef (Env.le.refl e) hR hF hv fun z hz ha _ hzl hzk => hnm z hz ha hzl hzk
    | true =>
      have hxk : loF pl 0 x.i = k := by
        have : ¬ loF pl 0 x.i < k := fun h => hnl ((hlo x hx hlx).2 h)
        omega
      have h3 := h2 hlx
      rw [hxk] at h3
      exact loud hlx e w undef (by rw [h3]; exact Fol.refl _ _) (by rw [h3]; exact hR) hxk hv
  | true =>
    rw [if_pos (by rw [← hwant, hw])]
    have hins := (hP.of x hx).ins
    cases hc : insCls x.ins with
    | still =>
      have hlx : loudB x.ins = false := loudB_not (by rw [hc]; intro h; cases h)
      have hhi := hP.hi k _ hk hcl hlo x hx hlx hnl
      obtain ⟨S1, g1, g2⟩ := hfx.still hw hc k hlox hhi hk
      rw [hins] at hc g2
      obtain ⟨v', hr, hv⟩ := HO.still x.o S1 σ (H k) e w (v x.i) hc g2 hR (hops S1 g1)
      refine wpIn_of_resE (k := fun u w' => u = v' ∧ w' = w) (by rw [hf.eval, hr]; exact ⟨rfl, rfl⟩) ?_
      rintro u w' ⟨rfl, rfl⟩
      exact quiet hlx e w' u (Env.le.refl e) hR hF hv fun z hz ha _ hzl hzk => hnm z hz ha hzl hzk
    | alloc =>
      have hlx : loudB x.ins = false := loudB_not (by rw [hc]; intro h; cases h)
      have hhi := hP.hi k _ hk hcl hlo x hx hlx hnl
      obtain ⟨c, mk, S1, g1, g2, g3, g4, g5⟩ := hfx.alloc hw hc
      have hen := hnm x hx ⟨hc, hw⟩ hnl hlox
      have hgc := g5 k hlox hhi hk
      have haw : AW ops SF x := ⟨hc, hw⟩
      rw [hins] at hc g2
      obtain ⟨ob, sh, r, v', w1, h1, hr, hcr, hv⟩ := HO.alloc x.o S1 σ e c mk hc g2 (hops S1 g1) (nm x.i) w hen
      obtain ⟨hR1, hsz1⟩ := hR.drewOr h1
      have hR2 := hR1.alloc_ hgc hen ob sh r (by rw [hsz1]; exact hcr)
      rw [hsz1] at hR2
      have hle := upd_le (x := ⟨w.heap.size, sh, r⟩) hen
      refine wpIn_of_resE (k := fun u w' => u = v' ∧ w' = w1.alloc ob) (by rw [hf.eval, hr]; exact ⟨rfl, rfl⟩) ?_
      rintro u w' ⟨rfl, rfl⟩
      refine quiet hlx _ _ u hle hR2 ⟨fun b c2 hb => ?_, hF.dom⟩ (by rw [g3]; exact hv) fun z hz ha hne hzl hzk => ?_
      · obtain ⟨c3, hc3⟩ := hdm _ hlox b c2 hb
        unfold Env.upd
        rw [if_neg (fun e1 => by subst e1; rw [g4] at hc3; cases hc3)]
        exact hF.keep b c2 hb
      · have hlz : loudB z.ins = false := loudB_not (by rw [ha.1]; intro h; cases h)
        have hzh := hP.hi k _ hk hcl hlo z hz hlz hzl
        have := hD.two z hz x hx ha haw hne (by omega) (by omega)
        unfold Env.upd
        rw [if_neg this]
        exact hnm z hz ha hzl hzk
    | loud =>
      have hlx : loudB x.ins = true := loudB_cls hc
      have hxk : loF pl 0 x.i = k := by
        have : ¬ loF pl 0 x.i < k := fun h => hnl ((hlo x hx hlx).2 h)
        omega
      obtain ⟨S1, g1, g2⟩ := hfx.loud hw hc
      rw [hins] at hc g2
      rw [hxk] at g2
      refine wpIn_of_resE (k := PostA C B w0 (H k) e (Bs (k + 1)) (v x.i)) (by rw [hf.eval]; exact HO.loud x.o S1 σ (H k) (Bs (k + 1)) e w (v x.i) hc g2 hR (hops S1 g1)) ?_
      rintro u w' ⟨e', hF', hR', hv⟩
      exact loud hlx e' w' u hF' hR' hxk hv
theorem DInv.all {pl : List PS} {s SF : Sl} {st stF : St} {H Bs : Nat → St} {v : Nat → Value} {nm : Nat → Nat} {e0 : Env} {Q : Exit → Act → World → Prop} (HO : OpsOK C B w0 callF) (hP : PlanOK C ops pl) (hD : DF C callF n ops pl s s SF st stF 0 [] H Bs v nm)
    (hend : ∀ listed a w, DInv C B w0 n ds ops pl SF H Bs nm s st e0 listed a w → Region.ready .any ops.toArray listed = [] → Q .normal a w) :
    ∀ (fuel : Nat) (listed : Array Bool) (a : Act) (w : World), DInv C B w0 n ds ops pl SF H Bs nm s st e0 listed a w → listed.toList.countP (fun b => !b) ≤ fuel → wpAnyIn (fR ro) 0 C.P .any ops.toArray Q fuel listed a w := by
  intro fuel
  induction fuel with
  | zero =>
    intro listed a w hp hc
    have hr : Region.ready .any ops.toArray listed = [] := by
      rw [List.eq_nil_iff_forall_not_mem]
      intro i hi
      obtain ⟨hl, hv⟩ := getD_true (mem_ready.1 hi).1
      have := List.countP_eq_zero.1 (Nat.le_zero.1 hc) _ (List.getElem_mem hl)
      simp [hv] at this
    exact ⟨hr, hend listed a w hp hr⟩
  | succ fuel ih =>
    intro listed a w hp hc
    refine ⟨fun hr => hend listed a w hp hr, fun i hi => ?_⟩
    obtain ⟨hl, hv⟩ := getD_true (mem_ready.1 hi).1
    refine wpOpIn_mono (fun a' w' hp' => ih _ _ _ hp' ?_) (hp.step (Q := Q) HO hP hD hi)
    rw [Array.toList_setIfInBounds, List.countP_set hl]
    generalize List.countP (fun b => !b) listed.toList = c at hc ⊢
    simp [hv]
    omega
theorem draw_ok (hC : C.OK) (HO : OpsOK C B w0 callF) : DrawOK C B w0 callF := by
  intro n ops pl s s' st st' hpl hdr ro ds id e w σ a Q hR hs hf hQ
  have hP := plan_ok hpl
  obtain ⟨H, Bs, v, nm, hD⟩ := draw_facts (S0 := s) pl s st 0 [] hdr hP.rowed (fun q hq => by cases hq) (fun q hq => by cases hq) (fun _ _ _ _ => rfl)
  have hpw := hP.rowed.pairwise
  refine wpIn_region_any hC.mixed ?_
  have h0 : ∀ i, i < ops.length → ¬ Li (Array.replicate ops.length false) i := fun i hi => by unfold Li; simp [Array.getD, hi]
  have hin : ∀ x ∈ pl, x.i < ops.length := fun x hx => (List.getElem?_eq_some_iff.1 (hP.of x hx).at_).1
  have hge := hD.ge 0 (Nat.le_refl _) (by omega)
  rw [hD.first] at hge
  refine DInv.all (e0 := e) (Q := Q) HO hP hD (fun listed a' w' hp hr => ?_) _ _ _ _ ⟨by simp, fun x hx hxl => absurd hxl (by simpa using h0 _ (hin x hx)), 0, e, σ, s, Nat.zero_le _, fun x hx _ => ⟨fun h => absurd h (by simpa using h0 _ (hin x hx)), fun h => by omega⟩, hR.drew.ghosts hge, ⟨fun _ _ _ => rfl, fun b c hb => ⟨c, hge.he _ _ hb⟩⟩, hf, hs, fun t ht => ?_, fun _ _ _ _ _ => rfl, fun x hx ha _ hx0 => ?_, fun j hj b c hb => ?_⟩ (by simp [List.countP_replicate])
  · obtain ⟨hsz, hcl, k, e', σ', S, hk, hlo, hR', hF', hf', hs', hS, _, _, _⟩ := hp
    have hall : ∀ x ∈ pl, Li listed x.i := by
      refine hP.all (Li listed) fun x hx hd => ?_
      cases hun : listed.getD x.i true with
      | true => exact hun
      | false =>
        have hm : x.i ∈ Region.ready .any ops.toArray listed := mem_ready.2 ⟨hun, x.o, by simpa using (hP.of x hx).at_, fun e1 he hb => by
          have h1 := hd e1.on ⟨e1, he, hb, rfl⟩
          obtain ⟨z, hzm, hze⟩ := hP.inn x hx e1.on ⟨e1, he, hb, rfl⟩
          have hz := (hP.of z hzm).at_
          rw [hze] at hz
          have h2 : e1.on < listed.size := by rw [hsz]; exact (List.getElem?_eq_some_iff.1 hz).1
          unfold Li at h1
          simpa [Array.getD, h2] using h1⟩
        rw [hr] at hm
        cases hm
    have hkk : k = louds pl := by
      by_cases h1 : k < louds pl
      · obtain ⟨x, hx, h2, h3⟩ := loud_at pl 0 k hpw (Nat.zero_le _) (by omega)
        have := (hlo x hx h2).1 (hall x hx)
        omega
      · omega
    have hlast := hD.last
    rw [Nat.zero_add, ← hkk] at hlast
    rw [hlast] at hR' hF'
    refine hQ e' w' σ' a' hF' hR' (fun t => ?_) hf'
    have := hs' t
    rwa [hS t fun x hx hxl => absurd (hall x hx) hxl] at this
  · refine (hD.far t fun x hx => ht x hx (by simpa using h0 _ (hin x hx))).symm
  · have h1 := hD.new x hx ha (by omega)
    cases he : e (nm x.i) with
    | none => rfl
    | some y => obtain ⟨_, c2, hc2⟩ := hR.dom _ _ he; rw [h1] at hc2; cases hc2
  · have : j = 0 := by omega
    subst this
    rw [hD.first]
    exact ⟨c, hb⟩
end
end Go.Proofs.YtmcbcoafodmbjaaGreatDoor.Ex
namespace Go.Proofs.YtmcbcoafodmbjaaGreatDoor.Ex
open Go Go.RowKit
set_option linter.unusedVariables false
set_option linter.unusedSimpArgs false
section
variable {C : Ctx} {B : Nat} {w0 : World}
theorem go_all (hC : C.OK) {ext : CallF} (hext : ExtOK C B w0 ext) (L d : Nat) : CallOK C B w0 (go C ext L d) ∧ EntOK C (go C ext L d) :=
  go_ok hC hext (fun _ h1 h2 => ops_ok hC h1 h2) (fun _ h => draw_ok hC h) d
theorem rel_none (w : World) (hg : ∀ g, C.gl g = false) : Rel C w.heap.size w (fun _ => none) ⟨.leaf, 0⟩ w :=
  ⟨fun b c x h => (by cases h), fun b b' c c' x x' h => (by cases h), fun b x h => (by cases h), fun b _ => rfl, fun b c x h => (by cases h), Below.refl _ _, Nat.le_refl _, fun g h => (by rw [hg] at h; cases h)⟩
theorem call_none (hC : C.OK) (hg : ∀ g, C.gl g = false) {ext : CallF} {w : World} (hext : ExtOK C w.heap.size w ext) {L d f : Nat} {args args' : List Value} {v : Value} {st' : St} (h : go C ext L d (.fn f) args ⟨.leaf, 0⟩ = some (v, st')) (hv : nf v = true) (ha : LR (fun _ => none) args args') :
    callE C.P f ⟨args'⟩ w fun v' w' => v' = v ∧ Below w.heap.size w w' := by
  refine callE_of ((go_all hC hext L d).1 (.fn f) args _ v st' h _ w args' (rel_none w hg) ha) ?_
  rintro v' w' ⟨e', hF, hR, hr⟩
  exact ⟨(nf_eq hv hr).symm, hR.keep⟩
end
end Go.Proofs.YtmcbcoafodmbjaaGreatDoor.Ex
namespace Go.Proofs.YtmcbcoafodmbjaaGreatDoor.Ex
open Go Go.RowKit
set_option linter.unusedVariables false
set_option linter.unusedSimpArgs false
section
variable {P : Program} {n : Nat} {b : Code} {Q : Exit → Slots → World → Prop} {s : Slots} {w : World}
end
theorem Rel.below {C : Ctx} {B : Nat} {w0 : World} {e : Env} {st : St} {w w' : World} (h : Rel C B w0 e st w) (hb : Below w.heap.size w w') : Rel C B w0 e st w' :=
  ⟨fun b c x hg he => by rw [hb.block _ (h.dom _ _ he).1]; exact h.obj _ _ _ hg he, h.inj, fun b x he => ⟨Nat.lt_of_lt_of_le (h.dom _ _ he).1 hb.size, (h.dom _ _ he).2⟩, h.fresh, h.own,
    below_of h.keep hb.os hb.tape hb.output hb.size fun k hk => hb.block k (Nat.lt_of_lt_of_le hk h.base), Nat.le_trans h.base hb.size, h.glob⟩
end Go.Proofs.YtmcbcoafodmbjaaGreatDoor.Ex
