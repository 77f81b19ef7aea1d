/-
  GateOwn's plain law: whatever others send, a validator of which nothing is within is let in by its share. No walk in sight.
-/
import Derived.Test.YtilpmnbnjeahnaaGNew
namespace Go.Proofs.Ytilpmnbnjeahnaa
set_option linter.unusedVariables false
def sumL : List (Int × GIn) → Int
  | [] => 0
  | x :: l => x.2.large + sumL l
def sumU (u : Nat) : List (Int × GIn) → Int
  | [] => 0
  | x :: l => (if x.2.v = u then x.2.large else 0) + sumU u l
theorem sumL_app (x : Int × GIn) : ∀ l, sumL (l ++ [x]) = sumL l + x.2.large
  | [] => by simp [sumL]
  | y :: l => by simp only [List.cons_append, sumL, sumL_app x l]; omega
theorem sumU_app (u : Nat) (x : Int × GIn) : ∀ l, sumU u (l ++ [x]) = sumU u l + (if x.2.v = u then x.2.large else 0)
  | [] => by simp [sumU]
  | y :: l => by simp only [List.cons_append, sumU, sumU_app u x l]; omega
theorem sumL_del {t : Int} {x : GIn} : ∀ {l}, atG t l = some x → sumL (delG t l) = sumL l - x.large
  | [], h => by cases h
  | y :: l, h => by
    unfold atG at h
    unfold delG
    split at h
    · rename_i e; injection h with h; subst h; rw [if_pos e]; simp only [sumL]; omega
    · rename_i e; rw [if_neg e]; simp only [sumL, sumL_del h]; omega
theorem sumU_del (u : Nat) {t : Int} {x : GIn} : ∀ {l}, atG t l = some x → sumU u (delG t l) = sumU u l - (if x.v = u then x.large else 0)
  | [], h => by cases h
  | y :: l, h => by
    unfold atG at h
    unfold delG
    split at h
    · rename_i e; injection h with h; subst h; rw [if_pos e]; simp only [sumU]; omega
    · rename_i e; rw [if_neg e]; simp only [sumU, sumU_del u h]; omega
theorem in_del {t : Int} {y : Int × GIn} : ∀ {l}, y ∈ delG t l → y ∈ l
  | [], h => by cases h
  | x :: l, h => by
    unfold delG at h
    split at h
    · exact List.mem_cons_of_mem _ h
    · rcases List.mem_cons.1 h with rfl | h
      · exact List.mem_cons_self ..
      · exact List.mem_cons_of_mem _ (in_del h)
theorem sumL_nn : ∀ {l : List (Int × GIn)}, (∀ x ∈ l, 0 ≤ x.2.large) → 0 ≤ sumL l
  | [], _ => by simp [sumL]
  | x :: l, h => by
    have h1 := h x (List.mem_cons_self ..)
    have h2 := sumL_nn (l := l) fun y hy => h y (List.mem_cons_of_mem _ hy)
    simp only [sumL]; omega
theorem sumU_nn (u : Nat) : ∀ {l : List (Int × GIn)}, (∀ x ∈ l, 0 ≤ x.2.large) → 0 ≤ sumU u l
  | [], _ => by simp [sumU]
  | x :: l, h => by
    have h1 := h x (List.mem_cons_self ..)
    have h2 := sumU_nn u (l := l) fun y hy => h y (List.mem_cons_of_mem _ hy)
    simp only [sumU]; split <;> omega
theorem at_none {t : Int} : ∀ {l : List (Int × GIn)}, (∀ x ∈ l, x.1 ≠ t) → atG t l = none
  | [], _ => rfl
  | x :: l, h => by
    unfold atG
    rw [if_neg fun e => h x (List.mem_cons_self ..) e.symm]
    exact at_none fun y hy => h y (List.mem_cons_of_mem _ hy)
theorem wrap_id {x : Int} (h : -9223372036854775808 ≤ x ∧ x ≤ 9223372036854775807) : IntKind.i64.wrap x = x := by rw [IntKind.wrap_i64]; omega
/-- what holds behind whatever others do -/
structure Inv (c : GCfg) (sh : List Int) (n v k : Nat) (S : GS) : Prop where
  cfg : S.cfg = c
  nn : S.n = n
  share : S.share = sh
  free : S.free = c.large - sumL S.l
  free0 : 0 ≤ S.free
  st : ∀ u, u < n → (S.st u).large = sumU u S.l ∧ (S.st u).large ≤ c.each
  ent : ∀ x ∈ S.l, x.2.v < n ∧ x.2.v ≠ v ∧ 0 ≤ x.2.large ∧ 1 ≤ x.1 ∧ x.1 ≤ S.last
  last : 0 ≤ S.last ∧ S.last ≤ k
  own : (S.st v).many = 0 ∧ (S.st v).large = 0 ∧ (S.st v).own = 0
variable {c : GCfg} {sh : List Int} {n v k : Nat} {S : GS}
theorem Inv.more (h : Inv c sh n v k S) : Inv c sh n v (k + 1) S := { h with last := ⟨h.last.1, by have := h.last.2; omega⟩ }
theorem Inv.fresh (h : Inv c sh n v k S) (hk : k ≤ 1000) : S.next = S.last + 1 ∧ atG S.next S.l = none := by
  have e : S.next = S.last + 1 := wrap_id (by have := h.last; omega)
  refine ⟨e, at_none fun x hx => ?_⟩
  have := (h.ent x hx).2.2.2.2
  rw [e]; omega
theorem Inv.lets (h : Inv c sh n v k S) : ∀ x ∈ S.l, x.2.v < S.n := fun x hx => by rw [h.nn]; exact (h.ent x hx).1
theorem Inv.drop (h : Inv c sh n v k S) (u : Nat) : Inv c sh n v k (S.drop u) := by
  refine { cfg := h.cfg, nn := h.nn, share := h.share, free := h.free, free0 := h.free0, st := fun w hw => ?_, ent := h.ent, last := h.last, own := ?_ }
  · have := h.st w hw
    simp only [GS.drop, GS.setSt]
    split
    · rename_i e; subst e; exact this
    · exact this
  · have := h.own
    simp only [GS.drop, GS.setSt]
    split
    · rename_i e; subst e; exact this
    · exact this
theorem Inv.room (h : Inv c sh n v k S) (hc : cfgOk c) (u : Nat) (hu : u < n) (size : Int) (hs : 0 ≤ size) :
    0 ≤ S.room u size ∧ S.room u size ≤ size ∧ S.room u size ≤ S.free ∧ S.room u size ≤ c.each - (S.st u).large := by
  obtain ⟨h1, h2⟩ := h.st u hu
  have h3 := sumU_nn u fun x hx => (h.ent x hx).2.2.1
  have h4 := h.free0
  unfold cfgOk at hc
  rw [GS.room, h.cfg, wrap_id (by omega)]
  omega
theorem Inv.enter (h : Inv c sh n v k S) (hc : cfgOk c) (hk : k ≤ 1000) (o size : Int) (ho : o ≠ v) : Inv c sh n v (k + 1) (S.enter o size).1 := by
  unfold GS.enter
  split
  · exact h.more
  · rename_i h1
    have hn := h.nn
    have hu : o.toNat < n := by omega
    have hov : o.toNat ≠ v := by omega
    split
    · exact (h.drop _).more
    · split
      · exact (h.drop _).more
      · obtain ⟨r0, r1, r2, r3⟩ := h.room hc o.toNat hu size (by omega)
        have hf := h.fresh hk
        have hlast := h.last
        have hfree := h.free
        have hfree0 := h.free0
        have hnn := sumL_nn fun x hx => (h.ent x hx).2.2.1
        have hcc := hc
        unfold cfgOk at hcc
        refine { cfg := h.cfg, nn := h.nn, share := h.share, free := ?_, free0 := ?_, st := fun w hw => ?_, ent := fun x hx => ?_, last := ?_, own := ?_ }
        · simp only [GS.lets, GS.count, sumL_app]
          rw [wrap_id (by omega)]; omega
        · simp only [GS.lets, GS.count]
          rw [wrap_id (by omega)]; omega
        · obtain ⟨s1, s2⟩ := h.st w hw
          have s3 := sumU_nn w fun x hx => (h.ent x hx).2.2.1
          simp only [GS.lets, GS.count, sumU_app]
          by_cases e : w = o.toNat
          · subst e
            simp only [if_true]
            rw [wrap_id (by omega)]; omega
          · rw [if_neg e, if_neg fun e' => e e'.symm]; omega
        · simp only [GS.lets, GS.count] at hx ⊢
          rcases List.mem_append.1 hx with hx | hx
          · obtain ⟨p1, p2, p3, p4, p5⟩ := h.ent x hx
            exact ⟨p1, p2, p3, p4, by rw [hf.1]; omega⟩
          · obtain rfl := List.mem_singleton.1 hx
            exact ⟨hu, hov, r0, by rw [hf.1]; omega, Int.le_refl _⟩
        · simp only [GS.lets, GS.count]
          rw [hf.1]; omega
        · simp only [GS.lets, GS.count]
          rw [if_neg fun e => hov e.symm]
          exact h.own
theorem Inv.leave (h : Inv c sh n v k S) (hc : cfgOk c) (t : Int) : Inv c sh n v k (S.leave t).1 := by
  unfold GS.leave
  split
  · rename_i x hat
    obtain ⟨p1, p2, p3, p4, p5⟩ := h.ent _ (at_in hat)
    have hd := sumL_del hat
    have hnd := sumL_nn (l := delG t S.l) fun y hy => (h.ent y (in_del hy)).2.2.1
    have hfree := h.free
    have hfree0 := h.free0
    have hcc := hc
    unfold cfgOk at hcc
    simp only at p1 p2 p3
    have w1 : IntKind.i64.wrap (-x.large) = -x.large := wrap_id (by omega)
    refine { cfg := h.cfg, nn := h.nn, share := h.share, free := ?_, free0 := ?_, st := fun w hw => ?_, ent := fun y hy => ?_, last := h.last, own := ?_ }
    · simp only [GS.count, hd, w1]
      rw [wrap_id (by omega)]; omega
    · simp only [GS.count, w1]
      rw [wrap_id (by omega)]; omega
    · obtain ⟨s1, s2⟩ := h.st w hw
      have s3 := sumU_nn w (l := delG t S.l) fun y hy => (h.ent y (in_del hy)).2.2.1
      have s4 := sumU_del w hat
      simp only [GS.count, w1]
      by_cases e : w = x.v
      · subst e
        simp only [if_true] at s4 ⊢
        rw [wrap_id (by omega)]; omega
      · rw [if_neg fun e' => e e'.symm] at s4
        rw [if_neg e]; omega
    · simp only [GS.count] at hy ⊢
      exact h.ent y (in_del hy)
    · simp only [GS.count]
      rw [if_neg fun e => p2 e.symm]
      exact h.own
  · exact h
/-- The validator itself is let in. -/
theorem Inv.in_ (h : Inv c sh n v k S) (hc : cfgOk c) (hv : v < n) (size : Int) (h0 : 0 ≤ size) (h1 : size ≤ sh.getD v 0) (h2 : sh.getD v 0 ≤ 1073741824) (h3 : size ≤ c.size) : (S.enter v size).2.2 = 0 := by
  obtain ⟨r0, r1, r2, r3⟩ := h.room hc v hv size h0
  obtain ⟨o1, o2, o3⟩ := h.own
  have hcc := hc
  unfold cfgOk at hcc
  have hcfg := h.cfg
  have hn := h.nn
  have hsh := h.share
  have hr : S.rest v size = size - S.room v size := wrap_id (by omega)
  have hE : S.room v size = min (min size S.free) c.each := by
    rw [GS.room, hcfg, o2, wrap_id (by omega)]; omega
  have hD : IntKind.i64.wrap (S.share.getD v 0 - (S.st v).own) = sh.getD v 0 := by rw [hsh, o3, wrap_id (by omega)]; omega
  have hfull : S.full v size = false := by
    rw [GS.full, hD, hr, o1, hcfg, decide_eq_false_iff_not]; omega
  unfold GS.enter
  rw [if_neg (by omega), if_neg (by rw [hcfg]; omega), Int.toNat_natCast, hfull]
  simp
theorem Inv.new (hc : cfgOk c) (l : List Int) (v : Nat) : Inv c (sharesTo c.own l l.length) l.length v 0 (GS.new c l) := by
  unfold cfgOk at hc
  refine { cfg := rfl, nn := rfl, share := rfl, free := by simp [GS.new, sumL], free0 := by simp only [GS.new]; omega, st := fun u hu => ⟨rfl, show (0 : Int) ≤ c.each by omega⟩, ent := fun x hx => by simp [GS.new] at hx, last := by simp [GS.new], own := ⟨rfl, rfl, rfl⟩ }
end Go.Proofs.Ytilpmnbnjeahnaa
