/-
  What holds of a gate behind whatever enters and leaves: plain Lean, no walk in sight.
-/
import Derived.Test.YtilpmnbnjeahnaaOwnPlain
import Derived.Test.YtilpmnbnjeahnaaGAll
namespace Go.Proofs.Ytilpmnbnjeahnaa
set_option linter.unusedVariables false
def sumG (f : GIn → Int) : List (Int × GIn) → Int
  | [] => 0
  | x :: l => f x.2 + sumG f l
theorem sumG_app (f : GIn → Int) (x : Int × GIn) : ∀ l, sumG f (l ++ [x]) = sumG f l + f x.2
  | [] => by simp [sumG]
  | y :: l => by simp only [List.cons_append, sumG, sumG_app f x l]; omega
theorem sumG_del (f : GIn → Int) {t : Int} {x : GIn} : ∀ {l}, atG t l = some x → sumG f (delG t l) = sumG f l - f x
  | [], h => by cases h
  | y :: l, h => by
    unfold atG at h
    unfold delG
    split at h
    · rename_i e; injection h with h; subst h; rw [if_pos e]; simp only [sumG]; omega
    · rename_i e; rw [if_neg e]; simp only [sumG, sumG_del f h]; omega
theorem sumG_nn (f : GIn → Int) : ∀ {l : List (Int × GIn)}, (∀ x ∈ l, 0 ≤ f x.2) → 0 ≤ sumG f l
  | [], _ => by simp [sumG]
  | x :: l, h => by
    have h1 := h x (List.mem_cons_self ..)
    have h2 := sumG_nn f (l := l) fun y hy => h y (List.mem_cons_of_mem _ hy)
    simp only [sumG]; omega
/-- those of the validator u alone -/
def onU (u : Nat) (f : GIn → Int) (x : GIn) : Int := if x.v = u then f x else 0
theorem onU_nn {u : Nat} {f : GIn → Int} {x : GIn} (h : 0 ≤ f x) : 0 ≤ onU u f x := by unfold onU; split <;> omega
/-- all validators together -/
def sumN (g : Nat → Int) : Nat → Int
  | 0 => 0
  | n + 1 => sumN g n + g n
theorem sumN_zero (n : Nat) : sumN (fun _ => 0) n = 0 := by induction n <;> simp_all [sumN]
theorem sumN_add (g h : Nat → Int) (n : Nat) : sumN (fun u => g u + h u) n = sumN g n + sumN h n := by
  induction n with
  | zero => rfl
  | succ n ih => simp only [sumN, ih]; omega
theorem sumN_on (f : GIn → Int) (x : GIn) : ∀ n, sumN (fun u => onU u f x) n = if x.v < n then f x else 0
  | 0 => by simp [sumN]
  | n + 1 => by
    have ih := sumN_on f x n
    simp only [sumN]
    rw [ih]
    unfold onU
    by_cases h : x.v = n
    · rw [if_neg (by omega), if_pos h, if_pos (by omega)]; omega
    · rw [if_neg h]
      by_cases h2 : x.v < n
      · rw [if_pos h2, if_pos (by omega)]; omega
      · rw [if_neg h2, if_neg (by omega)]; omega
theorem sumN_sumG (f : GIn → Int) (n : Nat) : ∀ l : List (Int × GIn), (∀ x ∈ l, x.2.v < n) → sumN (fun u => sumG (onU u f) l) n = sumG f l
  | [], _ => sumN_zero n
  | x :: l, h => by
    have e : (fun u => sumG (onU u f) (x :: l)) = fun u => onU u f x.2 + sumG (onU u f) l := rfl
    rw [e, sumN_add, sumN_on, sumN_sumG f n l fun y hy => h y (List.mem_cons_of_mem _ hy), if_pos (h x (List.mem_cons_self ..))]
    rfl
theorem sumG_len : ∀ l : List (Int × GIn), sumG (fun _ => 1) l = l.length
  | [] => rfl
  | x :: l => by simp only [sumG, sumG_len l, List.length_cons]; omega
theorem sumN_mono {g : Nat → Int} {n : Nat} (h : ∀ u, u < n → 0 ≤ g u) : ∀ {i j : Nat}, i ≤ j → j ≤ n → sumN g i ≤ sumN g j := by
  intro i j hij hj
  induction j with
  | zero => obtain rfl : i = 0 := by omega
            exact Int.le_refl _
  | succ j ih =>
    rcases Nat.lt_or_ge i (j + 1) with h1 | h1
    · have := ih (by omega) (by omega)
      have := h j (by omega)
      simp only [sumN]; omega
    · obtain rfl : i = j + 1 := by omega
      exact Int.le_refl _
theorem sumN_congr {g h : Nat → Int} : ∀ {n : Nat}, (∀ u, u < n → g u = h u) → sumN g n = sumN h n
  | 0, _ => rfl
  | n + 1, e => by simp only [sumN]; rw [sumN_congr fun u hu => e u (by omega), e n (by omega)]
/-- what holds of a gate -/
structure IF (c : GCfg) (sh : List Int) (n k : Nat) (S : GS) : Prop where
  cfg : S.cfg = c
  nn : S.n = n
  share : S.share = sh
  free : S.free = c.large - sumG (·.large) S.l
  free0 : 0 ≤ S.free
  st : ∀ u, u < n → (S.st u).many = sumG (onU u fun _ => 1) S.l ∧ (S.st u).large = sumG (onU u (·.large)) S.l ∧ (S.st u).own = sumG (onU u (·.own)) S.l
  max : ∀ u, u < n → (S.st u).many ≤ c.many ∧ (S.st u).large ≤ c.each ∧ (S.st u).own ≤ sh.getD u 0
  drops : ∀ u, u < n → 0 ≤ (S.st u).drops ∧ (S.st u).drops ≤ k
  ent : ∀ x ∈ S.l, x.2.v < n ∧ 0 ≤ x.2.large ∧ 0 ≤ x.2.own ∧ 1 ≤ x.1 ∧ x.1 ≤ S.last
  asc : (keysG S).Pairwise (· < ·)
  last : 0 ≤ S.last ∧ S.last ≤ k
  len : S.l.length ≤ k
variable {c : GCfg} {sh : List Int} {n k : Nat} {S : GS}
theorem IF.more (h : IF c sh n k S) : IF c sh n (k + 1) S := { h with last := ⟨h.last.1, by have := h.last.2; omega⟩, len := by have := h.len; omega, drops := fun u hu => ⟨(h.drops u hu).1, by have := (h.drops u hu).2; omega⟩ }
theorem IF.fresh (h : IF c sh n k S) (hk : k ≤ 1000) : S.next = S.last + 1 ∧ atG S.next S.l = none := by
  have e : S.next = S.last + 1 := wrap_id (by have := h.last; omega)
  refine ⟨e, at_none fun x hx => ?_⟩
  have := (h.ent x hx).2.2.2.2
  rw [e]; omega
theorem IF.lets (h : IF c sh n k S) : ∀ x ∈ S.l, x.2.v < S.n := fun x hx => by rw [h.nn]; exact (h.ent x hx).1
theorem IF.ascS (h : IF c sh n k S) (hk : k ≤ 1000) : Asc S := ⟨h.asc, fun x hx => by
  obtain ⟨_, _, _, h1, h2⟩ := h.ent x hx
  have := h.last
  have e1 : IntKind.i64.min = -9223372036854775808 := by decide
  have e2 : IntKind.i64.max = 9223372036854775807 := by decide
  simp only [Lit.wf, e1, e2, Bool.and_eq_true, decide_eq_true_eq]
  omega, by have := h.len; omega⟩
theorem IF.bounds (h : IF c sh n k S) {u : Nat} (hu : u < n) : 0 ≤ (S.st u).many ∧ 0 ≤ (S.st u).large ∧ 0 ≤ (S.st u).own := by
  obtain ⟨h1, h2, h3⟩ := h.st u hu
  rw [h1, h2, h3]
  exact ⟨sumG_nn _ fun x hx => onU_nn (by simp), sumG_nn _ fun x hx => onU_nn (h.ent x hx).2.1, sumG_nn _ fun x hx => onU_nn (h.ent x hx).2.2.1⟩
theorem IF.drop (h : IF c sh n k S) (hk : k ≤ 1000) (u : Nat) : IF c sh n (k + 1) (S.drop u) := by
  refine { cfg := h.cfg, nn := h.nn, share := h.share, free := h.free, free0 := h.free0, st := fun w hw => ?_, max := fun w hw => ?_, drops := fun w hw => ?_, ent := h.ent, asc := h.asc, last := ⟨h.last.1, by have := h.last.2; show S.last ≤ _; omega⟩, len := by have := h.len; show S.l.length ≤ _; omega }
  · have := h.st w hw
    simp only [GS.drop, GS.setSt]
    split
    · rename_i e; subst e; exact this
    · exact this
  · have := h.max w hw
    simp only [GS.drop, GS.setSt]
    split
    · rename_i e; subst e; exact this
    · exact this
  · have := h.drops w hw
    simp only [GS.drop, GS.setSt]
    split
    · rename_i e; subst e
      simp only
      rw [wrap_id (by omega)]; omega
    · omega
theorem IF.room (h : IF c sh n k S) (hc : cfgOk c) (u : Nat) (hu : u < n) (size : Int) (hs : 0 ≤ size) :
    0 ≤ S.room u size ∧ S.room u size ≤ size ∧ S.room u size ≤ S.free ∧ S.room u size ≤ c.each - (S.st u).large := by
  obtain ⟨_, h2, _⟩ := h.max u hu
  obtain ⟨_, h3, _⟩ := h.bounds hu
  have h4 := h.free0
  unfold cfgOk at hc
  rw [GS.room, h.cfg, wrap_id (by omega)]
  omega
theorem nodup_app {l : List (Int × GIn)} {t : Int} {x : GIn} (h : (l.map (·.1)).Pairwise (· < ·)) (hx : ∀ y ∈ l, y.1 < t) : ((l ++ [(t, x)]).map (·.1)).Pairwise (· < ·) := by
  rw [List.map_append, List.pairwise_append]
  refine ⟨h, by simp, fun a ha b hb => ?_⟩
  obtain ⟨y, hy, rfl⟩ := List.mem_map.1 ha
  simp only [List.map_cons, List.map_nil, List.mem_singleton] at hb
  subst hb
  exact hx y hy
theorem del_sub {t : Int} : ∀ {l : List (Int × GIn)}, (delG t l).Sublist l
  | [] => List.Sublist.refl _
  | x :: l => by
    unfold delG
    split
    · exact List.sublist_cons_self _ _
    · exact del_sub.cons_cons _
theorem IF.enter (h : IF c sh n k S) (hc : cfgOk c) (hsh : ∀ u, u < n → 0 ≤ sh.getD u 0 ∧ sh.getD u 0 ≤ 1073741824) (hk : k ≤ 1000) (o size : Int) : IF c sh n (k + 1) (S.enter o size).1 := by
  unfold GS.enter
  split
  · exact h.more
  · rename_i h1
    have hn := h.nn
    have hu : o.toNat < n := by omega
    split
    · exact h.drop hk _
    · rename_i h5
      split
      · exact h.drop hk _
      · rename_i hfull
        obtain ⟨r0, r1, r2, r3⟩ := h.room hc o.toNat hu size (by omega)
        have hf := h.fresh hk
        have hlast := h.last
        have hfree := h.free
        have hfree0 := h.free0
        have hnn := sumG_nn (·.large) fun x hx => (h.ent x hx).2.1
        have hcc := hc
        unfold cfgOk at hcc
        obtain ⟨m1, m2, m3⟩ := h.max o.toNat hu
        obtain ⟨b1, b2, b3⟩ := h.bounds hu
        obtain ⟨s1, s2⟩ := hsh o.toNat hu
        have hcfg := h.cfg
        rw [hcfg] at h5
        have hrest : S.rest o.toNat size = size - S.room o.toNat size := wrap_id (by omega)
        rw [GS.full, hcfg, h.share, hrest, wrap_id (by omega), decide_eq_true_eq] at hfull
        refine { cfg := h.cfg, nn := h.nn, share := h.share, free := ?_, free0 := ?_, st := fun w hw => ?_, max := fun w hw => ?_, drops := fun w hw => ?_, ent := fun x hx => ?_, asc := ?_, last := ?_, len := ?_ }
        · simp only [GS.lets, GS.count, sumG_app]
          rw [wrap_id (by omega)]; omega
        · simp only [GS.lets, GS.count]
          rw [wrap_id (by omega)]; omega
        · obtain ⟨t1, t2, t3⟩ := h.st w hw
          simp only [GS.lets, GS.count, sumG_app, onU]
          by_cases e : w = o.toNat
          · subst e
            simp only [if_true]
            rw [wrap_id (by omega), wrap_id (by omega), wrap_id (by omega)]; omega
          · rw [if_neg e, if_neg fun e' => e e'.symm, if_neg fun e' => e e'.symm, if_neg fun e' => e e'.symm]; omega
        · simp only [GS.lets, GS.count]
          by_cases e : w = o.toNat
          · subst e
            simp only [if_true]
            rw [wrap_id (by omega), wrap_id (by omega), wrap_id (by omega)]; omega
          · rw [if_neg e]; exact h.max w hw
        · have hd := h.drops w hw
          simp only [GS.lets, GS.count]
          by_cases e : w = o.toNat
          · subst e
            simp only [if_true]; omega
          · rw [if_neg e]; omega
        · simp only [GS.lets, GS.count] at hx ⊢
          rcases List.mem_append.1 hx with hx | hx
          · obtain ⟨p1, p3, p4, p5, p6⟩ := h.ent x hx
            exact ⟨p1, p3, p4, p5, by rw [hf.1]; omega⟩
          · obtain rfl := List.mem_singleton.1 hx
            exact ⟨hu, r0, by rw [hrest]; show 0 ≤ size - S.room o.toNat size; omega, by rw [hf.1]; omega, Int.le_refl _⟩
        · exact nodup_app h.asc fun y hy => by
            have := (h.ent y hy).2.2.2.2
            rw [hf.1]; omega
        · simp only [GS.lets, GS.count]
          rw [hf.1]; omega
        · have := h.len
          simp only [GS.lets, GS.count, List.length_append, List.length_cons, List.length_nil]; omega
theorem IF.leave (h : IF c sh n k S) (hc : cfgOk c) (hsh : ∀ u, u < n → 0 ≤ sh.getD u 0 ∧ sh.getD u 0 ≤ 1073741824) (t : Int) : IF c sh n k (S.leave t).1 := by
  unfold GS.leave
  split
  · rename_i x hat
    obtain ⟨p1, p3, p4, p5, p6⟩ := h.ent _ (at_in hat)
    have hd := sumG_del (·.large) hat
    have hnd := sumG_nn (·.large) (l := delG t S.l) fun y hy => (h.ent y (in_del hy)).2.1
    have hfree := h.free
    have hfree0 := h.free0
    have hcc := hc
    unfold cfgOk at hcc
    change x.v < n at p1
    change 0 ≤ x.large at p3
    change 0 ≤ x.own at p4
    obtain ⟨m1, m2, m3⟩ := h.max x.v p1
    obtain ⟨s1, s2⟩ := hsh x.v p1
    obtain ⟨b1, b2, b3⟩ := h.bounds p1
    have hsub : ∀ y, y ∈ delG t S.l → y ∈ S.l := fun y hy => in_del hy
    obtain ⟨q1, q2, q3⟩ := h.st x.v p1
    have d1 := sumG_del (onU x.v fun _ => 1) hat
    have d2 := sumG_del (onU x.v (·.large)) hat
    have d3 := sumG_del (onU x.v (·.own)) hat
    have n1 := sumG_nn (onU x.v fun _ => 1) (l := delG t S.l) fun y hy => onU_nn (by simp)
    have n2 := sumG_nn (onU x.v (·.large)) (l := delG t S.l) fun y hy => onU_nn (h.ent y (hsub y hy)).2.1
    have n3 := sumG_nn (onU x.v (·.own)) (l := delG t S.l) fun y hy => onU_nn (h.ent y (hsub y hy)).2.2.1
    simp only [onU, if_true] at d1 d2 d3
    have w1 : IntKind.i64.wrap (-x.large) = -x.large := wrap_id (by omega)
    have w2 : IntKind.i64.wrap (-x.own) = -x.own := wrap_id (by omega)
    have hmax := h.max
    refine { cfg := h.cfg, nn := h.nn, share := h.share, free := ?_, free0 := ?_, st := fun w hw => ?_, max := fun w hw => ?_, drops := fun w hw => ?_, ent := fun y hy => ?_, asc := ?_, last := h.last, len := ?_ }
    · simp only [GS.count, hd, w1]
      rw [wrap_id (by omega)]; omega
    · simp only [GS.count, w1]
      rw [wrap_id (by omega)]; omega
    · obtain ⟨t1, t2, t3⟩ := h.st w hw
      simp only [GS.count, w1, w2]
      by_cases e : w = x.v
      · subst e
        simp only [if_true]
        rw [wrap_id (by omega), wrap_id (by omega), wrap_id (by omega)]
        omega
      · rw [if_neg e, sumG_del _ hat, sumG_del _ hat, sumG_del _ hat]
        have o1 : ∀ f, onU w f x = 0 := fun f => if_neg fun e' => e e'.symm
        rw [o1, o1, o1]; omega
    · simp only [GS.count, w1, w2]
      by_cases e : w = x.v
      · subst e
        simp only [if_true]
        rw [wrap_id (by omega), wrap_id (by omega), wrap_id (by omega)]; omega
      · rw [if_neg e]; exact h.max w hw
    · have hdr := h.drops w hw
      simp only [GS.count]
      by_cases e : w = x.v
      · subst e
        simp only [if_true]; omega
      · rw [if_neg e]; omega
    · simp only [GS.count] at hy ⊢
      exact h.ent y (in_del hy)
    · exact h.asc.sublist (del_sub.map _)
    · have := del_sub (t := t) (l := S.l) |>.length_le
      have := h.len
      simp only [GS.count]; omega
  · exact h
theorem IF.new (hc : cfgOk c) (l : List Int) (hsh : ∀ u, u < l.length → 0 ≤ (sharesTo c.own l l.length).getD u 0) : IF c (sharesTo c.own l l.length) l.length 0 (GS.new c l) := by
  unfold cfgOk at hc
  refine { cfg := rfl, nn := rfl, share := rfl, free := by simp [GS.new, sumG], free0 := by simp only [GS.new]; omega, st := fun u hu => ⟨rfl, rfl, rfl⟩, max := fun u hu => ⟨show (0 : Int) ≤ c.many by omega, show (0 : Int) ≤ c.each by omega, hsh u hu⟩, drops := fun u hu => ⟨Int.le_refl _, Int.le_refl _⟩, ent := fun x hx => by simp [GS.new] at hx, asc := by simp [keysG, GS.new], last := by simp [GS.new], len := by simp [GS.new] }
theorem IF.all (h : IF c sh n k S) : sumN (fun u => (S.st u).large) n = sumG (·.large) S.l ∧ sumN (fun u => (S.st u).many) n = S.l.length := by
  have hv : ∀ x ∈ S.l, x.2.v < n := fun x hx => (h.ent x hx).1
  refine ⟨?_, ?_⟩
  · rw [← sumN_sumG (·.large) n S.l hv]
    exact sumN_congr fun u hu => (h.st u hu).2.1
  · rw [← sumG_len, ← sumN_sumG (fun _ => 1) n S.l hv]
    exact sumN_congr fun u hu => (h.st u hu).1
end Go.Proofs.Ytilpmnbnjeahnaa
