/-
  Texts joined: ExR3, ExS.
-/
import Derived.Test.YtmcbcoafodmbjaaGreatDoorJoin05
namespace Go.Proofs.YtmcbcoafodmbjaaGreatDoor.Ex
open Go Go.RowKit
set_option linter.unusedVariables false
set_option linter.unusedSimpArgs false
section
variable {C : Ctx} {B : Nat} {w0 : World} {e : Env} {st : St} {w : World}
theorem seg_heap {g o : Nat} {t : TypeId} {fr : Nat × Nat} : ∀ (vs : List Value) (i : Nat) (w : World) (l : List Value), w.heap[g]? = some (.cells ⟨l⟩ t fr) →
    ∃ l2, (storeSeg w ⟨g, o, none⟩ i vs).heap[g]? = some (.cells ⟨l2⟩ t fr) ∧ l2.length = l.length ∧ ∀ j, l2[j]? = if o + i ≤ j ∧ j < o + i + vs.length ∧ j < l.length then vs[j - (o + i)]? else l[j]? := by
  intro vs
  induction vs with
  | nil => intro i w l h; exact ⟨l, h, rfl, fun j => by rw [if_neg (by simp; omega)]⟩
  | cons v vs ih =>
    intro i w l h
    have h1 : (w.setCell ⟨g, o + i, none⟩ v).heap[g]? = some (.cells ⟨l.set (o + i) v⟩ t fr) := by
      rw [hp_set, if_pos rfl, h]; simp [storeObj]
    obtain ⟨l2, a, b, c⟩ := ih (i + 1) _ _ h1
    refine ⟨l2, ?_, by simpa using b, fun j => ?_⟩
    · simp only [storeSeg, add_none]; exact a
    · rw [c]
      simp only [List.length_set, List.length_cons]
      by_cases hj : o + (i + 1) ≤ j ∧ j < o + (i + 1) + vs.length ∧ j < l.length
      · rw [if_pos hj, if_pos (by omega), show j - (o + i) = (j - (o + (i + 1))) + 1 by omega, List.getElem?_cons_succ]
      · rw [if_neg hj, List.getElem?_set]
        by_cases hj2 : o + i = j
        · rw [if_pos hj2]
          subst hj2
          by_cases hl : o + i < l.length
          · rw [if_pos hl, if_pos (by omega)]; simp
          · rw [if_neg hl, if_neg (by omega), List.getElem?_eq_none (by omega)]
        · rw [if_neg hj2, if_neg (by omega)]
theorem seg_other {g o : Nat} : ∀ (vs : List Value) (i : Nat) (w : World) (k : Nat), k ≠ g → (storeSeg w ⟨g, o, none⟩ i vs).heap[k]? = w.heap[k]?
  | [], i, w, k, _ => rfl
  | v :: vs, i, w, k, h => by
    simp only [storeSeg, add_none]
    rw [seg_other vs (i + 1) _ k h, hp_set, if_neg h]
theorem seg_rest {g o : Nat} : ∀ (vs : List Value) (i : Nat) (w : World), (storeSeg w ⟨g, o, none⟩ i vs).heap.size = w.heap.size ∧ (storeSeg w ⟨g, o, none⟩ i vs).os = w.os ∧ (storeSeg w ⟨g, o, none⟩ i vs).tape = w.tape ∧ (storeSeg w ⟨g, o, none⟩ i vs).output = w.output
  | [], i, w => ⟨rfl, rfl, rfl, rfl⟩
  | v :: vs, i, w => by
    simp only [storeSeg, add_none]
    obtain ⟨a, b, c, d⟩ := seg_rest (g := g) (o := o) vs (i + 1) (w.setCell ⟨g, o + i, none⟩ v)
    exact ⟨a.trans (sz_set _ _ _), b, c, d⟩
theorem below_of {B : Nat} {a b c : World} (h : Below B a b) (h1 : c.os = b.os) (h2 : c.tape = b.tape) (h3 : c.output = b.output) (h4 : b.heap.size ≤ c.heap.size) (h5 : ∀ k, k < B → c.heap[k]? = b.heap[k]?) : Below B a c :=
  ⟨h1.trans h.os, h2.trans h.tape, h3.trans h.output, Nat.le_trans h.size h4, fun k hk => (h5 k hk).trans (h.block k hk)⟩
theorem Rel.turn (h : Rel C B w0 e st w) {b : Nat} {x : Bind} {c c' : Cel} {w' : World} (hg : st.heap.get b = some c) (hl : c.live = true) (hm : c.mine = true) (he : e b = some x)
    (h1 : w'.os = w.os) (h2 : w'.tape = w.tape) (h3 : w'.output = w.output) (h4 : w'.heap.size = w.heap.size) (h5 : ∀ k, k ≠ x.blk → w'.heap[k]? = w.heap[k]?) (hc : CR C e x c' w'.heap[x.blk]?) : Rel C B w0 e (st.put b c') w' := by
  have hB := h.own b c x hg he hm
  refine ⟨fun b2 c2 x2 hg2 he2 => ?_, fun b2 b3 c2 c3 x2 x3 hg2 hg3 hl2 hl3 he2 he3 hx => ?_, fun b2 x2 he2 => ?_, fun b2 hb2 => ?_, fun b2 c2 x2 hg2 he2 hm2 => ?_, ?_, by rw [h4]; exact h.base, h.glob⟩
  · simp only [St.put, get_set] at hg2
    split at hg2
    · rename_i e1; subst e1; rw [he] at he2; simp at hg2 he2; subst hg2 he2; exact hc
    · rename_i e1
      by_cases hx : x2.blk = x.blk
      · cases hl2 : c2.live with
        | true => exact absurd (h.inj b2 b c2 c x2 x hg2 hg hl2 hl he2 he hx) e1
        | false => cases c2 <;> simp [Cel.live] at hl2; exact .dead _
      · rw [h5 _ hx]; exact h.obj _ _ _ hg2 he2
  · have key : ∀ b4 c4 x4, (st.put b c').heap.get b4 = some c4 → c4.live = true → e b4 = some x4 → ∃ c5, st.heap.get b4 = some c5 ∧ c5.live = true := by
      intro b4 c4 x4 hg4 hl4 he4
      simp only [St.put, get_set] at hg4
      split at hg4
      · rename_i e1; subst e1; exact ⟨c, hg, hl⟩
      · exact ⟨c4, hg4, hl4⟩
    obtain ⟨c5, g5, l5⟩ := key _ _ _ hg2 hl2 he2
    obtain ⟨c6, g6, l6⟩ := key _ _ _ hg3 hl3 he3
    exact h.inj _ _ _ _ _ _ g5 g6 l5 l6 he2 he3 hx
  · obtain ⟨a, c2, hc2⟩ := h.dom _ _ he2
    refine ⟨by rw [h4]; exact a, ?_⟩
    simp only [St.put, get_set]
    split
    · exact ⟨_, rfl⟩
    · exact ⟨_, hc2⟩
  · simp only [St.put, get_set]
    have := h.fresh b2 hb2
    rw [if_neg (fun e1 => by subst e1; rw [hg] at this; cases this)]
    exact this
  · simp only [St.put, get_set] at hg2
    split at hg2
    · rename_i e1; subst e1; rw [he] at he2; simp at he2; subst he2; exact hB
    · exact h.own _ _ _ hg2 he2 hm2
  · exact below_of h.keep h1 h2 h3 (by omega) fun k hk => h5 k (by omega)
theorem lput_get (l : List Value) (off : Nat) (vs : List Value) (h : off + vs.length ≤ l.length) (i : Nat) : (lput l off vs)[i]? = if off ≤ i ∧ i < off + vs.length then vs[i - off]? else l[i]? := by
  rw [lput_at, List.getElem?_append]
  have h1 : (l.take off).length = off := by simp; omega
  rw [h1]
  split
  · rename_i hi; rw [if_neg (by omega), List.getElem?_take, if_pos hi]
  · rename_i hi
    rw [List.getElem?_append]
    split
    · rename_i hi2; rw [if_pos (by omega)]
    · rename_i hi2; rw [if_neg (by omega), List.getElem?_drop]; congr 1; omega
theorem lput_len (l : List Value) (off : Nat) (vs : List Value) (h : off + vs.length ≤ l.length) : (lput l off vs).length = l.length := by
  rw [lput_at]; simp; omega
theorem canWrite_of {w : World} {g : Nat} : ∀ (n o i : Nat), (∀ j, j < n → (w.cell? ⟨g, o + i + j, none⟩).isSome = true ∧ w.frozen? ⟨g, o + i + j, none⟩ = false) → canWrite w ⟨g, o, none⟩ i n = true
  | 0, o, i, _ => rfl
  | n + 1, o, i, h => by
    have h0 := h 0 (by omega)
    simp only [canWrite, add_none]
    rw [canWrite_of n o (i + 1) (fun j hj => by rw [show o + (i + 1) + j = o + i + (j + 1) by omega]; exact h (j + 1) (by omega))]
    simp only [Nat.add_zero] at h0
    rw [h0.1, h0.2]; rfl
theorem store_spec {b off : Nat} {vs : List Value} {st' : St} (hs : st.store b off vs = some st') :
    ∃ l t k, st.heap.get b = some (.cells l t k) ∧ k.mayWrite = true ∧ off + vs.length ≤ l.length ∧ st' = st.put b (.cells (lput l off vs) t k) := by
  unfold St.store at hs
  split at hs
  · rename_i c t k hg
    cases hb : (k.mayWrite && Nat.ble (off + llen vs) (llen c) && lall isOne vs) with
    | false => rw [hb] at hs; cases hs
    | true =>
      rw [hb] at hs
      simp only [cond_true, Option.some.injEq] at hs
      simp only [Bool.and_eq_true, llen_eq] at hb
      exact ⟨c, t, k, hg, hb.1.1, Nat.le_of_ble_eq_true hb.1.2, hs.symm⟩
  · cases hs
theorem store_one {b off : Nat} {vs : List Value} {st' : St} (hs : st.store b off vs = some st') : ∀ v ∈ vs, isOne v = true := by
  unfold St.store at hs
  split at hs
  · rename_i c t k hg
    cases hb : (k.mayWrite && Nat.ble (off + llen vs) (llen c) && lall isOne vs) with
    | false => rw [hb] at hs; cases hs
    | true =>
      simp only [Bool.and_eq_true, lall_eq, List.all_eq_true] at hb
      exact hb.2
  · cases hs
theorem one_ok {e : Env} {v v' : Value} (h : VR e v v') (h1 : isOne v = true) : v'.oneCell' = true := by
  cases h <;> first | rfl | assumption | cases h1
theorem Rel.writable (h : Rel C B w0 e st w) {b off n : Nat} {x : Bind} {l : List Value} {t : TypeId} {k : Knd} (hg : st.heap.get b = some (.cells l t k)) (he : e b = some x) (hk : k.mayWrite = true) (hle : off + n ≤ l.length) :
    canWrite w ⟨x.blk, off + x.shift, none⟩ 0 n = true := by
  obtain ⟨l', fr, hw, h1, h2, _⟩ := h.at_ hg he
  refine canWrite_of n _ 0 fun j hj => ⟨?_, ?_⟩
  · obtain ⟨v', a, _⟩ := h1 (off + j) _ (List.getElem?_eq_getElem (by omega))
    rw [show off + x.shift + 0 + j = off + j + x.shift by omega]
    simp [World.cell?, hw, a]
  · have := h2 hk (off + j) (by omega)
    simp only [World.frozen?, hw, show off + x.shift + 0 + j = off + j + x.shift by omega]
    simp only [Bool.and_eq_false_iff, decide_eq_false_iff_not]
    by_cases h3 : fr.1 ≤ off + j + x.shift
    · exact .inr fun h4 => this ⟨h3, h4⟩
    · exact .inl h3
theorem Rel.store_ (h : Rel C B w0 e st w) {b off : Nat} {x : Bind} {vs vs' : List Value} {st' : St} (hs : st.store b off vs = some st') (he : e b = some x) (hv : LR e vs vs') :
    canWrite w ⟨x.blk, off + x.shift, none⟩ 0 vs'.length = true ∧ Rel C B w0 e st' (storeSeg w ⟨x.blk, off + x.shift, none⟩ 0 vs') := by
  obtain ⟨l, t, k, hg, hk, hle, rfl⟩ := store_spec hs
  obtain ⟨l', fr, hw, h1, h2, h3, h4⟩ := h.at_ hg he
  refine ⟨h.writable hg he hk (by rw [← hv.1]; exact hle), ?_⟩
  obtain ⟨l2, a, b2, c2⟩ := seg_heap (o := off + x.shift) vs' 0 w l' hw
  obtain ⟨r1, r2, r3, r4⟩ := seg_rest (g := x.blk) (o := off + x.shift) vs' 0 w
  refine h.turn hg rfl hk he r2 r3 r4 r1 (fun k hk => seg_other vs' 0 w k hk) ?_
  rw [a]
  refine .cells h3 (fun i v hi => ?_) (fun hk i hi => h2 hk i (by rw [lput_len _ _ _ hle] at hi; exact hi)) (fun hk => by rw [b2, lput_len _ _ _ hle]; exact h4 hk)
  rw [lput_get _ _ _ hle] at hi
  split at hi
  · rename_i hin
    obtain ⟨v', hv', hr⟩ := hv.get hi
    have hlt : i + x.shift < l'.length := by
      obtain ⟨u, a1, _⟩ := h1 i _ (List.getElem?_eq_getElem (by omega))
      exact (List.getElem?_eq_some_iff.1 a1).1
    refine ⟨v', ?_, hr⟩
    rw [c2, if_pos (by rw [← hv.1]; omega), show i + x.shift - (off + x.shift + 0) = i - off by omega]
    exact hv'
  · rename_i hin
    obtain ⟨v', a1, hr⟩ := h1 i v hi
    refine ⟨v', ?_, hr⟩
    rw [c2, if_neg (by rw [← hv.1]; omega)]
    exact a1
theorem store1_spec {b off : Nat} {v : Value} {st' : St} (h1 : isOne v = true) (hs : st.store1 b off v = some st') : st.store b off [v] = some st' := by
  unfold St.store1 at hs
  unfold St.store
  split at hs
  · rename_i c t k hg
    cases hb : (k.mayWrite && Nat.blt off (llen c)) with
    | false => rw [hb] at hs; cases hs
    | true =>
      rw [hb] at hs
      simp only [cond_true, Option.some.injEq] at hs
      simp only [Bool.and_eq_true, llen_eq] at hb
      have hlt : off < c.length := Nat.le_of_ble_eq_true hb.2
      have h2 : (k.mayWrite && Nat.ble (off + llen [v]) (llen c) && lall isOne [v]) = true := by
        simp only [Bool.and_eq_true, llen_eq, lall_eq]; exact ⟨⟨hb.1, Nat.ble_eq_true_of_le (by simp; omega)⟩, by simp [h1]⟩
      simp only [h2, cond_true, Option.some.injEq]
      rw [← hs, lset_eq, lput_at]
      congr 3
      rw [List.set_eq_take_append_cons_drop, if_pos hlt]
      rfl
  · cases hs
theorem Rel.ghost (h : Rel C B w0 e st w) (c : Cel) : Rel C B w0 e (st.new c) w := by
  have hf := h.fresh st.next (Nat.le_refl _)
  have hn : e st.next = none := by
    cases he : e st.next with
    | none => rfl
    | some x => obtain ⟨_, c, hc⟩ := h.dom _ _ he; rw [hf] at hc; cases hc
  have key : ∀ b c4 x, (st.new c).heap.get b = some c4 → e b = some x → st.heap.get b = some c4 := by
    intro b c4 x hg he
    simp only [St.new, get_set] at hg
    split at hg
    · rename_i e1; subst e1; rw [hn] at he; cases he
    · exact hg
  refine ⟨fun b c x hg he => h.obj _ _ _ (key _ _ _ hg he) he, fun b b' c c' x x' hg hg' hl hl' he he' hx => h.inj _ _ _ _ _ _ (key _ _ _ hg he) (key _ _ _ hg' he') hl hl' he he' hx, fun b x he => ?_, fun b hb => ?_, fun b c x hg he hm => h.own _ _ _ (key _ _ _ hg he) he hm, h.keep, h.base, h.glob⟩
  · obtain ⟨a, c2, hc2⟩ := h.dom _ _ he
    refine ⟨a, ?_⟩
    simp only [St.new, get_set]
    split
    · exact ⟨_, rfl⟩
    · exact ⟨_, hc2⟩
  · simp only [St.new] at hb ⊢
    rw [get_set, if_neg (by omega)]
    exact h.fresh b (by omega)
def Env.upd (e : Env) (b : Nat) (x : Bind) : Env := fun k => if k = b then some x else e k
theorem upd_self (e : Env) (b : Nat) (x : Bind) : e.upd b x b = some x := by simp [Env.upd]
theorem upd_le {e : Env} {b : Nat} {x : Bind} (h : e b = none) : e.le (e.upd b x) := fun k y hk => by
  unfold Env.upd
  rw [if_neg (fun e1 => by subst e1; rw [h] at hk; cases hk)]
  exact hk
theorem Rel.alloc_ (h : Rel C B w0 e st w) {b : Nat} {c : Cel} (hg : st.heap.get b = some c) (hn : e b = none) (o : Obj) (s r : Nat)
    (hc : CR C (e.upd b ⟨w.heap.size, s, r⟩) ⟨w.heap.size, s, r⟩ c (some o)) : Rel C B w0 (e.upd b ⟨w.heap.size, s, r⟩) st (w.alloc o) := by
  have hle : e.le (e.upd b ⟨w.heap.size, s, r⟩) := upd_le hn
  have old : ∀ k, k < w.heap.size → (w.alloc o).heap[k]? = w.heap[k]? := fun k hk => by rw [hp_alloc, if_neg (by omega)]
  have at_ : ∀ b2 x2, e.upd b ⟨w.heap.size, s, r⟩ b2 = some x2 → (b2 = b ∧ x2 = ⟨w.heap.size, s, r⟩) ∨ (b2 ≠ b ∧ e b2 = some x2) := by
    intro b2 x2 he
    unfold Env.upd at he
    split at he
    · rename_i e1; simp at he; exact .inl ⟨e1, he.symm⟩
    · rename_i e1; exact .inr ⟨e1, he⟩
  refine ⟨fun b2 c2 x2 hg2 he2 => ?_, fun b2 b3 c2 c3 x2 x3 hg2 hg3 hl2 hl3 he2 he3 hx => ?_, fun b2 x2 he2 => ?_, h.fresh, fun b2 c2 x2 hg2 he2 hm2 => ?_, ?_, ?_, fun g hg2 => hle _ _ (h.glob g hg2)⟩
  · rcases at_ _ _ he2 with ⟨rfl, rfl⟩ | ⟨hne, he2⟩
    · rw [hg] at hg2; simp at hg2; subst hg2; rw [hp_alloc, if_pos rfl]; exact hc
    · rw [old _ (h.dom _ _ he2).1]; exact (h.obj _ _ _ hg2 he2).mono hle
  · rcases at_ _ _ he2 with ⟨rfl, rfl⟩ | ⟨hne, _⟩
    · rcases at_ _ _ he3 with ⟨rfl, rfl⟩ | ⟨hne3, he3⟩
      · rfl
      · have := (h.dom _ _ he3).1; simp at hx; omega
    · rename_i he2n
      rcases at_ _ _ he3 with ⟨rfl, rfl⟩ | ⟨hne3, he3n⟩
      · have := (h.dom _ _ he2n).1; simp at hx; omega
      · exact h.inj _ _ _ _ _ _ hg2 hg3 hl2 hl3 he2n he3n hx
  · rcases at_ _ _ he2 with ⟨rfl, rfl⟩ | ⟨hne, he2⟩
    · exact ⟨by simp, _, hg⟩
    · obtain ⟨a, c2⟩ := h.dom _ _ he2
      exact ⟨by simp; omega, c2⟩
  · rcases at_ _ _ he2 with ⟨rfl, rfl⟩ | ⟨hne, he2⟩
    · exact h.base
    · exact h.own _ _ _ hg2 he2 hm2
  · exact below_of h.keep rfl rfl rfl (by simp) fun k hk => old k (Nat.lt_of_lt_of_le hk h.base)
  · have := h.base; simp; omega
theorem Rel.next_none (h : Rel C B w0 e st w) : e st.next = none := by
  cases he : e st.next with
  | none => rfl
  | some x => obtain ⟨_, c, hc⟩ := h.dom _ _ he; rw [h.fresh _ (Nat.le_refl _)] at hc; cases hc
theorem Rel.new_ (h : Rel C B w0 e st w) (c : Cel) (o : Obj) (s r : Nat) (hc : CR C (e.upd st.next ⟨w.heap.size, s, r⟩) ⟨w.heap.size, s, r⟩ c (some o)) :
    Rel C B w0 (e.upd st.next ⟨w.heap.size, s, r⟩) (st.new c) (w.alloc o) :=
  (h.ghost c).alloc_ (by simp [St.new, get_set]) h.next_none o s r hc
def Keep (st : St) (e e' : Env) : Prop := ∀ b c, st.heap.get b = some c → e' b = e b
theorem Keep.le (h : Rel C B w0 e st w) {e' : Env} (hk : Keep st e e') : e.le e' := fun b x hb => by
  obtain ⟨_, c, hc⟩ := h.dom _ _ hb
  rw [hk b c hc]; exact hb
theorem Rel.objS_ (h : Rel C B w0 e st w) {b : Nat} {x : Bind} {o : Obj} (hg : st.heap.get b = some (.obj o)) (he : e b = some x) : x.shift = 0 ∧ ∃ o', w.heap[x.blk]? = some o' ∧ OR e o o' := by
  have hc := h.obj b _ x hg he
  generalize hw : w.heap[x.blk]? = q at hc
  cases hc with
  | obj h0 h => exact ⟨h0, _, rfl, h⟩
theorem Rel.obj_ (h : Rel C B w0 e st w) {b : Nat} {x : Bind} {o : Obj} (hg : st.heap.get b = some (.obj o)) (he : e b = some x) : ∃ o', w.heap[x.blk]? = some o' ∧ OR e o o' := (h.objS_ hg he).2
theorem Rel.putObj_ (h : Rel C B w0 e st w) {b : Nat} {x : Bind} {o o2 o2' : Obj} (hg : st.heap.get b = some (.obj o)) (he : e b = some x) (ho : OR e o2 o2') : Rel C B w0 e (st.put b (.obj o2)) (w.putObj x.blk o2') := by
  have hlt := (h.dom _ _ he).1
  refine h.turn hg rfl rfl he rfl rfl rfl (by simp) (fun k hk => World.putObj_heap_other hk) ?_
  rw [World.putObj_heap_same hlt]
  exact .obj (h.objS_ hg he).1 ho
end
end Go.Proofs.YtmcbcoafodmbjaaGreatDoor.Ex
namespace Go.Proofs.YtmcbcoafodmbjaaGreatDoor.Ex
open Go Go.RowKit
set_option linter.unusedVariables false
set_option linter.unusedSimpArgs false
def SlR (e : Env) (s : Sl) (σ : Slots) : Prop := ∀ t, VR e (ogetD (s.get t)) (σ t)
theorem SlR.mono {e e' : Env} (hle : e.le e') {s : Sl} {σ : Slots} (h : SlR e s σ) : SlR e' s σ := fun t => (h t).mono hle
theorem ev_ok {C : Ctx} {e : Env} {s : Sl} {σ : Slots} (hG : ∀ g, C.gl g = true → e g = some ⟨g, 0, 0⟩) (h : SlR e s σ) (x : Operand) (hx : okOpd C x = true) : VR e (evA s x) (ev σ x) := by
  cases x with
  | tmp t => exact h t
  | const v => exact nf_self hx
  | global g => have := VR.ptr (o := 0) (hG g hx); simpa [evA, ev] using this
  | func f => exact .func f rfl (fun i v v' h => by simp at h) rfl (fun i v v' h => by simp at h)
/-! ## Code that looks at no memory -/
theorem pureRun_ok {α : Type} {P : Program} (m : Sem α) : ∀ {a : α}, pureRun P m = some a → ∀ w, m.run P w = .ok a w := by
  induction m with
  | pure a => intro b h w; cases h; rfl
  | load m a k ih => intro b h; cases h
  | store m a v k ih => intro b h; cases h
  | new o k ih => intro b h; cases h
  | shape r k ih => intro b h; cases h
  | freeze a n k ih => intro b h; cases h
  | frozen a k ih => intro b h; cases h
  | getObj r k ih => intro b h; cases h
  | setObj r o k ih => intro b h; cases h
  | choose q k ih => intro b h; cases h
  | sys c k ih => intro b h; cases h
  | program k ih => intro b h w; exact ih P h w
  | mark m k ih => intro b h w; exact ih h w
  | halt h => intro b h; cases h
/-! ## Ints -/
theorem bound_i64 (m : Nat) (k : IntKind) (h : m < bound k) : k.wrap (.ofNat m) = .ofNat m := by
  cases k <;> simp only [bound] at h
  · exact IntWalk.i8_in _ ⟨by show (-128 : Int) ≤ (m : Int); omega, by show (m : Int) ≤ 127; omega⟩
  · exact IntWalk.i16_in _ ⟨by show (-32768 : Int) ≤ (m : Int); omega, by show (m : Int) ≤ 32767; omega⟩
  · exact IntWalk.i32_in _ ⟨by show (-2147483648 : Int) ≤ (m : Int); omega, by show (m : Int) ≤ 2147483647; omega⟩
  · exact IntWalk.i64_in _ ⟨by show (-9223372036854775808 : Int) ≤ (m : Int); omega, by show (m : Int) ≤ 9223372036854775807; omega⟩
  · exact IntWalk.u8_in _ ⟨by show (0 : Int) ≤ (m : Int); omega, by show (m : Int) ≤ 255; omega⟩
  · exact IntWalk.u16_in _ ⟨by show (0 : Int) ≤ (m : Int); omega, by show (m : Int) ≤ 65535; omega⟩
  · exact IntWalk.u32_in _ ⟨by show (0 : Int) ≤ (m : Int); omega, by show (m : Int) ≤ 4294967295; omega⟩
  · exact IntWalk.u64_in _ ⟨by show (0 : Int) ≤ (m : Int); omega, by show (m : Int) ≤ 18446744073709551615; omega⟩
theorem wrapA_eq (k : IntKind) (n : Int) : wrapA k n = k.wrap n := by
  cases n with
  | ofNat m =>
    show cond (Nat.blt m (bound k)) (.ofNat m) (k.wrap (.ofNat m)) = _
    cases h : Nat.blt m (bound k) with
    | false => rfl
    | true => exact (bound_i64 m k (Nat.le_of_ble_eq_true h)).symm
  | negSucc m => rfl
theorem iadd_eq (a b : Int) : iadd a b = a + b := by cases a <;> cases b <;> rfl
theorem imul_eq (a b : Int) : imul a b = a * b := by cases a <;> cases b <;> rfl
theorem isub_eq (a b : Int) : isub a b = a - b := by
  cases a with
  | ofNat a =>
    cases b with
    | ofNat b =>
      show cond (Nat.ble b a) (Int.ofNat (Nat.sub a b)) (Int.negSucc (Nat.pred (Nat.sub b a))) = _
      cases h : Nat.ble b a with
      | true => have := Nat.le_of_ble_eq_true h; show ((a - b : Nat) : Int) = (a : Int) - (b : Int); omega
      | false =>
        have : ¬ b ≤ a := fun h2 => by rw [Nat.ble_eq_true_of_le h2] at h; cases h
        show Int.negSucc ((b - a) - 1) = (a : Int) - (b : Int); omega
    | negSucc b => rfl
  | negSucc a => cases b <;> rfl
theorem ieq_eq (a b : Int) : ieq a b = (a == b) := by
  cases a with
  | ofNat a =>
    cases b with
    | ofNat b =>
      show Nat.beq a b = _
      rw [Bool.eq_iff_iff]; simp [Nat.beq_eq]; omega
    | negSucc b => show false = _; rw [Bool.eq_iff_iff]; simp
  | negSucc a =>
    cases b with
    | ofNat b => show false = _; rw [Bool.eq_iff_iff]; simp
    | negSucc b => show Nat.beq a b = _; rw [Bool.eq_iff_iff]; simp [Nat.beq_eq]
theorem ble_iff (a b : Nat) : Nat.ble a b = decide (a ≤ b) := by
  cases h : Nat.ble a b with
  | true => simp [Nat.le_of_ble_eq_true h]
  | false =>
    have : ¬ a ≤ b := fun h2 => by rw [Nat.ble_eq_true_of_le h2] at h; cases h
    simp [this]
theorem blt_iff (a b : Nat) : Nat.blt a b = decide (a < b) := ble_iff _ _
theorem ilt_eq (a b : Int) : ilt a b = decide (a < b) := by
  cases a <;> cases b <;> simp only [ilt, blt_iff] <;> simp <;> omega
theorem ile_eq (a b : Int) : ile a b = decide (a ≤ b) := by
  cases a <;> cases b <;> simp only [ile, ble_iff] <;> simp <;> omega
theorem ikeq_eq {a b : IntKind} (h : ikeq a b = true) : a = b := by cases a <;> cases b <;> first | rfl | cases h
theorem wrap_mod (k : IntKind) (m : Nat) : k.wrap ((m % 2 ^ k.bits : Nat) : Int) = k.wrap (m : Int) := by
  unfold IntKind.wrap
  have h : (((m % 2 ^ k.bits : Nat) : Int) % (2 ^ k.bits : Int)) = (m : Int) % (2 ^ k.bits : Int) := by
    have : ((2 ^ k.bits : Nat) : Int) = (2 ^ k.bits : Int) := by simp
    rw [← this, Int.natCast_emod, Int.emod_emod]
  simp only [h]
theorem ofInt_nat (n a : Nat) : (BitVec.ofInt n (Int.ofNat a)).toNat = a % 2 ^ n := by
  simp
theorem land_mod (a b n : Nat) : (a % 2 ^ n) &&& (b % 2 ^ n) = (a &&& b) % 2 ^ n := by
  apply Nat.eq_of_testBit_eq; intro i
  simp only [Nat.testBit_and, Nat.testBit_mod_two_pow]
  cases decide (i < n) <;> simp
theorem lor_mod (a b n : Nat) : (a % 2 ^ n) ||| (b % 2 ^ n) = (a ||| b) % 2 ^ n := by
  apply Nat.eq_of_testBit_eq; intro i
  simp only [Nat.testBit_or, Nat.testBit_mod_two_pow]
  cases decide (i < n) <;> simp
theorem xor_mod (a b n : Nat) : (a % 2 ^ n) ^^^ (b % 2 ^ n) = (a ^^^ b) % 2 ^ n := by
  apply Nat.eq_of_testBit_eq; intro i
  simp only [Nat.testBit_xor, Nat.testBit_mod_two_pow]
  cases decide (i < n) <;> simp
theorem bits_and (k : IntKind) (m n : Nat) : Op.intBits .and k (Int.ofNat m) (Int.ofNat n) = pure (.int k (k.wrap ((m &&& n : Nat) : Int))) := by
  have e : (BitVec.ofInt k.bits (Int.ofNat m) &&& BitVec.ofInt k.bits (Int.ofNat n)).toNat = (m &&& n) % 2 ^ k.bits := by rw [BitVec.toNat_and, ofInt_nat, ofInt_nat, land_mod]
  show (pure (.int k (k.wrap ((BitVec.ofInt k.bits (Int.ofNat m) &&& BitVec.ofInt k.bits (Int.ofNat n)).toNat : Int))) : Sem Value) = _
  rw [e, wrap_mod]
theorem bits_or (k : IntKind) (m n : Nat) : Op.intBits .or k (Int.ofNat m) (Int.ofNat n) = pure (.int k (k.wrap ((m ||| n : Nat) : Int))) := by
  have e : (BitVec.ofInt k.bits (Int.ofNat m) ||| BitVec.ofInt k.bits (Int.ofNat n)).toNat = (m ||| n) % 2 ^ k.bits := by rw [BitVec.toNat_or, ofInt_nat, ofInt_nat, lor_mod]
  show (pure (.int k (k.wrap ((BitVec.ofInt k.bits (Int.ofNat m) ||| BitVec.ofInt k.bits (Int.ofNat n)).toNat : Int))) : Sem Value) = _
  rw [e, wrap_mod]
theorem bits_xor (k : IntKind) (m n : Nat) : Op.intBits .xor k (Int.ofNat m) (Int.ofNat n) = pure (.int k (k.wrap ((m ^^^ n : Nat) : Int))) := by
  have e : (BitVec.ofInt k.bits (Int.ofNat m) ^^^ BitVec.ofInt k.bits (Int.ofNat n)).toNat = (m ^^^ n) % 2 ^ k.bits := by rw [BitVec.toNat_xor, ofInt_nat, ofInt_nat, xor_mod]
  show (pure (.int k (k.wrap ((BitVec.ofInt k.bits (Int.ofNat m) ^^^ BitVec.ofInt k.bits (Int.ofNat n)).toNat : Int))) : Sem Value) = _
  rw [e, wrap_mod]
theorem kbits_eq (k : IntKind) : kbits k = k.bits := by cases k <;> rfl
theorem ibin_ok {P : Program} {w : World} {ρ : Operand → Value} {x y : Operand} {t u : TypeId} {op : BinOp} {k : IntKind} {a b : Int} {v : Value} (hx : ρ x = .int k a) (hy : ρ y = .int k b) (h : ibin op k a b = some v)
    (d : Option Tmp) (ty : TypeId) (pos : String) (after : Array Edge) (g : Option (Nat × Bool)) : (execOp ρ ⟨d, .binOp op t x y u, ty, pos, after, g⟩).run P w = .ok (.value v) w := by
  have hn : ∀ f, n2 a b f = some v → ∃ m n : Nat, a = .ofNat m ∧ b = .ofNat n ∧ f m n = some v := by
    intro f hf
    cases a <;> cases b <;> simp only [n2] at hf
    · exact ⟨_, _, rfl, rfl, hf⟩
    all_goals cases hf
  have base : ∀ r : Sem Value, (∀ op', op' = op → True) → (binOp op t (.int k a) (.int k b) = r) → r.run P w = .ok v w → (execOp ρ ⟨d, .binOp op t x y u, ty, pos, after, g⟩).run P w = .ok (.value v) w := by
    intro r _ hr hv
    have hg : (eqGuard op t x y (.int k a) (.int k b)).run P w = .ok () w := by
      unfold eqGuard
      cases op <;> simp
    simp only [execOp, hx, hy, Sem.run_bind, hg, Result.andThen, hr, hv, Sem.run_pure]
  cases op with
  | add => simp only [ibin, Option.some.injEq] at h; exact base _ (fun _ _ => trivial) rfl (by rw [← h, wrapA_eq, iadd_eq]; simp [binOp, Op.intArith])
  | sub => simp only [ibin, Option.some.injEq] at h; exact base _ (fun _ _ => trivial) rfl (by rw [← h, wrapA_eq, isub_eq]; simp [binOp, Op.intArith])
  | mul => simp only [ibin, Option.some.injEq] at h; exact base _ (fun _ _ => trivial) rfl (by rw [← h, wrapA_eq, imul_eq]; simp [binOp, Op.intArith])
  | eql => simp only [ibin, Option.some.injEq] at h; exact base _ (fun _ _ => trivial) rfl (by rw [← h, ieq_eq]; simp [binOp, Op.intCmp])
  | neq => simp only [ibin, Option.some.injEq] at h; exact base _ (fun _ _ => trivial) rfl (by rw [← h, ieq_eq]; simp [binOp, Op.intCmp]; rfl)
  | lss => simp only [ibin, Option.some.injEq] at h; exact base _ (fun _ _ => trivial) rfl (by rw [← h, ilt_eq]; simp [binOp, Op.intCmp])
  | leq => simp only [ibin, Option.some.injEq] at h; exact base _ (fun _ _ => trivial) rfl (by rw [← h, ile_eq]; simp [binOp, Op.intCmp])
  | gtr => simp only [ibin, Option.some.injEq] at h; exact base _ (fun _ _ => trivial) rfl (by rw [← h, ilt_eq]; simp [binOp, Op.intCmp])
  | geq => simp only [ibin, Option.some.injEq] at h; exact base _ (fun _ _ => trivial) rfl (by rw [← h, ile_eq]; simp [binOp, Op.intCmp])
  | and =>
    obtain ⟨m, n, rfl, rfl, hh⟩ := hn _ h
    clear h hn
    simp only [Option.some.injEq] at hh
    refine base _ (fun _ _ => trivial) rfl ?_
    rw [← hh, wrapA_eq]
    simp only [binOp, ne_eq, not_true_eq_false, if_false, bits_and]
    rfl
  | or =>
    obtain ⟨m, n, rfl, rfl, hh⟩ := hn _ h
    clear h hn
    simp only [Option.some.injEq] at hh
    refine base _ (fun _ _ => trivial) rfl ?_
    rw [← hh, wrapA_eq]
    simp only [binOp, ne_eq, not_true_eq_false, if_false, bits_or]
    rfl
  | xor =>
    obtain ⟨m, n, rfl, rfl, hh⟩ := hn _ h
    clear h hn
    simp only [Option.some.injEq] at hh
    refine base _ (fun _ _ => trivial) rfl ?_
    rw [← hh, wrapA_eq]
    simp only [binOp, ne_eq, not_true_eq_false, if_false, bits_xor]
    rfl
  | shl =>
    obtain ⟨m, n, rfl, rfl, hh⟩ := hn _ h
    clear h hn
    cases hb : Nat.ble n (kbits k) with
    | false => rw [hb] at hh; cases hh
    | true =>
      rw [hb] at hh
      simp only [cond_true, Option.some.injEq] at hh
      have hle := Nat.le_of_ble_eq_true hb
      rw [kbits_eq] at hle
      refine base _ (fun _ _ => trivial) rfl ?_
      rw [← hh, wrapA_eq]
      have h0 : ¬ (Int.ofNat n < 0) := by simp
      have h1 : min (Int.ofNat n).toNat k.bits = n := by simp; omega
      simp only [binOp, Op.shift, h0, if_false, h1]
      have h2 : Int.ofNat m * 2 ^ n = Int.ofNat (Nat.mul m (Nat.pow 2 n)) := by
        show (m : Int) * 2 ^ n = ((m * 2 ^ n : Nat) : Int); simp
      rw [h2]; rfl
  | shr =>
    obtain ⟨m, n, rfl, rfl, hh⟩ := hn _ h
    clear h hn
    cases hb : Nat.ble n (kbits k) with
    | false => rw [hb] at hh; cases hh
    | true =>
      rw [hb] at hh
      simp only [cond_true, Option.some.injEq] at hh
      have hle := Nat.le_of_ble_eq_true hb
      rw [kbits_eq] at hle
      refine base _ (fun _ _ => trivial) rfl ?_
      rw [← hh]
      have h0 : ¬ (Int.ofNat n < 0) := by simp
      have h1 : min (Int.ofNat n).toNat k.bits = n := by simp; omega
      simp only [binOp, Op.shift, h0, if_false, h1]
      have h2 : (Int.ofNat m).fdiv (2 ^ n) = Int.ofNat (Nat.div m (Nat.pow 2 n)) := by
        have : (2 ^ n : Int) = ((2 ^ n : Nat) : Int) := by simp
        rw [this, Int.fdiv_eq_ediv_of_nonneg _ (Int.natCast_nonneg _)]
        rfl
      rw [h2]; rfl
  | quo =>
    obtain ⟨m, n, rfl, rfl, hh⟩ := hn _ h
    clear h hn
    cases hb : Nat.beq n 0 with
    | true => rw [hb] at hh; cases hh
    | false =>
      rw [hb] at hh
      simp only [cond_false, Option.some.injEq] at hh
      have hn0 : n ≠ 0 := fun e => by subst e; cases hb
      refine base _ (fun _ _ => trivial) rfl ?_
      rw [← hh, wrapA_eq]
      have h0 : ¬ (Int.ofNat n = 0) := by simp; exact hn0
      simp only [binOp, ne_eq, not_true_eq_false, if_false, Op.intDiv, h0]
      rfl
  | rem =>
    obtain ⟨m, n, rfl, rfl, hh⟩ := hn _ h
    clear h hn
    cases hb : Nat.beq n 0 with
    | true => rw [hb] at hh; cases hh
    | false =>
      rw [hb] at hh
      simp only [cond_false, Option.some.injEq] at hh
      have hn0 : n ≠ 0 := fun e => by subst e; cases hb
      refine base _ (fun _ _ => trivial) rfl ?_
      rw [← hh]
      have h0 : ¬ (Int.ofNat n = 0) := by simp; exact hn0
      simp only [binOp, ne_eq, not_true_eq_false, if_false, Op.intDiv, h0]
      rfl
  | andNot => cases h
end Go.Proofs.YtmcbcoafodmbjaaGreatDoor.Ex
