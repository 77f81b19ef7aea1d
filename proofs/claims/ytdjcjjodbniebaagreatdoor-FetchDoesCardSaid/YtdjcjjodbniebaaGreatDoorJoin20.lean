/-
  Texts joined: FRows.
-/
import Derived.Test.YtdjcjjodbniebaaGreatDoorJoin19
namespace Go.Proofs.YtdjcjjodbniebaaGreatDoor
open Go.RowKit
set_option linter.unusedVariables false
set_option linter.unusedSimpArgs false
set_option maxRecDepth 10000
/-! ### rising lists -/
theorem mem_putL : ∀ (xs : List Int) (n x : Int), x ∈ putL xs n ↔ x = n ∨ x ∈ xs
  | [], n, x => by simp [putL]
  | y :: xs, n, x => by
    unfold putL
    split
    · simp
    · split
      · rename_i h; subst h; simp
      · rw [List.mem_cons, mem_putL xs n x, List.mem_cons]
        constructor
        · rintro (h | h | h) <;> simp [h]
        · rintro (h | h | h) <;> simp [h]
theorem putL_rising : ∀ (xs : List Int) (n : Int), xs.Pairwise (· < ·) → (putL xs n).Pairwise (· < ·)
  | [], n, _ => by simp [putL]
  | y :: xs, n, h => by
    have h' := h
    rw [List.pairwise_cons] at h
    unfold putL
    split
    · rename_i h1
      rw [List.pairwise_cons]
      refine ⟨fun a ha => ?_, h'⟩
      rcases List.mem_cons.1 ha with rfl | ha
      · exact h1
      · have := h.1 a ha; omega
    · split
      · exact h'
      · rw [List.pairwise_cons]
        refine ⟨fun a ha => ?_, putL_rising xs n h.2⟩
        rcases (mem_putL xs n a).1 ha with rfl | ha
        · omega
        · exact h.1 a ha
def Places (l : List Int) : Prop := l.Pairwise (· < ·) ∧ ∀ v ∈ l, 0 ≤ v ∧ v < 32
theorem Places.nil : Places [] := ⟨by simp, by simp⟩
theorem Places.put {l : List Int} (h : Places l) {n : Int} (hn : 0 ≤ n ∧ n < 32) : Places (putL l n) :=
  ⟨putL_rising l n h.1, fun v hv => by
    rcases (mem_putL l n v).1 hv with rfl | hv
    · exact hn
    · exact h.2 v hv⟩
theorem Places.len {l : List Int} (h : Places l) : l.length ≤ 32 := by
  have h1 : l.reverse.Pairwise (· > ·) := by
    rw [List.pairwise_reverse]
    exact h.1.imp fun h => h
  have := falling_len l.reverse ((List.range 32).map Int.ofNat) h1 fun x hx => by
    have hx' := h.2 x (by simpa using hx)
    rw [List.mem_map]
    exact ⟨x.toNat, by simp; omega, by simp; omega⟩
  simpa using this
theorem Places.puts {l : List Int} (h : Places l) : ∀ {m : List Int}, (∀ v ∈ m, 0 ≤ v ∧ v < 32) → Places (m.foldl putL l)
  | [], _ => h
  | x :: m, hm => by
    rw [List.foldl_cons]
    exact Places.puts (h.put (hm x (by simp))) fun v hv => hm v (by simp [hv])
/-! ### rows -/
theorem own_mono0 {w : World} {base b e size n : Nat} {v : Value} {xs : List Value} (h : w.ownsRow b e size v n xs) (hb : ∀ j, v.ownBlock = some j → base ≤ j) : w.ownsRow base e size v n xs :=
  ⟨h.1, h.2.imp id fun ⟨g, cap, cur, h1, h2, h3⟩ => ⟨g, cap, cur, h1, hb g (by rw [h1]; rfl), h3⟩⟩
theorem RowsI.put {w w' : World} {O : Nat → Prop} {vs : List Value} {ls : List (List Int)} (h : RowsI w O vs ls) {k : Nat} {v r : Value} {l l' : List Int} (hv : vs[k]? = some v) (hl : ls[k]? = some l) (hg : w.grownBy w' v.ownBlock)
    (ho : w'.ownsRow 0 3 1 r l'.length (intsK .i64 l')) (hO : ∀ j, r.ownBlock = some j → O j) (hr : r.ownBlock = v.ownBlock ∨ ∃ j, r.ownBlock = some j ∧ w.heap.size ≤ j) : RowsI w' O (vs.set k r) (ls.set k l') := by
  have hkv := (List.getElem?_eq_some_iff.1 hv).1
  have hkl := (List.getElem?_eq_some_iff.1 hl).1
  have far : ∀ i u m, i ≠ k → vs[i]? = some u → ls[i]? = some m → ∀ j, u.ownBlock = some j → r.ownBlock ≠ some j := by
    intro i u m hik hu hm j hj e
    rcases hr with e1 | ⟨j', e1, e2⟩
    · exact h.apart i k u v hu hv hik j hj (e1 ▸ e)
    · rw [e1] at e
      injection e with e
      have := ((h.at_ i u m hu hm).1.lt j hj).2
      omega
  refine ⟨by simp [h.len], fun i u m hu hm => ?_, fun i i' u u' hu hu' hne j hj e => ?_⟩
  · by_cases hik : i = k
    · subst hik
      rw [List.getElem?_set_self hkv] at hu
      rw [List.getElem?_set_self hkl] at hm
      injection hu with hu
      injection hm with hm
      subst hu; subst hm
      exact ⟨ho, hO⟩
    · rw [List.getElem?_set_ne (Ne.symm hik)] at hu hm
      obtain ⟨h1, h2⟩ := h.at_ i u m hu hm
      exact ⟨row_keeps (O := fun j => v.ownBlock ≠ some j) h1 (Keeps.grown hg fun k hk h => h hk) (fun j hj e => h.apart i k u v hu hv hik j hj e), h2⟩
  · by_cases hik : i = k
    · subst hik
      rw [List.getElem?_set_self hkv] at hu
      injection hu with hu
      subst hu
      rw [List.getElem?_set_ne hne] at hu'
      have hlt : i' < ls.length := by rw [← h.len]; exact (List.getElem?_eq_some_iff.1 hu').1
      exact far i' u' _ (Ne.symm hne) hu' (List.getElem?_eq_getElem hlt) j e hj
    · rw [List.getElem?_set_ne (Ne.symm hik)] at hu
      have hlt : i < ls.length := by rw [← h.len]; exact (List.getElem?_eq_some_iff.1 hu).1
      by_cases hik' : i' = k
      · subst hik'
        rw [List.getElem?_set_self hkv] at hu'
        injection hu' with hu'
        subst hu'
        exact far i u _ hne hu (List.getElem?_eq_getElem hlt) j hj e
      · rw [List.getElem?_set_ne (Ne.symm hik')] at hu'
        exact h.apart i i' u u' hu hu' hne j hj e
theorem RowsI.more {w : World} {O : Nat → Prop} {vs : List Value} {ls : List (List Int)} (h : RowsI w O vs ls) : RowsI w O (vs ++ [.slice none 0 0]) (ls ++ [[]]) := by
  have key : ∀ (i : Nat) (u : Value), (vs ++ [Value.slice none 0 0])[i]? = some u → vs[i]? = some u ∨ (i = vs.length ∧ u = .slice none 0 0) := by
    intro i u hu
    by_cases hi : i < vs.length
    · rw [List.getElem?_append_left hi] at hu; exact .inl hu
    · rw [List.getElem?_append_right (by omega)] at hu
      have := (List.getElem?_eq_some_iff.1 hu).1
      simp at this
      refine .inr ⟨by omega, ?_⟩
      rw [show i - vs.length = 0 by omega] at hu
      simpa using hu.symm
  refine ⟨by simp [h.len], fun i u m hu hm => ?_, fun i k u u' hu hu' hne j hj => ?_⟩
  · rcases key i u hu with hu | ⟨rfl, rfl⟩
    · have hi := (List.getElem?_eq_some_iff.1 hu).1
      rw [List.getElem?_append_left (by rw [← h.len]; exact hi)] at hm
      exact h.at_ i u m hu hm
    · rw [List.getElem?_append_right (by rw [h.len]; exact Nat.le_refl _), h.len] at hm
      simp at hm
      subst hm
      exact ⟨World.ownsRow_nil _ _ _ _, fun j hj => by simp [Value.ownBlock] at hj⟩
  · rcases key i u hu with hu | ⟨rfl, rfl⟩
    · rcases key k u' hu' with hu' | ⟨rfl, rfl⟩
      · exact h.apart i k u u' hu hu' hne j hj
      · simp [Value.ownBlock]
    · simp [Value.ownBlock] at hj
theorem RowsI.nil (w : World) (O : Nat → Prop) : RowsI w O [] [] := ⟨rfl, by simp, by simp⟩
/-! ### names and what stands at them -/
theorem zip_none {α : Type} {a : List UInt8} : ∀ {L : List (List UInt8 × α)} {vs : List Value}, vs.length = L.length → atL a L = none → ∀ r, atId a ((L.map Prod.fst).zip vs) = none ∧ putId a r ((L.map Prod.fst).zip vs) = (L.map Prod.fst ++ [a]).zip (vs ++ [r])
  | [], [], _, _, r => ⟨rfl, rfl⟩
  | [], _ :: _, h, _, _ => by simp at h
  | _ :: _, [], h, _, _ => by simp at h
  | x :: L, v :: vs, h, ha, r => by
    rw [atL_cons] at ha
    split at ha
    · cases ha
    · rename_i hx
      have ih := zip_none (L := L) (vs := vs) (by simpa using h) ha r
      simp only [List.map_cons, List.zip_cons_cons, atId, putId, if_neg hx, List.cons_append, ih.2, ih.1, and_self]
theorem zip_some {α : Type} {a : List UInt8} {y : α} : ∀ {L : List (List UInt8 × α)}, atL a L = some y → ∃ k, L[k]? = some (a, y) ∧ (∀ y', putAt a y' L = L.set k (a, y')) ∧ ∀ vs : List Value, vs.length = L.length → ∃ v, vs[k]? = some v ∧ atId a ((L.map Prod.fst).zip vs) = some v ∧ ∀ r, putId a r ((L.map Prod.fst).zip vs) = (L.map Prod.fst).zip (vs.set k r)
  | [], h => by simp [atL] at h
  | x :: L, h => by
    rw [atL_cons] at h
    split at h
    · rename_i hx
      injection h with h
      subst h
      subst hx
      refine ⟨0, rfl, fun y' => by simp [putAt], fun vs hvs => ?_⟩
      rcases vs with _ | ⟨v, vs⟩
      · simp at hvs
      · exact ⟨v, rfl, by simp [atId], fun r => by simp [putId]⟩
    · rename_i hx
      obtain ⟨k, h1, h2, h3⟩ := zip_some h
      refine ⟨k + 1, by simpa using h1, fun y' => by simp [putAt, hx, h2], fun vs hvs => ?_⟩
      rcases vs with _ | ⟨v, vs⟩
      · simp at hvs
      · obtain ⟨u, q1, q2, q3⟩ := h3 vs (by simpa using hvs)
        exact ⟨u, by simpa using q1, by simp [atId, hx, q2], fun r => by simp [putId, hx, q3]⟩
/-! ### what is missing -/
noncomputable def missStep (S : FS) (L : List (List UInt8 × List Int)) (t : List UInt8 × List Int) : List (List UInt8 × List Int) :=
  if (wayF S t.1).2.1 = 0 then putAt (wayF S t.1).2.2 (t.2.foldl putL ((atL (wayF S t.1).2.2 L).getD [])) L else L
noncomputable def missL (S : FS) : List (List UInt8 × List Int) := S.ts.foldl (missStep S) []
def WhoOk (n : Nat) (L : List (List UInt8 × List Int)) : Prop := L.length ≤ n ∧ ∀ x ∈ L, x.1.length = 32 ∧ Places x.2
theorem WhoOk.put {n : Nat} {L : List (List UInt8 × List Int)} (h : WhoOk n L) {a : List UInt8} {l : List Int} (ha : a.length = 32) (hl : Places l) : WhoOk (n + 1) (putAt a l L) := by
  cases hx : atL a L with
  | none =>
    rw [putAt_new hx]
    refine ⟨by simp; exact h.1, fun x hx => ?_⟩
    rcases List.mem_append.1 hx with hx | hx
    · exact h.2 x hx
    · obtain rfl : x = (a, l) := by simpa using hx
      exact ⟨ha, hl⟩
  | some y =>
    obtain ⟨k, h1, h2, h3⟩ := zip_some hx
    rw [h2]
    refine ⟨by simp; exact Nat.le_succ_of_le h.1, fun x hx => ?_⟩
    rcases List.mem_or_eq_of_mem_set hx with hx | rfl
    · exact h.2 x hx
    · exact ⟨ha, hl⟩
theorem WhoOk.at_ {n : Nat} {L : List (List UInt8 × List Int)} (h : WhoOk n L) (a : List UInt8) : Places ((atL a L).getD []) := by
  cases hx : atL a L with
  | none => exact Places.nil
  | some y => exact (h.2 _ (atL_mem hx)).2
theorem WhoOk.more {n m : Nat} {L : List (List UInt8 × List Int)} (h : WhoOk n L) (hm : n ≤ m) : WhoOk m L := ⟨Nat.le_trans h.1 hm, h.2⟩
end Go.Proofs.YtdjcjjodbniebaaGreatDoor
