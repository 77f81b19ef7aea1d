/-
  Texts joined: FState.
-/
import Derived.Test.YtdjcjjodbniebaaGreatDoorJoin17
namespace Go.Proofs.YtdjcjjodbniebaaGreatDoor
open Go.RowKit
set_option linter.unusedVariables false
set_option linter.unusedSimpArgs false
set_option maxRecDepth 10000
structure FS where
  last : List UInt8
  height : Int
  room : Int
  ts : List (List UInt8 × List Int)
  kept : List (List UInt8 × Bk)
  asked : List (List UInt8 × Bool)
  often : List (List UInt8 × Int)
def atL {α : Type} (a : List UInt8) (L : List (List UInt8 × α)) : Option α := (L.find? fun x => decide (a = x.1)).map Prod.snd
theorem atL_nil {α : Type} (a : List UInt8) : atL a ([] : List (List UInt8 × α)) = none := rfl
theorem atL_cons {α : Type} (a : List UInt8) (x : List UInt8 × α) (L : List (List UInt8 × α)) : atL a (x :: L) = if a = x.1 then some x.2 else atL a L := by
  by_cases h : a = x.1
  · simp [atL, h]
  · simp [atL, h]
theorem atL_mem {α : Type} {a : List UInt8} {y : α} : ∀ {L : List (List UInt8 × α)}, atL a L = some y → (a, y) ∈ L
  | [], h => by simp [atL] at h
  | x :: L, h => by
    rw [atL_cons] at h
    split at h
    · rename_i e
      injection h with h
      subst h
      subst e
      exact List.mem_cons_self
    · exact List.mem_cons_of_mem _ (atL_mem h)
theorem atId_map {α : Type} (g : α → Value) (a : List UInt8) : ∀ L : List (List UInt8 × α), atId a (L.map fun x => (x.1, g x.2)) = (atL a L).map g
  | [] => rfl
  | x :: L => by
    rw [atL_cons]
    simp only [List.map_cons, atId]
    split
    · rfl
    · exact atId_map g a L
theorem atL_map {α β : Type} (g : α → β) (a : List UInt8) : ∀ L : List (List UInt8 × α), atL a (L.map fun x => (x.1, g x.2)) = (atL a L).map g
  | [] => rfl
  | x :: L => by
    rw [List.map_cons, atL_cons, atL_cons, atL_map g a L]
    split <;> rfl
def putAt {α : Type} (a : List UInt8) (v : α) : List (List UInt8 × α) → List (List UInt8 × α)
  | [] => [(a, v)]
  | x :: L => if a = x.1 then (a, v) :: L else x :: putAt a v L
theorem putId_map {α : Type} (g : α → Value) (a : List UInt8) (v : α) : ∀ L : List (List UInt8 × α), putId a (g v) (L.map fun x => (x.1, g x.2)) = (putAt a v L).map fun x => (x.1, g x.2)
  | [] => rfl
  | x :: L => by
    have ih := putId_map g a v L
    simp only [List.map_cons, putId, putAt]
    split
    · rfl
    · rw [ih]; rfl
theorem putAt_new {α : Type} {a : List UInt8} {v : α} : ∀ {L : List (List UInt8 × α)}, atL a L = none → putAt a v L = L ++ [(a, v)]
  | [], _ => rfl
  | x :: L, h => by
    rw [atL_cons] at h
    split at h
    · cases h
    · rename_i hx; simp [putAt, hx, putAt_new h]
/-! ### the ways, plainly -/
def keptOf (S : FS) (a : List UInt8) : Option Bk := atL a S.kept
def wayBad (S : FS) (out : List Bk) (b : Bk) : Prop := b.height ≤ S.height ∨ decide (b.height - 1 = S.height) ≠ decide (b.parent = S.last) ∨ ∃ c, out.getLast? = some c ∧ linkedB c b ≠ 0
open Classical in
noncomputable def wayL (S : FS) : Nat → List Bk → List UInt8 → List Bk × Int × List UInt8
  | 0, out, a => (out, 0, a)
  | n + 1, out, a => if a = S.last then (out, 1, a) else match keptOf S a with
    | none => (out, 0, a)
    | some b => if wayBad S out b then (out, 2, a) else wayL S n (out ++ [b]) b.parent
noncomputable def wayF (S : FS) (a : List UInt8) : List Bk × Int × List UInt8 := wayL S (S.kept.length + 1) [] a
theorem falling_len : ∀ (L M : List Int), L.Pairwise (· > ·) → (∀ x ∈ L, x ∈ M) → L.length ≤ M.length
  | [], M, _, _ => by simp
  | x :: L, M, hp, hm => by
    rw [List.pairwise_cons] at hp
    have hx := hm x (by simp)
    have h1 := falling_len L (M.erase x) hp.2 fun y hy => (List.mem_erase_of_ne (by have := hp.1 y hy; omega)).2 (hm y (by simp [hy]))
    have h2 := List.length_erase_of_mem hx
    have h3 := List.length_pos_of_mem hx
    simp only [List.length_cons]
    omega
def WayI (S : FS) (out : List Bk) : Prop := (∀ b ∈ out, ∃ a, (a, b) ∈ S.kept) ∧ (out.map Bk.height).Pairwise (· > ·)
theorem WayI.len {S : FS} {out : List Bk} (h : WayI S out) : out.length ≤ S.kept.length := by
  have := falling_len (out.map Bk.height) (S.kept.map fun x => x.2.height) h.2 fun x hx => by
    obtain ⟨b, hb, rfl⟩ := List.mem_map.1 hx
    obtain ⟨a, ha⟩ := h.1 b hb
    exact List.mem_map.2 ⟨(a, b), ha, rfl⟩
  simpa using this
theorem linkedB_height {c p : Bk} (h : linkedB c p = 0) : c.height = p.height + 1 := by
  unfold linkedB at h
  split at h
  · simp at h
  · split at h
    · simp at h
    · rename_i h2
      have : ¬ c.height ≠ p.height + 1 := fun e => h2 (.inr (.inr e))
      omega
theorem WayI.snoc {S : FS} {out : List Bk} (h : WayI S out) {a : List UInt8} {b : Bk} (hb : keptOf S a = some b) (hn : ¬ wayBad S out b) : WayI S (out ++ [b]) := by
  refine ⟨fun x hx => ?_, ?_⟩
  · rcases List.mem_append.1 hx with hx | hx
    · exact h.1 x hx
    · obtain rfl : x = b := by simpa using hx
      exact ⟨a, atL_mem hb⟩
  · rw [List.map_append, List.pairwise_append]
    refine ⟨h.2, by simp, fun x hx y hy => ?_⟩
    obtain rfl : y = b.height := by simpa using hy
    rcases List.eq_nil_or_concat out with rfl | ⟨l, c, rfl⟩
    · simp at hx
    · have hl : linkedB c b = 0 := by
        apply Classical.byContradiction
        intro hc
        exact hn (.inr (.inr ⟨c, by simp, hc⟩))
      have hh := linkedB_height hl
      have hp := h.2
      rw [List.concat_eq_append, List.map_append, List.pairwise_append] at hp
      rw [List.concat_eq_append, List.map_append, List.mem_append] at hx
      rcases hx with hx | hx
      · have := hp.2.2 x hx c.height (by simp)
        omega
      · obtain rfl : x = c.height := by simpa using hx
        omega
/-! ### a fetch as it lies -/
def intsL (L : List (List UInt8 × Int)) : List (List UInt8 × Value) := L.map fun x => (x.1, .int .i64 x.2)
def keptL (K : List (List UInt8 × Bk × Value)) : List (List UInt8 × Value) := K.map fun x => (x.1, .agg (bkv x.2.1 x.2.2).toArray)
structure RowsI (w : World) (O : Nat → Prop) (vs : List Value) (ls : List (List Int)) : Prop where
  len : vs.length = ls.length
  at_ : ∀ (i : Nat) (v : Value) (l : List Int), vs[i]? = some v → ls[i]? = some l → w.ownsRow 0 3 1 v l.length (intsK .i64 l) ∧ ∀ j, v.ownBlock = some j → O j
  apart : ∀ (i k : Nat) (v u : Value), vs[i]? = some v → vs[k]? = some u → i ≠ k → ∀ j, v.ownBlock = some j → u.ownBlock ≠ some j
structure FIn (w : World) (O : Nat → Prop) (f : Nat) (S : FS) (tv : Value) (rk ra ro : Nat) (vs : List Value) (K : List (List UInt8 × Bk × Value)) : Prop where
  of : O f
  ok : O rk
  oa : O ra
  oo : O ro
  ka : rk ≠ ra
  ko : rk ≠ ro
  ao : ra ≠ ro
  lt : ∀ j, O j → j < w.heap.size
  zero : ¬ O 0
  blk : Blk w f 72 (fcells S.last S.height S.room tv rk ra ro).toArray
  row : w.ownsRow 0 97 33 tv S.ts.length (flatT ((S.ts.map Prod.fst).zip vs))
  orow : ∀ j, tv.ownBlock = some j → O j
  rows : RowsI w O vs (S.ts.map Prod.snd)
  kept : K.map (fun x => (x.1, x.2.1)) = S.kept
  mpk : MpI w rk (keptL K)
  dat : ∀ x ∈ K, BkOk x.2.1 ∧ w.ownsRow 0 5 1 x.2.2 x.2.1.data.length (bl x.2.1.data) ∧ ∀ j, x.2.2.ownBlock = some j → O j
  ma : MpI w ra (boolsL S.asked)
  mo : MpI w ro (intsL S.often)
def FAt (w : World) (O : Nat → Prop) (f : Nat) (S : FS) : Prop := ∃ tv rk ra ro vs K, FIn w O f S tv rk ra ro vs K
structure FOk (S : FS) : Prop where
  last : S.last.length = 32
  hlo : 0 ≤ S.height
  hhi : S.height ≤ 9223372036854775807
  room : 1 ≤ S.room ∧ S.room ≤ 4096
  tsn : S.ts.length ≤ 32
  ts : ∀ t ∈ S.ts, t.1.length = 32 ∧ t.2.Pairwise (· < ·) ∧ ∀ v ∈ t.2, 0 ≤ v ∧ v < 32
  keptn : S.kept.length ≤ 4096
  kept : ∀ x ∈ S.kept, BkOk x.2 ∧ checkB x.2 = 0
theorem RowsI.keeps {w w' : World} {O : Nat → Prop} {vs : List Value} {ls : List (List Int)} (h : RowsI w O vs ls) (hk : Keeps O w w') : RowsI w' O vs ls :=
  ⟨h.len, fun i v l h1 h2 => ⟨row_keeps (h.at_ i v l h1 h2).1 hk (h.at_ i v l h1 h2).2, (h.at_ i v l h1 h2).2⟩, h.apart⟩
theorem MpI.keeps {w w' : World} {O : Nat → Prop} {r : Nat} {L : List (List UInt8 × Value)} (h : MpI w r L) (hk : Keeps O w w') (hr : O r) : MpI w' r L := h.far (hk.block r h.lt hr)
theorem FIn.keeps {w w' : World} {O : Nat → Prop} {f : Nat} {S : FS} {tv : Value} {rk ra ro : Nat} {vs : List Value} {K : List (List UInt8 × Bk × Value)} (h : FIn w O f S tv rk ra ro vs K) (hk : Keeps O w w') : FIn w' O f S tv rk ra ro vs K :=
  ⟨h.of, h.ok, h.oa, h.oo, h.ka, h.ko, h.ao, fun j hj => Nat.lt_of_lt_of_le (h.lt j hj) hk.size, h.zero, hk.blk h.blk h.of, row_keeps h.row hk h.orow, h.orow, h.rows.keeps hk, h.kept, h.mpk.keeps hk h.ok, fun x hx => ⟨(h.dat x hx).1, row_keeps (h.dat x hx).2.1 hk (h.dat x hx).2.2, (h.dat x hx).2.2⟩, h.ma.keeps hk h.oa, h.mo.keeps hk h.oo⟩
theorem FAt.keeps {w w' : World} {O : Nat → Prop} {f : Nat} {S : FS} (h : FAt w O f S) (hk : Keeps O w w') : FAt w' O f S := by
  obtain ⟨tv, rk, ra, ro, vs, K, h⟩ := h
  exact ⟨tv, rk, ra, ro, vs, K, h.keeps hk⟩
theorem FIn.keep {w w' : World} {O : Nat → Prop} {f : Nat} {S : FS} {tv : Value} {rk ra ro : Nat} {vs : List Value} {K : List (List UInt8 × Bk × Value)} (h : FIn w O f S tv rk ra ro vs K) (hk : Below w.heap.size w w') : FIn w' O f S tv rk ra ro vs K := h.keeps (Keeps.of_ext hk)
section
variable {w : World} {O : Nat → Prop} {f : Nat} {S : FS} {tv : Value} {rk ra ro : Nat} {vs : List Value} {K : List (List UInt8 × Bk × Value)}
theorem fcells_len {last : List UInt8} {height room : Int} (h : last.length = 32) : (fcells last height room tv rk ra ro).length = 38 := by simp [fcells, bl, h]
theorem fcells_at {last : List UInt8} {height room : Int} (h : last.length = 32) : ∀ j, (fcells last height room tv rk ra ro)[32 + j]? = [Value.int .i64 height, .int .i64 room, tv, .map (some rk), .map (some ra), .map (some ro)][j]? := by
  intro j
  unfold fcells
  rw [List.getElem?_append_right (by simp [bl, h])]
  congr 1
  simp [bl, h]
theorem FIn.cells (h : FIn w O f S tv rk ra ro vs K) (hl : S.last.length = 32) : w.cell? ⟨f, 32, none⟩ = some (.int .i64 S.height) ∧ w.cell? ⟨f, 33, none⟩ = some (.int .i64 S.room) ∧ w.cell? ⟨f, 34, none⟩ = some tv ∧ w.cell? ⟨f, 35, none⟩ = some (.map (some rk)) ∧ w.cell? ⟨f, 36, none⟩ = some (.map (some ra)) ∧ w.cell? ⟨f, 37, none⟩ = some (.map (some ro)) := by
  have e : ∀ j, w.cell? ⟨f, 32 + j, none⟩ = [Value.int .i64 S.height, .int .i64 S.room, tv, .map (some rk), .map (some ra), .map (some ro)][j]? := fun j => by
    rw [h.blk.cell, List.getElem?_toArray]; exact fcells_at hl j
  exact ⟨e 0, e 1, e 2, e 3, e 4, e 5⟩
theorem FIn.idcells (h : FIn w O f S tv rk ra ro vs K) (hl : S.last.length = 32) : readCells w ⟨f, 0, none⟩ 0 32 = some (bl S.last) :=
  readCells_blk h.blk 32 0 0 (bl S.last) (by simp [bl, hl]) (fun j v hj => by
    have := (List.getElem?_eq_some_iff.1 hj).1
    rw [Nat.zero_add, List.getElem?_toArray]
    unfold fcells
    rw [List.getElem?_append_left this]; exact hj)
theorem FIn.look (h : FIn w O f S tv rk ra ro vs K) (a : List UInt8) : match keptOf S a with
    | none => atId a (keptL K) = none
    | some b => ∃ dv, (a, b, dv) ∈ K ∧ atId a (keptL K) = some (.agg (bkv b dv).toArray) := by
  have e1 : keptOf S a = (atL a K).map Prod.fst := by
    unfold keptOf
    rw [← h.kept]
    exact atL_map Prod.fst a K
  have e2 : atId a (keptL K) = (atL a K).map fun x => .agg (bkv x.1 x.2).toArray := atId_map (fun x : Bk × Value => .agg (bkv x.1 x.2).toArray) a K
  rw [e1, e2]
  cases hx : atL a K with
  | none => rfl
  | some x => exact ⟨x.2, atL_mem hx, rfl⟩
end
end Go.Proofs.YtdjcjjodbniebaaGreatDoor
