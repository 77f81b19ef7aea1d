/-
  Texts joined: FTargetL.
-/
import Derived.Test.YtdjcjjodbniebaaGreatDoorJoin22
namespace Go.Proofs.YtdjcjjodbniebaaGreatDoor
open Go.RowKit
set_option linter.unusedVariables false
set_option linter.unusedSimpArgs false
set_option maxRecDepth 10000
theorem own_putN {w : World} {base e size n : Nat} {g c : Nat} {xs : List Value} (h : w.ownsRow base e size (.slice (some ⟨g, 0, none⟩) n c) n xs) {i : Nat} (hi : i < n * size) (v : Value) :
    (w.setCell ⟨g, i, none⟩ v).ownsRow base e size (.slice (some ⟨g, 0, none⟩) n c) n (xs.set i v) := by
  refine ⟨by simpa using h.1, ?_⟩
  rcases h.2 with ⟨h1, _⟩ | ⟨g', cap, cur, h1, h2, h3, h4, h5, h6, h7⟩
  · cases h1
  · injection h1 with h1 _ h1'
    injection h1 with h1
    injection h1 with h1
    subst h1 h1'
    refine .inr ⟨g, c, cur.setIfInBounds i v, rfl, h2, Blk_set h3, h4, h5, by simpa using h6, ?_⟩
    rw [Array.toList_setIfInBounds, List.take_set, h7]
theorem flatT_set {v r : Value} {a : List UInt8} : ∀ {xs : List (List UInt8 × Value)} (hok : ∀ x ∈ xs, x.1.length = 32) {i : Nat}, xs[i]? = some (a, v) → (flatT xs).set (33 * i + 32) r = flatT (xs.set i (a, r))
  | [], _, i, h => by simp at h
  | y :: ys, hok, 0, h => by
    simp at h
    subst h
    have h1 := hok (a, v) (by simp)
    show ((bl a ++ [v]) ++ flatT ys).set (33 * 0 + 32) r = (bl a ++ [r]) ++ flatT ys
    rw [Nat.mul_zero, Nat.zero_add, List.append_assoc, List.set_append_right _ _ (by simp [bl, h1])]
    have e : (bl a).length = 32 := by simp [bl, h1]
    rw [e]
    simp
  | y :: ys, hok, i + 1, h => by
    have hl : (tcell y).length = 33 := tcell_len (hok y (by simp))
    show ((tcell y) ++ flatT ys).set (33 * (i + 1) + 32) r = tcell y ++ flatT (ys.set i (a, r))
    rw [List.set_append_right _ _ (by omega), hl, show 33 * (i + 1) + 32 - 33 = 33 * i + 32 by omega, flatT_set (fun x hx => hok x (by simp [hx])) (by simpa using h)]
theorem zip_set {α β : Type} : ∀ (xs : List α) (ys : List β) (i : Nat) (x : α) (y : β), xs[i]? = some x → (xs.zip ys).set i (x, y) = xs.zip (ys.set i y)
  | [], ys, i, x, y, h => by simp at h
  | a :: xs, [], i, x, y, h => by simp
  | a :: xs, b :: ys, 0, x, y, h => by simp at h; subst h; rfl
  | a :: xs, b :: ys, i + 1, x, y, h => by
    have := zip_set xs ys i x y (by simpa using h)
    simp [this]
section
variable {w w' : World} {O O' : Nat → Prop} {f : Nat} {S : FS} {tv : Value} {rk ra ro : Nat} {vs : List Value} {K : List (List UInt8 × Bk × Value)}
theorem RowsI.mono {ls : List (List Int)} (h : RowsI w O vs ls) (hO : ∀ j, O j → O' j) : RowsI w O' vs ls := ⟨h.len, fun i v l h1 h2 => ⟨(h.at_ i v l h1 h2).1, fun j hj => hO j ((h.at_ i v l h1 h2).2 j hj)⟩, h.apart⟩
theorem FIn.mono (h : FIn w O f S tv rk ra ro vs K) (hO : ∀ j, O j → O' j) (hl : ∀ j, O' j → j < w.heap.size) (h0 : ¬ O' 0) : FIn w O' f S tv rk ra ro vs K :=
  ⟨hO _ h.of, hO _ h.ok, hO _ h.oa, hO _ h.oo, h.ka, h.ko, h.ao, hl, h0, h.blk, h.row, fun j hj => hO _ (h.orow j hj), h.rows.mono hO, h.kept, h.mpk, fun x hx => ⟨(h.dat x hx).1, (h.dat x hx).2.1, fun j hj => hO _ ((h.dat x hx).2.2 j hj)⟩, h.ma, h.mo⟩
def Since (O : Nat → Prop) (w w' : World) (j : Nat) : Prop := O j ∨ (w.heap.size ≤ j ∧ j < w'.heap.size)
theorem FIn.since (h : FIn w O f S tv rk ra ro vs K) (w0 : World) (hs : w0.heap.size ≤ w.heap.size) (h0 : 0 < w0.heap.size) : FIn w (Since O w0 w) f S tv rk ra ro vs K :=
  h.mono (fun j hj => .inl hj) (fun j hj => hj.elim (h.lt j) fun h => h.2) (fun hj => hj.elim h.zero fun h => by omega)
theorem mine_since (h : Keeps (fun j => ¬ O j) w w') (hO : ∀ j, O j → j < w.heap.size) : Mine O (Since O w w') w w' :=
  ⟨fun j hj => hj.imp id fun h => h.1, fun j hj => hj.elim (fun h' => Nat.lt_of_lt_of_le (hO j h') h.size) fun h => h.2, h⟩
theorem FIn.from_ (h : FIn w O f S tv rk ra ro vs K) (hok : FOk S) {i : Nat} {t : List UInt8 × List Int} (ht : S.ts[i]? = some t) {v r : Value} (hv : vs[i]? = some v) {l' : List Int} {w3 : World} (hg : w.grownBy w3 v.ownBlock)
    (hr : w3.ownsRow 0 3 1 r l'.length (intsK .i64 l')) (hrb : r.ownBlock = v.ownBlock ∨ ∃ j, r.ownBlock = some j ∧ w.heap.size ≤ j) (hO : ∀ j, r.ownBlock = some j → O' j) (hOO : ∀ j, O j → O' j) (hl : ∀ j, O' j → j < w3.heap.size) (h0 : ¬ O' 0)
    {g c : Nat} (htv : tv = .slice (some ⟨g, 0, none⟩) S.ts.length c) : FIn (w3.setCell ⟨g, 33 * i + 32, none⟩ r) O' f { S with ts := S.ts.set i (t.1, l') } tv rk ra ro (vs.set i r) K ∧ Keeps (fun j => ¬ O j) w (w3.setCell ⟨g, 33 * i + 32, none⟩ r) := by
  have hil := (List.getElem?_eq_some_iff.1 ht).1
  have htm : (S.ts.map Prod.snd)[i]? = some t.2 := by simp [ht]
  obtain ⟨hvo, hvO⟩ := h.rows.at_ i v t.2 hv htm
  have kO : Keeps (fun j => v.ownBlock ≠ some j) w w3 := Keeps.grown hg fun k hk h => h hk
  have kN : Keeps (fun j => ¬ O j) w w3 := Keeps.grown hg fun k hk h => h (hvO k hk)
  have hrow3 := row_keeps h.row kO (fun j hj e => rows_ne hvo h.row (by decide) j e hj)
  have hgO : O g := h.orow g (by rw [htv]; rfl)
  have kC : Keeps (fun j => j ≠ g) w3 (w3.setCell ⟨g, 33 * i + 32, none⟩ r) := Keeps.setCell _ _ _ (by simp)
  have kN2 : Keeps (fun j => ¬ O j) w3 (w3.setCell ⟨g, 33 * i + 32, none⟩ r) := Keeps.setCell _ _ _ fun h => h hgO
  have hrows3 := h.rows.mono hOO
  have hrows3 := hrows3.put hv htm hg hr hO hrb
  have hblk3 : Blk w3 f 72 (fcells S.last S.height S.room tv rk ra ro).toArray := kO.blk h.blk (fun e => row_ne hvo h.blk (by decide) e)
  have hzl : ∀ x ∈ (S.ts.map Prod.fst).zip vs, x.1.length = 32 := fun x hx => by
    obtain ⟨y, hy, e⟩ := List.mem_map.1 (List.of_mem_zip hx).1
    rw [← e]
    exact (hok.ts _ hy).1
  have hz : ((S.ts.map Prod.fst).zip vs)[i]? = some (t.1, v) := by
    rw [List.getElem?_zip_eq_some]
    exact ⟨by simp [ht], hv⟩
  have hn1 : (S.ts.set i (t.1, l')).map Prod.fst = S.ts.map Prod.fst := by rw [List.map_set]; exact set_same (by simp [ht])
  have hn2 : (S.ts.set i (t.1, l')).map Prod.snd = (S.ts.map Prod.snd).set i l' := by rw [List.map_set]
  have far : ∀ {e size n : Nat} {u : Value} {xs : List Value}, w3.ownsRow 0 e size u n xs → e ≠ 97 → (w3.setCell ⟨g, 33 * i + 32, none⟩ r).ownsRow 0 e size u n xs := fun ho hne => row_keeps ho kC (fun j hj e => by subst e; exact rows_ne ho hrow3 hne _ hj (by rw [htv]; rfl))
  have farm : ∀ {q : Nat} {L : List (List UInt8 × Value)}, MpI w q L → MpI (w3.setCell ⟨g, 33 * i + 32, none⟩ r) q L := fun hm =>
    (hm.keeps kO (fun e => row_map hvo hm e)).keeps kC (fun e => by subst e; exact row_map h.row hm (by rw [htv]; rfl))
  refine ⟨⟨hOO _ h.of, hOO _ h.ok, hOO _ h.oa, hOO _ h.oo, h.ka, h.ko, h.ao, fun j hj => by rw [sz_set]; exact hl j hj, h0, ?_, ?_, fun j hj => hOO _ (h.orow j hj), ?_, h.kept, farm h.mpk, fun x hx => ⟨(h.dat x hx).1, ?_, fun j hj => hOO _ ((h.dat x hx).2.2 j hj)⟩, farm h.ma, farm h.mo⟩, kN.trans kN2⟩
  · exact kC.blk hblk3 (fun e => by subst e; exact row_ne hrow3 hblk3 (by decide) (by rw [htv]; rfl))
  · show (w3.setCell ⟨g, 33 * i + 32, none⟩ r).ownsRow 0 97 33 tv (S.ts.set i (t.1, l')).length (flatT (((S.ts.set i (t.1, l')).map Prod.fst).zip (vs.set i r)))
    rw [hn1, List.length_set, ← zip_set _ vs i t.1 r (by simp [ht]), ← flatT_set hzl hz, htv]
    rw [htv] at hrow3
    exact own_putN hrow3 (by omega) r
  · show RowsI _ O' (vs.set i r) ((S.ts.set i (t.1, l')).map Prod.snd)
    rw [hn2]
    exact ⟨hrows3.len, fun a u m h1 h2 => ⟨far (hrows3.at_ a u m h1 h2).1 (by decide), (hrows3.at_ a u m h1 h2).2⟩, hrows3.apart⟩
  · exact far (row_keeps (h.dat x hx).2.1 kO (fun j hj e => rows_ne hvo (h.dat x hx).2.1 (by decide) j e hj)) (by decide)
theorem FIn.addT (h : FIn w O f S tv rk ra ro vs K) (hok : FOk S) {id : List UInt8} {tv' : Value} {w3 : World} (hg : w.grownBy w3 tv.ownBlock) (hr : w3.ownsRow 0 97 33 tv' (S.ts.length + 1) (flatT ((S.ts.map Prod.fst).zip vs) ++ tcell (id, .slice none 0 0)))
    (hO : ∀ j, tv'.ownBlock = some j → O' j) (hOO : ∀ j, O j → O' j) (hl : ∀ j, O' j → j < w3.heap.size) (h0 : ¬ O' 0) :
    FIn (w3.setCell ⟨f, 34, none⟩ tv') O' f { S with ts := S.ts ++ [(id, [])] } tv' rk ra ro (vs ++ [.slice none 0 0]) K ∧ Keeps (fun j => ¬ O j) w (w3.setCell ⟨f, 34, none⟩ tv') := by
  have kO : Keeps (fun j => tv.ownBlock ≠ some j) w w3 := Keeps.grown hg fun k hk h => h hk
  have kN : Keeps (fun j => ¬ O j) w w3 := Keeps.grown hg fun k hk h2 => h2 (h.orow k hk)
  have kC : Keeps (fun j => j ≠ f) w3 (w3.setCell ⟨f, 34, none⟩ tv') := Keeps.setCell _ _ _ (by simp)
  have kN2 : Keeps (fun j => ¬ O j) w3 (w3.setCell ⟨f, 34, none⟩ tv') := Keeps.setCell _ _ _ fun h' => h' h.of
  have hblk3 : Blk w3 f 72 (fcells S.last S.height S.room tv rk ra ro).toArray := kO.blk h.blk (fun e => row_ne h.row h.blk (by decide) e)
  have far : ∀ {e size n : Nat} {u : Value} {xs : List Value}, w3.ownsRow 0 e size u n xs → e ≠ 72 → (w3.setCell ⟨f, 34, none⟩ tv').ownsRow 0 e size u n xs := fun ho hne => row_keeps ho kC (fun j hj e => row_ne ho hblk3 hne (e ▸ hj))
  have farm : ∀ {q : Nat} {L : List (List UInt8 × Value)}, MpI w q L → MpI (w3.setCell ⟨f, 34, none⟩ tv') q L := fun hm =>
    (hm.keeps kO (fun e => row_map h.row hm e)).keeps kC (fun e => (blk_map h.blk hm) e.symm)
  have hvl : vs.length = S.ts.length := by have := h.rows.len; simpa using this
  have hset : (fcells S.last S.height S.room tv rk ra ro).toArray.setIfInBounds 34 tv' = (fcells S.last S.height S.room tv' rk ra ro).toArray := by
    have e : (bl S.last).length = 32 := by rw [bl_length]; exact hok.last
    rw [List.setIfInBounds_toArray]
    congr 1
    unfold fcells
    rw [List.set_append_right _ _ (by omega), e]
    rfl
  have hrows3 : RowsI w3 O vs (S.ts.map Prod.snd) := ⟨h.rows.len, fun a u m h1 h2 => ⟨row_keeps (h.rows.at_ a u m h1 h2).1 kO (fun j hj e => rows_ne h.row (h.rows.at_ a u m h1 h2).1 (by decide) j e hj), (h.rows.at_ a u m h1 h2).2⟩, h.rows.apart⟩
  have hrows4 : RowsI (w3.setCell ⟨f, 34, none⟩ tv') O vs (S.ts.map Prod.snd) := ⟨hrows3.len, fun a u m h1 h2 => ⟨far (hrows3.at_ a u m h1 h2).1 (by decide), (hrows3.at_ a u m h1 h2).2⟩, hrows3.apart⟩
  refine ⟨⟨hOO _ h.of, hOO _ h.ok, hOO _ h.oa, hOO _ h.oo, h.ka, h.ko, h.ao, fun j hj => by rw [sz_set]; exact hl j hj, h0, ?_, ?_, hO, ?_, h.kept, farm h.mpk, fun x hx => ⟨(h.dat x hx).1, ?_, fun j hj => hOO _ ((h.dat x hx).2.2 j hj)⟩, farm h.ma, farm h.mo⟩, kN.trans kN2⟩
  · show Blk (w3.setCell ⟨f, 34, none⟩ tv') f 72 (fcells S.last S.height S.room tv' rk ra ro).toArray
    rw [← hset]
    exact Blk_set hblk3
  · show (w3.setCell ⟨f, 34, none⟩ tv').ownsRow 0 97 33 tv' (S.ts ++ [(id, [])]).length (flatT (((S.ts ++ [(id, [])]).map Prod.fst).zip (vs ++ [Value.slice none 0 0])))
    have e : flatT (((S.ts ++ [(id, [])]).map Prod.fst).zip (vs ++ [Value.slice none 0 0])) = flatT ((S.ts.map Prod.fst).zip vs) ++ tcell (id, .slice none 0 0) := by
      rw [List.map_append, List.zip_append (by simp [hvl])]
      simp [flatT]
    rw [e, List.length_append]
    exact far hr (by decide)
  · show RowsI _ O' (vs ++ [.slice none 0 0]) ((S.ts ++ [(id, [])]).map Prod.snd)
    rw [List.map_append]
    exact (hrows4.more).mono hOO
  · exact far (row_keeps (h.dat x hx).2.1 kO (fun j hj e => rows_ne h.row (h.dat x hx).2.1 (by decide) j e hj)) (by decide)
end
end Go.Proofs.YtdjcjjodbniebaaGreatDoor
