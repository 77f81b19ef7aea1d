/-
  Texts joined: FBegunL, FAtOps.
-/
import Derived.Test.YtdjcjjodbniebaaGreatDoorJoin29
namespace Go.Proofs.YtdjcjjodbniebaaGreatDoor
set_option linter.unusedVariables false
set_option linter.unusedSimpArgs false
set_option maxRecDepth 10000
theorem wayL_last (S : FS) (n : Nat) (out : List Bk) : wayL S (n + 1) out S.last = (out, 1, S.last) := by
  unfold wayL; rw [if_pos rfl]
theorem wayL_missing {S : FS} {n : Nat} {out : List Bk} {a : List UInt8} (h : a ≠ S.last) (hk : keptOf S a = none) : wayL S (n + 1) out a = (out, 0, a) := by
  unfold wayL; rw [if_neg h, hk]
theorem wayL_next {S : FS} {n : Nat} {out : List Bk} {a : List UInt8} {b : Bk} (h : a ≠ S.last) (hk : keptOf S a = some b) (hb : ¬ wayBad S out b) : wayL S (n + 1) out a = wayL S n (out ++ [b]) b.parent := by
  conv => lhs; unfold wayL
  rw [if_neg h, hk]
  dsimp only
  rw [if_neg hb]
theorem wayL_dead {S : FS} {n : Nat} {out : List Bk} {a : List UInt8} {b : Bk} (h : a ≠ S.last) (hk : keptOf S a = some b) (hb : wayBad S out b) : wayL S (n + 1) out a = (out, 2, a) := by
  conv => lhs; unfold wayL
  rw [if_neg h, hk]
  dsimp only
  rw [if_pos hb]
theorem way_good {S : FS} {out : List Bk} {b : Bk} (h1 : S.height < b.height) (h2 : (b.height - 1 = S.height) ↔ (b.parent = S.last)) (h3 : ∀ c, out.getLast? = some c → linkedB c b = 0) : ¬ wayBad S out b := by
  rintro (h | h | ⟨c, h, h'⟩)
  · omega
  · exact h (by rw [decide_eq_decide]; exact h2)
  · exact h' (h3 c h)
theorem miss_one {S : FS} {a m : List UInt8} {l : List Int} (hts : S.ts = [(a, l)]) {out : List Bk} (hw : wayF S a = (out, 0, m)) : missL S = [(m, l.foldl putL [])] := by
  unfold missL
  rw [hts]
  show missStep S [] (a, l) = _
  unfold missStep
  rw [hw]
  simp [atL_nil, putAt]
theorem miss_none {S : FS} {a m : List UInt8} {l : List Int} (hts : S.ts = [(a, l)]) {out : List Bk} (hw : wayF S a = (out, 1, m)) : missL S = [] := by
  unfold missL
  rw [hts]
  show missStep S [] (a, l) = _
  unfold missStep
  rw [hw]
  simp
theorem ask_one {S : FS} {m : List UInt8} {l : List Int} (h : missL S = [(m, l)]) (hl : l ≠ []) (hb : askedB S.asked m = false) : askF S m = ((l.getD (((atL m S.often).getD 0).toNat % l.length) 0, 0), { S with often := putAt m ((atL m S.often).getD 0 + 1) S.often, asked := putAt m true S.asked }) := by
  have e : (atL m [(m, l)]).getD [] = l := by simp [atL_cons]
  unfold askF
  rw [h, e, if_neg hl, if_neg (by simp [hb])]
theorem got_open {S : FS} {id : List UInt8} {raws : List (List UInt8)} (h : askedB S.asked id = true) : gotF S id raws = (gotE (gotL id (raws.take 16) { S with asked := delB id S.asked } []), (gotL id (raws.take 16) { S with asked := delB id S.asked } []).1) := by
  unfold gotF; rw [if_pos h]
theorem got_add {S : FS} {id : List UInt8} {b : Bk} {rest : List (List UInt8)} {ahead : List Bk} {nm : List UInt8} (hp : parseB (bytesB b) = (b, 0)) (hn : sha (bytesB b) = nm) (hb : ¬ gotBad id ahead nm b) (hk : keptOf S nm = none) (hl : nm ≠ S.last) (hr : ¬ S.room ≤ S.kept.length) :
    gotL id (bytesB b :: rest) S ahead = gotL id rest { S with kept := S.kept ++ [(nm, b)] } (ahead ++ [b]) := by
  rw [gotL_cons, hp, hn]
  rw [if_neg (by simp), if_neg hb, if_neg (by rintro (h | h); exact h hk; exact hl h), if_neg hr]
theorem got_last {S : FS} {id raw : List UInt8} {rest : List (List UInt8)} {ahead : List Bk} (h : sha raw = S.last) : gotL id (raw :: rest) S ahead = (S, ahead, false) := by
  rw [gotL_cons]
  split
  · rfl
  · split
    · rfl
    · rw [if_pos (.inr h)]
section
variable {a0 a1 a2 a3 : List UInt8}
def bk7 (a : List UInt8) (h : Int) : Bk := ⟨a, h, [7]⟩
def bS (a0 : List UInt8) (ts : List (List UInt8 × List Int)) (kept : List (List UInt8 × Bk)) (asked : List (List UInt8 × Bool)) (often : List (List UInt8 × Int)) : FS := ⟨a0, 0, 9, ts, kept, asked, often⟩
theorem b_target : targetF (bS a0 [] [] [] []) a3 [1, 4] = (0, bS a0 [(a3, [1, 4])] [] [] []) := by
  unfold targetF
  rw [if_neg (by decide), if_neg (by rintro ⟨_, h⟩; simp [bS] at h)]
  simp [bS, atL_nil, putAt, putL]
theorem b_miss0 (h01 : a0 ≠ a1) (h02 : a0 ≠ a2) (h03 : a0 ≠ a3) (h12 : a1 ≠ a2) (h13 : a1 ≠ a3) (h23 : a2 ≠ a3) {asked : List (List UInt8 × Bool)} {often : List (List UInt8 × Int)} : missL (bS a0 [(a3, [1, 4])] [] asked often) = [(a3, [1, 4])] := by
  have : wayF (bS a0 [(a3, [1, 4])] [] asked often) a3 = ([], 0, a3) := wayL_missing h03.symm rfl
  exact miss_one rfl this
theorem b_miss1 (h01 : a0 ≠ a1) (h02 : a0 ≠ a2) (h03 : a0 ≠ a3) (h12 : a1 ≠ a2) (h13 : a1 ≠ a3) (h23 : a2 ≠ a3) {asked : List (List UInt8 × Bool)} {often : List (List UInt8 × Int)} : missL (bS a0 [(a3, [1, 4])] [(a3, bk7 a2 3)] asked often) = [(a2, [1, 4])] := by
  have hk : keptOf (bS a0 [(a3, [1, 4])] [(a3, bk7 a2 3)] asked often) a3 = some (bk7 a2 3) := by simp [keptOf, bS, atL_cons]
  have : wayF (bS a0 [(a3, [1, 4])] [(a3, bk7 a2 3)] asked often) a3 = ([bk7 a2 3], 0, a2) := by
    unfold wayF
    rw [wayL_next h03.symm hk (way_good (by simp [bS, bk7]) (by simp [bS, bk7]; exact h02.symm) (by simp))]
    exact wayL_missing h02.symm (by simp [keptOf, bS, atL_cons, bk7, h23, atL_nil])
  exact miss_one rfl this
theorem b_way (h01 : a0 ≠ a1) (h02 : a0 ≠ a2) (h03 : a0 ≠ a3) (h12 : a1 ≠ a2) (h13 : a1 ≠ a3) (h23 : a2 ≠ a3) (l10 : linkedB (bk7 a1 2) (bk7 a0 1) = 0) (l21 : linkedB (bk7 a2 3) (bk7 a1 2) = 0) {asked : List (List UInt8 × Bool)} {often : List (List UInt8 × Int)} : wayF (bS a0 [(a3, [1, 4])] [(a3, bk7 a2 3), (a2, bk7 a1 2), (a1, bk7 a0 1)] asked often) a3 = ([bk7 a2 3, bk7 a1 2, bk7 a0 1], 1, a0) := by
  have k3 : keptOf (bS a0 [(a3, [1, 4])] [(a3, bk7 a2 3), (a2, bk7 a1 2), (a1, bk7 a0 1)] asked often) a3 = some (bk7 a2 3) := by simp [keptOf, bS, atL_cons]
  have k2 : keptOf (bS a0 [(a3, [1, 4])] [(a3, bk7 a2 3), (a2, bk7 a1 2), (a1, bk7 a0 1)] asked often) a2 = some (bk7 a1 2) := by simp [keptOf, bS, atL_cons, h23]
  have k1 : keptOf (bS a0 [(a3, [1, 4])] [(a3, bk7 a2 3), (a2, bk7 a1 2), (a1, bk7 a0 1)] asked often) a1 = some (bk7 a0 1) := by simp [keptOf, bS, atL_cons, h13, h12]
  unfold wayF
  rw [wayL_next h03.symm k3 (way_good (by simp [bS, bk7]) (by simp [bS, bk7]; exact h02.symm) (by simp))]
  show wayL _ _ _ a2 = _
  rw [show (bS a0 [(a3, [1, 4])] [(a3, bk7 a2 3), (a2, bk7 a1 2), (a1, bk7 a0 1)] asked often).kept.length = 2 + 1 from rfl]
  rw [wayL_next h02.symm k2 (way_good (by simp [bS, bk7]) (by simp [bS, bk7]; exact h01.symm) (by simp; exact l21))]
  show wayL _ _ _ a1 = _
  rw [wayL_next h01.symm k1 (way_good (by simp [bS, bk7]) (by simp [bS, bk7]) (by simp; exact l10))]
  exact wayL_last (bS a0 [(a3, [1, 4])] [(a3, bk7 a2 3), (a2, bk7 a1 2), (a1, bk7 a0 1)] asked often) 0 _
theorem b_chain (h01 : a0 ≠ a1) (h02 : a0 ≠ a2) (h03 : a0 ≠ a3) (h12 : a1 ≠ a2) (h13 : a1 ≠ a3) (h23 : a2 ≠ a3) (l10 : linkedB (bk7 a1 2) (bk7 a0 1) = 0) (l21 : linkedB (bk7 a2 3) (bk7 a1 2) = 0) {asked : List (List UInt8 × Bool)} {often : List (List UInt8 × Int)} : missL (bS a0 [(a3, [1, 4])] [(a3, bk7 a2 3), (a2, bk7 a1 2), (a1, bk7 a0 1)] asked often) = [] ∧ chainF (bS a0 [(a3, [1, 4])] [(a3, bk7 a2 3), (a2, bk7 a1 2), (a1, bk7 a0 1)] asked often) = ([bk7 a0 1, bk7 a1 2, bk7 a2 3], 0) := by
  have hw := b_way (asked := asked) (often := often) h01 h02 h03 h12 h13 h23 l10 l21
  have hm := miss_none rfl hw
  refine ⟨hm, ?_⟩
  unfold chainF
  rw [if_neg (by rw [hm]; simp)]
  have hb : bestF (bS a0 [(a3, [1, 4])] [(a3, bk7 a2 3), (a2, bk7 a1 2), (a1, bk7 a0 1)] asked often) = ([bk7 a2 3, bk7 a1 2, bk7 a0 1], a3) := by
    show bestStep _ ([], zeroId) (a3, [1, 4]) = _
    unfold bestStep
    rw [hw, if_neg (by simp), if_pos (.inl rfl)]
  rw [hb]
  rfl
theorem b_got1 (h01 : a0 ≠ a1) (h02 : a0 ≠ a2) (h03 : a0 ≠ a3) (h12 : a1 ≠ a2) (h13 : a1 ≠ a3) (h23 : a2 ≠ a3) (l10 : linkedB (bk7 a1 2) (bk7 a0 1) = 0) (l21 : linkedB (bk7 a2 3) (bk7 a1 2) = 0) (n0 : sha (bytesB firstB) = a0) (n1 : sha (bytesB (bk7 a0 1)) = a1) (n2 : sha (bytesB (bk7 a1 2)) = a2) (n3 : sha (bytesB (bk7 a2 3)) = a3)
    (p0 : parseB (bytesB (bk7 a0 1)) = (bk7 a0 1, 0)) (p1 : parseB (bytesB (bk7 a1 2)) = (bk7 a1 2, 0)) (p2 : parseB (bytesB (bk7 a2 3)) = (bk7 a2 3, 0)) {often : List (List UInt8 × Int)} : gotF (bS a0 [(a3, [1, 4])] [] [(a3, true)] often) a3 [bytesB (bk7 a2 3)] = ((1, 0), bS a0 [(a3, [1, 4])] [(a3, bk7 a2 3)] [] often) := by
  rw [got_open (by simp [askedB, bS])]
  have : gotL a3 ([bytesB (bk7 a2 3)].take 16) { bS a0 [(a3, [1, 4])] [] [(a3, true)] often with asked := delB a3 (bS a0 [(a3, [1, 4])] [] [(a3, true)] often).asked } [] = (bS a0 [(a3, [1, 4])] [(a3, bk7 a2 3)] [] often, [bk7 a2 3], false) := by
    show gotL a3 (bytesB (bk7 a2 3) :: []) _ [] = _
    rw [got_add p2 n3 (by rintro ⟨h, _⟩; exact h rfl) (by rfl) h03.symm (by simp [bS]), gotL_nil]
    simp [bS, delB]
  rw [this]
  rfl
theorem b_got2 (h01 : a0 ≠ a1) (h02 : a0 ≠ a2) (h03 : a0 ≠ a3) (h12 : a1 ≠ a2) (h13 : a1 ≠ a3) (h23 : a2 ≠ a3) (l10 : linkedB (bk7 a1 2) (bk7 a0 1) = 0) (l21 : linkedB (bk7 a2 3) (bk7 a1 2) = 0) (n0 : sha (bytesB firstB) = a0) (n1 : sha (bytesB (bk7 a0 1)) = a1) (n2 : sha (bytesB (bk7 a1 2)) = a2) (n3 : sha (bytesB (bk7 a2 3)) = a3)
    (p0 : parseB (bytesB (bk7 a0 1)) = (bk7 a0 1, 0)) (p1 : parseB (bytesB (bk7 a1 2)) = (bk7 a1 2, 0)) (p2 : parseB (bytesB (bk7 a2 3)) = (bk7 a2 3, 0)) {often : List (List UInt8 × Int)} : gotF (bS a0 [(a3, [1, 4])] [(a3, bk7 a2 3)] [(a2, true)] often) a2 [bytesB (bk7 a1 2), bytesB (bk7 a0 1), bytesB firstB] = ((2, 0), bS a0 [(a3, [1, 4])] [(a3, bk7 a2 3), (a2, bk7 a1 2), (a1, bk7 a0 1)] [] often) := by
  rw [got_open (by simp [askedB, bS])]
  have : gotL a2 ([bytesB (bk7 a1 2), bytesB (bk7 a0 1), bytesB firstB].take 16) { bS a0 [(a3, [1, 4])] [(a3, bk7 a2 3)] [(a2, true)] often with asked := delB a2 (bS a0 [(a3, [1, 4])] [(a3, bk7 a2 3)] [(a2, true)] often).asked } [] = (bS a0 [(a3, [1, 4])] [(a3, bk7 a2 3), (a2, bk7 a1 2), (a1, bk7 a0 1)] [] often, [bk7 a1 2, bk7 a0 1], false) := by
    show gotL a2 (bytesB (bk7 a1 2) :: bytesB (bk7 a0 1) :: bytesB firstB :: []) _ [] = _
    rw [got_add p1 n2 (by rintro ⟨h, _⟩; exact h rfl) (by simp [keptOf, bS, atL_cons, h23, atL_nil]) h02.symm (by simp [bS])]
    rw [got_add p0 n1 (by
      rintro ⟨_, h | ⟨c, h, h'⟩⟩
      · simp at h
      · simp at h; subst h; exact h' l10) (by simp [keptOf, bS, atL_cons, h13, h12, atL_nil]) h01.symm (by simp [bS])]
    rw [got_last (by rw [n0]; rfl)]
    simp [bS, delB]
  rw [this]
  rfl
end
end Go.Proofs.YtdjcjjodbniebaaGreatDoor
namespace Go.Proofs.YtdjcjjodbniebaaGreatDoor
open Go.RowKit
set_option linter.unusedVariables false
set_option linter.unusedSimpArgs false
set_option maxRecDepth 10000
/-! ### plain -/
theorem putAt_mem {α : Type} {a : List UInt8} {v : α} {L : List (List UInt8 × α)} {x : List UInt8 × α} (h : x ∈ putAt a v L) : x = (a, v) ∨ x ∈ L := by
  cases hx : atL a L with
  | none =>
    rw [putAt_new hx] at h
    rcases List.mem_append.1 h with h | h
    · exact .inr h
    · exact .inl (by simpa using h)
  | some y =>
    obtain ⟨k, h1, h2, _⟩ := zip_some hx
    rw [h2] at h
    rcases List.mem_or_eq_of_mem_set h with h | h
    · exact .inr h
    · exact .inl h
theorem targetF_ok {S : FS} (h : FOk S) {id : List UInt8} (hid : id.length = 32) (us : List Int) : FOk (targetF S id us).2 := by
  unfold targetF
  split
  · exact h
  · rename_i h1
    split
    · exact h
    · rename_i h2
      have hpl : ∀ v ∈ us, 0 ≤ v ∧ v < 32 := fun v hv => by
        have h3 : us.any wrongI = false := by cases hx : us.any wrongI with | false => rfl | true => exact absurd (.inr hx) h1
        have := (List.any_eq_false.1 h3) v hv
        simp [wrongI] at this
        omega
      have hold : Places ((atL id S.ts).getD []) := by
        cases hx : atL id S.ts with
        | none => exact Places.nil
        | some y => exact (h.ts _ (atL_mem hx)).2
      refine ⟨h.last, h.hlo, h.hhi, h.room, ?_, fun t ht => ?_, h.keptn, h.kept⟩
      · show (putAt id _ S.ts).length ≤ 32
        cases hx : atL id S.ts with
        | none =>
          rw [putAt_new hx]
          have : ¬ 32 ≤ S.ts.length := fun h' => h2 ⟨hx, h'⟩
          simp; omega
        | some y =>
          obtain ⟨k, _, h4, _⟩ := zip_some hx
          rw [h4]
          simpa using h.tsn
      · rcases putAt_mem ht with rfl | ht
        · exact ⟨hid, hold.puts hpl⟩
        · exact h.ts t ht
theorem askF_ok {S : FS} (h : FOk S) (id : List UInt8) : FOk (askF S id).2 := by
  unfold askF
  split
  · exact h
  · split
    · exact h
    · exact ⟨h.last, h.hlo, h.hhi, h.room, h.tsn, h.ts, h.keptn, h.kept⟩
theorem failF_ok {S : FS} (h : FOk S) (id : List UInt8) : FOk (failF S id).2 := by
  unfold failF
  split
  · exact h.asked_ _
  · exact h
theorem OftenOk.ask {n : Nat} {S : FS} (h : OftenOk n S) (id : List UInt8) : OftenOk (n + 1) (askF S id).2 := by
  have h0 : OftenOk (n + 1) S := fun x hx => ⟨(h x hx).1, by have := (h x hx).2; omega⟩
  unfold askF
  split
  · exact h0
  · split
    · exact h0
    · intro x hx
      rcases putAt_mem (show x ∈ putAt id ((atL id S.often).getD 0 + 1) S.often from hx) with rfl | hx
      · show 0 ≤ (atL id S.often).getD 0 + 1 ∧ (atL id S.often).getD 0 + 1 ≤ ((n + 1 : Nat) : Int)
        cases hy : atL id S.often with
        | none => simp; omega
        | some c =>
          have := h _ (atL_mem hy)
          simp at this ⊢
          omega
      · exact h0 x hx
theorem OftenOk.target {n : Nat} {S : FS} (h : OftenOk n S) (id : List UInt8) (us : List Int) : OftenOk n (targetF S id us).2 := by
  unfold targetF
  split
  · exact h
  · split
    · exact h
    · exact h
theorem OftenOk.fail {n : Nat} {S : FS} (h : OftenOk n S) (id : List UInt8) : OftenOk n (failF S id).2 := by
  unfold failF; split <;> exact h
theorem gotL_often (id : List UInt8) : ∀ (raws : List (List UInt8)) (S : FS) (ahead : List Bk), (gotL id raws S ahead).1.often = S.often
  | [], S, ahead => rfl
  | raw :: rest, S, ahead => by
    rw [gotL_cons]
    split
    · rfl
    · split
      · rfl
      · split
        · rfl
        · split
          · rfl
          · rw [gotL_often id rest]
theorem OftenOk.got {n : Nat} {S : FS} (h : OftenOk n S) (id : List UInt8) (raws : List (List UInt8)) : OftenOk n (gotF S id raws).2 := by
  unfold gotF
  split
  · intro x hx
    rw [gotL_often] at hx
    exact h x hx
  · exact h
/-! ### the walks -/
section
variable {w : World} {O : Nat → Prop} {f : Nat} {S : FS}
theorem FAt.lt (h : FAt w O f S) : ∀ j, O j → j < w.heap.size := by
  obtain ⟨_, _, _, _, _, _, h⟩ := h
  exact h.lt
theorem FAt.zero (h : FAt w O f S) : ¬ O 0 := by
  obtain ⟨_, _, _, _, _, _, h⟩ := h
  exact h.zero
theorem FAt.keep {w' : World} (h : FAt w O f S) (hk : Below w.heap.size w w') : FAt w' O f S := h.keeps (Keeps.of_ext hk)
theorem fat_new {last : List UInt8} {height room : Int} (hl : last.length = 32) (h0 : 0 < w.heap.size) :
    callE Tryz.prog 11 #[.agg (bl last).toArray, .int .i64 height, .int .i64 room] w fun r w' =>
      ((height < 0 ∨ room < 1 ∨ 4096 < room) ∧ r = .tuple #[.pointer none, .int .i64 1] ∨
      (¬ (height < 0 ∨ room < 1 ∨ 4096 < room) ∧ ∃ f O, r = .tuple #[.pointer (some ⟨f, 0, none⟩), .int .i64 0] ∧ FAt w' O f ⟨last, height, room, [], [], [], []⟩ ∧ ∀ j, O j → w.heap.size ≤ j)) ∧ Below w.heap.size w w' := by
  refine callE_of (fnew_any hl) ?_
  rintro r w' ⟨(h | ⟨h1, rfl, hb, hk, ha, ho⟩), kB⟩
  · exact ⟨.inl h, kB⟩
  · refine ⟨.inr ⟨h1, w.heap.size + 4, Since (fun _ => False) w w', rfl, ⟨.slice none 0 0, w.heap.size + 1, w.heap.size + 2, w.heap.size + 3, [], [], ?_⟩, fun j hj => hj.elim False.elim fun h => h.1⟩, kB⟩
    have s : ∀ j, j < w'.heap.size → w.heap.size ≤ j → Since (fun _ => False) w w' j := fun j h1 h2 => .inr ⟨h2, h1⟩
    exact ⟨s _ hb.lt (by omega), s _ hk.lt (by omega), s _ ha.lt (by omega), s _ ho.lt (by omega), by omega, by omega, by omega, fun j hj => hj.elim False.elim fun h => h.2, fun hj => hj.elim id fun h => by omega, hb, World.ownsRow_nil _ _ _ _, fun j hj => by simp [Value.ownBlock] at hj, RowsI.nil _ _, rfl, hk, by simp, ha, ho⟩
theorem fat_target (h : FAt w O f S) (hok : FOk S) {id : List UInt8} (hid : id.length = 32) {A : Option Addr} {c : Nat} {us : List Int} (hr : Rd w 1 A us.length (intsK .i64 us)) (hus : us.length ≤ 100000) (hA : ∀ j, atB us.length A j → ¬ O j) :
    callE Tryz.prog 13 #[.pointer (some ⟨f, 0, none⟩), .agg (bl id).toArray, .slice A us.length c] w fun r w' => r = .int .i64 (targetF S id us).1 ∧ ∃ O', FAt w' O' f (targetF S id us).2 ∧ Mine O O' w w' := by
  obtain ⟨tv, rk, ra, ro, vs, K, h⟩ := h
  refine callE_of (ftarget_any h hok hid hr hus hA) ?_
  rintro r w' ⟨rfl, ⟨tv', vs', h'⟩, hk⟩
  exact ⟨rfl, _, ⟨tv', rk, ra, ro, vs', K, h'⟩, mine_since hk h.lt⟩
theorem fat_ask (h : FAt w O f S) (hok : FOk S) (hC : Cubes w) {n : Nat} (hn : OftenOk n S) (hn2 : n < 4611686018427387904) {id : List UInt8} (hid : id.length = 32) :
    callE Tryz.prog 17 #[.pointer (some ⟨f, 0, none⟩), .agg (bl id).toArray] w fun r w' => r = .tuple #[.int .i64 (askF S id).1.1, .int .i64 (askF S id).1.2] ∧ ∃ O', FAt w' O' f (askF S id).2 ∧ Mine O O' w w' := by
  obtain ⟨tv, rk, ra, ro, vs, K, h⟩ := h
  refine callE_of (fask_any h hok hC hn hn2 hid) ?_
  rintro r w' ⟨rfl, h', hk⟩
  exact ⟨rfl, O, ⟨tv, rk, ra, ro, vs, K, h'⟩, Mine.same hk h.lt⟩
theorem fat_fail (h : FAt w O f S) (hok : FOk S) {id : List UInt8} (hid : id.length = 32) :
    callE Tryz.prog 18 #[.pointer (some ⟨f, 0, none⟩), .agg (bl id).toArray] w fun r w' => r = .int .i64 (failF S id).1 ∧ ∃ O', FAt w' O' f (failF S id).2 ∧ Mine O O' w w' := by
  obtain ⟨tv, rk, ra, ro, vs, K, h⟩ := h
  refine callE_of (ffail_any h hok hid) ?_
  rintro r w' ⟨rfl, h', hk⟩
  exact ⟨rfl, O, ⟨tv, rk, ra, ro, vs, K, h'⟩, Mine.same hk h.lt⟩
theorem fat_got (h : FAt w O f S) (hok : FOk S) (hC : Cubes w) {id : List UInt8} (hid : id.length = 32)
    {A : Option Addr} {c : Nat} {vals : List Value} {raws : List (List UInt8)} (hr : Rd w 1 A raws.length vals) (hv : ∀ (i : Nat) (v : Value) (l : List UInt8), vals[i]? = some v → raws[i]? = some l → RdB w v l) (hc : raws.length ≤ c) (hc2 : c ≤ 9223372036854775807) (hA : ∀ j, atB raws.length A j → ¬ O j) (hvO : ∀ v ∈ vals, ∀ A n c, v = .slice A n c → ∀ j, atB n A j → ¬ O j) :
    callE Tryz.prog 21 #[.pointer (some ⟨f, 0, none⟩), .agg (bl id).toArray, .slice A raws.length c] w fun r w' => r = .tuple #[.int .i64 (gotF S id raws).1.1, .int .i64 (gotF S id raws).1.2] ∧ FOk (gotF S id raws).2 ∧ ∃ O', FAt w' O' f (gotF S id raws).2 ∧ Mine O O' w w' := by
  obtain ⟨tv, rk, ra, ro, vs, K, h⟩ := h
  refine callE_of (fgot_any h hok hC hid hr hv hc hc2 hA hvO) ?_
  rintro r w' ⟨rfl, ⟨K', h'⟩, hok', hk⟩
  exact ⟨rfl, hok', _, ⟨tv, rk, ra, ro, vs, K', h'⟩, mine_since hk h.lt⟩
theorem fat_chain (h : FAt w O f S) (hok : FOk S) (hC : Cubes w) :
    callE Tryz.prog 23 #[.pointer (some ⟨f, 0, none⟩)] w fun r w' => ∃ v, r = .tuple #[v, .int .i64 (chainF S).2] ∧ BksO w' w.heap.size v (chainF S).1 ∧ (chainF S).1.length ≤ 4096 ∧ Below w.heap.size w w' := by
  obtain ⟨tv, rk, ra, ro, vs, K, h⟩ := h
  refine callE_of (fchain_any h hok hC) ?_
  rintro r w' ⟨v, xs, rfl, h1, h2, h3, h4, h5⟩
  exact ⟨v, rfl, ⟨xs, h1, h2, h3⟩, h4, h5⟩
theorem fat_done (h : FAt w O f S) (hok : FOk S) (hC : Cubes w) : callE Tryz.prog 16 #[.pointer (some ⟨f, 0, none⟩)] w fun r w' => r = .bool (decide (missL S = [])) ∧ Below w.heap.size w w' := by
  obtain ⟨tv, rk, ra, ro, vs, K, h⟩ := h
  exact fdone_any h hok hC
theorem fat_state (h : FAt w O f S) (hok : FOk S) (hC : Cubes w) {id : List UInt8} (hid : id.length = 32) :
    callE Tryz.prog 30 #[.pointer (some ⟨f, 0, none⟩), .agg (bl id).toArray] w fun r w' => r = .tuple #[.int .i64 (stateF S id).1, .int .i64 (stateF S id).2] ∧ Below w.heap.size w w' := by
  obtain ⟨tv, rk, ra, ro, vs, K, h⟩ := h
  exact fstate_any h hok hC hid
theorem fat_len (h : FAt w O f S) (hok : FOk S) : Runs Tryz.prog 31 #[.pointer (some ⟨f, 0, none⟩)] w (.int .i64 S.kept.length) w := by
  obtain ⟨tv, rk, ra, ro, vs, K, h⟩ := h
  exact flen_runs h hok
end
end Go.Proofs.YtdjcjjodbniebaaGreatDoor
