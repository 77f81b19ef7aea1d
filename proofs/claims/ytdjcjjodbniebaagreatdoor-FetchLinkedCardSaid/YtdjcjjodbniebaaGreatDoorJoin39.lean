/-
  Texts joined: FLinkL.
-/
import Derived.Test.YtdjcjjodbniebaaGreatDoorJoin38
namespace Go.Proofs.YtdjcjjodbniebaaGreatDoor
open Go.RowKit
set_option linter.unusedVariables false
set_option linter.unusedSimpArgs false
set_option maxRecDepth 10000
theorem numB_beN : ∀ (n : Nat) (l : List UInt8), l.length = n → numB n (beN l) = l
  | 0, l, h => by
    obtain rfl := List.length_eq_zero_iff.1 h
    rfl
  | n + 1, l, h => by
    have hne : l ≠ [] := by rintro rfl; simp at h
    have e := List.dropLast_concat_getLast hne
    have hl : l.dropLast.length = n := by simp [h]
    have ih := numB_beN n l.dropLast hl
    generalize l.getLast hne = c at e
    generalize l.dropLast = l0 at e ih hl
    subst e
    rw [beN_snoc, numB_succ]
    have hc := c.toNat_lt
    rw [show (beN l0 * 256 + c.toNat) / 256 = beN l0 by omega, ih]
    congr 2
    apply UInt8.toNat_inj.1
    simp
/-- what is parsed is written as it came -/
theorem bytes_parse {l : List UInt8} (h : (parseB l).2 = 0) : bytesB (parseB l).1 = l := by
  unfold parseB at h ⊢
  split at h
  · simp at h
  · rename_i h1
    rw [if_neg h1]
    split at h
    · simp at h
    · rename_i h2
      rw [if_neg h2]
      have hend : pEnd l = 0 := Decidable.byContradiction fun hn => h2 (.inl hn)
      have hver : pVer l = 0 := Decidable.byContradiction fun hn => h2 (.inr (.inl hn))
      unfold madeB at h ⊢
      split at h
      · rename_i hck
        rw [if_pos hck]
        show bytesB (pBk l) = l
        have hc2 : (pCnt l).2.2 = 0 ∧ (pCnt l).2.1 = [] := by
          unfold pEnd at hend
          split at hend
          · rename_i hn; exact absurd hend hn
          · rename_i hn
            split at hend
            · rename_i he; exact ⟨Decidable.byContradiction hn, he⟩
            · simp at hend
        have hE3 : pE3 l = 0 := by
          refine Decidable.byContradiction fun hn => ?_
          have := hc2.1
          unfold pCnt cntV at this
          rw [if_pos hn] at this
          exact hn this
        obtain ⟨hE2, hl3⟩ := takeE_zero (show takeE 8 (pR2 l) (pE2 l) = 0 from hE3)
        obtain ⟨hE1, hl2⟩ := takeE_zero (show takeE 32 (pR1 l) (pE1 l) = 0 from hE2)
        obtain ⟨-, hl1⟩ := takeE_zero (show takeE 2 l 0 = 0 from hE1)
        have r1 : pR1 l = l.drop 2 := by unfold pR1 takeR; rw [if_pos ⟨rfl, hl1⟩]
        have v1 : takeL 2 l 0 = l.take 2 := by unfold takeL; rw [if_pos ⟨rfl, hl1⟩]
        have r2 : pR2 l = (pR1 l).drop 32 := by unfold pR2 takeR; rw [if_pos ⟨hE1, hl2⟩]
        have v2 : pPar l = (pR1 l).take 32 := by unfold pPar takeL; rw [if_pos ⟨hE1, hl2⟩]
        have r3 : pR3 l = (pR2 l).drop 8 := by unfold pR3 takeR; rw [if_pos ⟨hE2, hl3⟩]
        have v3 : pHei l = beN ((pR2 l).take 8) := by unfold pHei takeL; rw [if_pos ⟨hE2, hl3⟩]
        have hcn : pCnt l = cntV 4 200 (pR3 l) (pE3 l) := rfl
        unfold cntV at hcn
        rw [if_neg (by rw [hE3]; simp)] at hcn
        split at hcn
        · rw [hcn] at hc2; simp at hc2
        · rename_i g1
          split at hcn
          · rw [hcn] at hc2; simp at hc2
          · split at hcn
            · rw [hcn] at hc2; simp at hc2
            · rename_i g2 g3
              rw [hcn] at hc2
              have hnil : ((pR3 l).drop 4).drop (beN ((pR3 l).take 4)) = [] := hc2.2
              have hdat : (pCnt l).1 = ((pR3 l).drop 4).take (beN ((pR3 l).take 4)) := by rw [hcn]
              have hdl : ((pR3 l).drop 4).length = beN ((pR3 l).take 4) := by
                have h5 := congrArg List.length hnil
                simp only [List.length_drop, List.length_nil] at h5 ⊢
                omega
              have hdat2 : (pCnt l).1 = (pR3 l).drop 4 := by
                rw [hdat, ← hdl, List.take_length]
              have n1 : numB 2 0 = l.take 2 := by
                have := numB_beN 2 (l.take 2) (by rw [List.length_take]; omega)
                rw [← this, ← v1]
                rw [show beN (takeL 2 l 0) = 0 from hver]
              have n2 : numB 8 (pHei l) = (pR2 l).take 8 := by
                rw [v3]
                exact numB_beN 8 _ (by rw [List.length_take]; omega)
              have n3 : numB 4 (pCnt l).1.length = (pR3 l).take 4 := by
                rw [hdat2, hdl]
                exact numB_beN 4 _ (by rw [List.length_take]; omega)
              show numB 2 0 ++ pPar l ++ numB 8 ((pHei l : Int).toNat) ++ numB 4 (pCnt l).1.length ++ (pCnt l).1 = l
              rw [Int.toNat_natCast, n1, n2, n3, hdat2, v2]
              simp only [List.append_assoc]
              rw [List.take_append_drop, r3, List.take_append_drop, r2, List.take_append_drop, r1, List.take_append_drop]
      · simp at h
/-! a row of children above a block, the lowest first -/
def LinkL : Bk → List Bk → Prop
  | _, [] => True
  | p, b :: L => linkedB b p = 0 ∧ LinkL b L
theorem wayL_link {S : FS} {lastB : Bk} (h1 : S.last = sha (bytesB lastB)) (h2 : S.height = lastB.height) (h3 : checkB lastB = 0) (hk : ∀ x ∈ S.kept, BkOk x.2 ∧ checkB x.2 = 0) : ∀ (n : Nat) (out : List Bk) (a : List UInt8),
    (∀ b rest, out.reverse = b :: rest → LinkL b rest ∧ b.parent = a ∧ BkOk b ∧ checkB b = 0 ∧ S.height < b.height ∧ (b.height - 1 = S.height ↔ b.parent = S.last)) → (wayL S n out a).2.1 = 1 → LinkL lastB (wayL S n out a).1.reverse
  | 0, out, a, _, h => by
    have h' : (0 : Int) = 1 := h
    omega
  | n + 1, out, a, hI, h => by
    by_cases ha : a = S.last
    · subst ha
      rw [wayL_last]
      show LinkL lastB out.reverse
      cases hr : out.reverse with
      | nil => trivial
      | cons b rest =>
        obtain ⟨g1, g2, g3, g4, g5, g6⟩ := hI b rest hr
        refine ⟨?_, g1⟩
        unfold linkedB
        have hh := g6.2 g2
        have := g3.hi
        rw [if_neg (by rw [h3, g4]; simp), if_neg]
        rintro (h | h | h)
        · exact h (by rw [g2, h1])
        · omega
        · omega
    · cases hkp : keptOf S a with
      | none =>
        rw [wayL_missing ha hkp] at h
        have h' : (0 : Int) = 1 := h
        omega
      | some b =>
        by_cases hb : wayBad S out b
        · rw [wayL_dead ha hkp hb] at h
          have h' : (2 : Int) = 1 := h
          omega
        · rw [wayL_next ha hkp hb] at h ⊢
          refine wayL_link h1 h2 h3 hk n _ _ (fun b' rest hr => ?_) h
          rw [List.reverse_append] at hr
          simp only [List.reverse_cons, List.reverse_nil, List.nil_append, List.cons_append] at hr
          injection hr with hr1 hr2
          subst hr1
          obtain ⟨k1, k2⟩ := hk _ (atL_mem hkp)
          refine ⟨?_, rfl, k1, k2, ?_, ?_⟩
          · cases hrr : out.reverse with
            | nil => rw [hrr] at hr2; subst hr2; trivial
            | cons c rest' =>
              rw [hrr] at hr2
              subst hr2
              refine ⟨?_, (hI c rest' hrr).1⟩
              refine Decidable.byContradiction fun hn => hb (.inr (.inr ⟨c, ?_, hn⟩))
              rw [← List.head?_reverse, hrr]
              rfl
          · exact Int.not_le.1 fun hn => hb (.inl hn)
          · refine decide_eq_decide.1 (Decidable.byContradiction fun hn => hb (.inr (.inl hn)))
theorem wayL_head {S : FS} : ∀ (n : Nat) (out : List Bk) (a : List UInt8), out ≠ [] → (wayL S n out a).1.head? = out.head?
  | 0, out, a, _ => rfl
  | n + 1, out, a, h => by
    by_cases ha : a = S.last
    · subst ha
      rw [wayL_last]
    · cases hkp : keptOf S a with
      | none => rw [wayL_missing ha hkp]
      | some b =>
        by_cases hb : wayBad S out b
        · rw [wayL_dead ha hkp hb]
        · rw [wayL_next ha hkp hb, wayL_head n _ _ (by simp)]
          cases out with
          | nil => exact absurd rfl h
          | cons c out => rfl
theorem wayF_head {S : FS} {a : List UInt8} {b : Bk} (h : (wayF S a).1.head? = some b) : (a, b) ∈ S.kept := by
  unfold wayF at h
  by_cases ha : a = S.last
  · subst ha
    rw [wayL_last] at h
    simp at h
  · cases hkp : keptOf S a with
    | none => rw [wayL_missing ha hkp] at h; simp at h
    | some b' =>
      by_cases hb : wayBad S [] b'
      · rw [wayL_dead ha hkp hb] at h; simp at h
      · rw [wayL_next ha hkp hb, wayL_head _ _ _ (by simp)] at h
        obtain rfl : b' = b := by simpa using h
        exact atL_mem hkp
theorem best_go (S : FS) : ∀ (L : List (List UInt8 × List Int)) (p : List Bk × List UInt8), (p.1 = [] ∨ ∃ t ∈ S.ts, p.1 = (wayF S t.1).1 ∧ (wayF S t.1).2.1 = 1) → (∀ t ∈ L, t ∈ S.ts) →
    ((L.foldl (bestStep S) p).1 = [] ∨ ∃ t ∈ S.ts, (L.foldl (bestStep S) p).1 = (wayF S t.1).1 ∧ (wayF S t.1).2.1 = 1)
  | [], p, h, _ => h
  | t :: L, p, h, hL => by
    refine best_go S L _ ?_ fun t ht => hL t (by simp [ht])
    unfold bestStep
    split
    · exact h
    · rename_i h1
      split
      · exact .inr ⟨t, hL t (by simp), rfl, Decidable.byContradiction fun hn => h1 (.inl hn)⟩
      · exact h
/-- the kept blocks' names are their own -/
def NamedK (S : FS) : Prop := ∀ x ∈ S.kept, (idB x.2).1 = x.1
theorem chain_link {S : FS} {lastB : Bk} (h1 : S.last = sha (bytesB lastB)) (h2 : S.height = lastB.height) (h3 : checkB lastB = 0) (hok : FOk S) (hn : NamedK S) :
    LinkL lastB (chainF S).1 ∧ ∀ b, (chainF S).1.getLast? = some b → ∃ t ∈ S.ts, (idB b).1 = t.1 := by
  unfold chainF
  split
  · exact ⟨trivial, fun b hb => by simp at hb⟩
  · rcases best_go S S.ts ([], zeroId) (.inl rfl) (fun t ht => ht) with h | ⟨t, ht, h, hs⟩
    · have h' : (bestF S).1 = [] := h
      rw [h']
      exact ⟨trivial, fun b hb => by simp at hb⟩
    · have h' : (bestF S).1 = (wayF S t.1).1 := h
      rw [h']
      refine ⟨wayL_link h1 h2 h3 hok.kept _ _ _ (fun b rest hr => by simp at hr) hs, fun b hb => ⟨t, ht, ?_⟩⟩
      rw [List.getLast?_reverse] at hb
      exact hn _ (wayF_head hb)
/-! what each call leaves -/
theorem gotL_kept (id : List UInt8) : ∀ (raws : List (List UInt8)) (S : FS) (ahead : List Bk), NamedK S → NamedK (gotL id raws S ahead).1 ∧ (gotL id raws S ahead).1.last = S.last ∧ (gotL id raws S ahead).1.height = S.height ∧ (gotL id raws S ahead).1.ts = S.ts
  | [], S, ahead, h => ⟨h, rfl, rfl, rfl⟩
  | raw :: rest, S, ahead, h => by
    rw [gotL_cons]
    split
    · exact ⟨h, rfl, rfl, rfl⟩
    · rename_i hp
      split
      · exact ⟨h, rfl, rfl, rfl⟩
      · split
        · exact ⟨h, rfl, rfl, rfl⟩
        · split
          · exact ⟨h, rfl, rfl, rfl⟩
          · have hp' : (parseB raw).2 = 0 := Decidable.byContradiction fun hn => hp hn
            have := gotL_kept id rest { S with kept := S.kept ++ [(sha raw, (parseB raw).1)] } (ahead ++ [(parseB raw).1]) (fun x hx => by
              rcases List.mem_append.1 hx with hx | hx
              · exact h x hx
              · obtain rfl : x = (sha raw, (parseB raw).1) := by simpa using hx
                exact idB_eq (parse_ok hp').2 (by rw [bytes_parse hp']))
            exact this
/-- what holds of a fetch of FetchLinked -/
structure LinkI (S : FS) (lastB : Bk) (T : List (List UInt8)) : Prop where
  last : S.last = sha (bytesB lastB)
  height : S.height = lastB.height
  named : NamedK S
  ts : ∀ t ∈ S.ts, t.1 ∈ T
theorem LinkI.got {S : FS} {lastB : Bk} {T : List (List UInt8)} (h : LinkI S lastB T) (id : List UInt8) (raws : List (List UInt8)) : LinkI (gotF S id raws).2 lastB T := by
  unfold gotF
  split
  · obtain ⟨g1, g2, g3, g4⟩ := gotL_kept id (raws.take 16) { S with asked := delB id S.asked } [] h.named
    exact ⟨g2.trans h.last, g3.trans h.height, g1, fun t ht => h.ts t (by rw [g4] at ht; exact ht)⟩
  · exact h
theorem LinkI.fail {S : FS} {lastB : Bk} {T : List (List UInt8)} (h : LinkI S lastB T) (id : List UInt8) : LinkI (failF S id).2 lastB T := by
  unfold failF
  split
  · exact ⟨h.last, h.height, h.named, h.ts⟩
  · exact h
theorem LinkI.ask {S : FS} {lastB : Bk} {T : List (List UInt8)} (h : LinkI S lastB T) (id : List UInt8) : LinkI (askF S id).2 lastB T := by
  unfold askF
  split
  · exact h
  · split
    · exact h
    · exact ⟨h.last, h.height, h.named, h.ts⟩
theorem LinkI.mono {S : FS} {lastB : Bk} {T T' : List (List UInt8)} (h : LinkI S lastB T) (hT : ∀ x ∈ T, x ∈ T') : LinkI S lastB T' := ⟨h.last, h.height, h.named, fun t ht => hT _ (h.ts t ht)⟩
theorem LinkI.target {S : FS} {lastB : Bk} {T : List (List UInt8)} (h : LinkI S lastB T) (id : List UInt8) (us : List Int) : LinkI (targetF S id us).2 lastB (if (targetF S id us).1 = 0 then T ++ [id] else T) := by
  unfold targetF
  split
  · exact h
  · split
    · exact h
    · refine ⟨h.last, h.height, h.named, fun t ht => ?_⟩
      show t.1 ∈ T ++ [id]
      rcases putAt_mem ht with rfl | ht
      · simp
      · exact List.mem_append_left _ (h.ts t ht)
theorem chain_done {S : FS} : ((chainF S).2 = 0 ↔ missL S = []) ∧ ((chainF S).2 ≠ 0 → (chainF S).1 = []) := by
  unfold chainF
  split
  · rename_i h
    exact ⟨⟨fun h' => absurd h' (by decide), fun h' => absurd h' h⟩, fun _ => rfl⟩
  · rename_i h
    exact ⟨⟨fun _ => Decidable.byContradiction fun hn => h hn, fun _ => rfl⟩, fun h' => absurd rfl h'⟩
end Go.Proofs.YtdjcjjodbniebaaGreatDoor
