/-
  Texts joined: FTurnsL, FRLaw2, FRLaw3, FRLaw4, FRLaw5.
-/
import Derived.Test.YtdjcjjodbniebaaGreatDoorJoin39
namespace Go.Proofs.YtdjcjjodbniebaaGreatDoor
open Go.RowKit
set_option linter.unusedVariables false
set_option linter.unusedSimpArgs false
set_option maxRecDepth 10000
theorem puts_spec : ∀ (us l : List Int), l.Pairwise (· < ·) → (us.foldl putL l).Pairwise (· < ·) ∧ ∀ x, x ∈ us.foldl putL l ↔ x ∈ l ∨ x ∈ us
  | [], l, h => ⟨h, by simp⟩
  | u :: us, l, h => by
    obtain ⟨h1, h2⟩ := puts_spec us (putL l u) (putL_rising l u h)
    refine ⟨h1, fun x => ?_⟩
    rw [List.foldl_cons, h2, mem_putL, List.mem_cons]
    constructor
    · rintro ((h | h) | h) <;> simp [h]
    · rintro (h | h | h) <;> simp [h]
theorem rising_eq : ∀ {a b : List Int}, a.Pairwise (· < ·) → b.Pairwise (· < ·) → (∀ x, x ∈ a ↔ x ∈ b) → a = b
  | [], [], _, _, _ => rfl
  | [], y :: b, _, _, h => by have := (h y).2 (by simp); simp at this
  | x :: a, [], _, _, h => by have := (h x).1 (by simp); simp at this
  | x :: a, y :: b, ha, hb, h => by
    rw [List.pairwise_cons] at ha hb
    have hxy : x = y := by
      have h1 := (h x).1 (by simp)
      have h2 := (h y).2 (by simp)
      rw [List.mem_cons] at h1 h2
      rcases h1 with h1 | h1
      · exact h1
      · rcases h2 with h2 | h2
        · exact h2.symm
        · have := hb.1 x h1
          have := ha.1 y h2
          omega
    subst hxy
    rw [rising_eq ha.2 hb.2 fun z => ?_]
    constructor
    · intro hz
      have h1 := (h z).1 (by simp [hz])
      rw [List.mem_cons] at h1
      rcases h1 with rfl | h1
      · have := ha.1 z hz; omega
      · exact h1
    · intro hz
      have h1 := (h z).2 (by simp [hz])
      rw [List.mem_cons] at h1
      rcases h1 with rfl | h1
      · have := hb.1 z hz; omega
      · exact h1
/-! ### the library -/
theorem run_eql_nil {P : Program} {t e : TypeId} (ht : P.underlying t = some (.slice e)) (A : Option Addr) (n c : Nat) (w : World) :
    (binOp .eql t (.slice A n c) (.slice none 0 0)).run P w = .ok (.bool A.isNone) w := by
  unfold binOp Op.equal
  rw [show Op.maxDepth = 9999 + 1 from rfl]
  unfold Op.equalIn
  cases A <;> simp [run_underlying ht, Result.andThen]
set_option maxHeartbeats 1600000 in
theorem cloneU_any {w : World} {v : Value} {l : List UInt8} (h : RdB w v l) (hlen : l.length ≤ 100000) :
    callE Tryz.prog 37 #[v] w fun r w' => w'.ownsRow w.heap.size 5 1 r l.length (bl l) ∧ Below w.heap.size w w' := by
  obtain ⟨A, cap, rfl, hrd, hA, hc1, hc2⟩ := id h
  refine calls_E Tryz.func37 rfl rfl rfl (Nat.le_of_ble_eq_true rfl) ?_
  rcases A with _ | a
  · have hn := hA rfl
    obtain rfl : l = [] := List.length_eq_zero_iff.1 hn
    have hE := run_eql_nil (P := Tryz.prog) Tryz.underlying22 none 0 cap w
    simp [go_sem, IntWalk.iteOmega, IntWalk.toNatUp, hE]
    exact ⟨World.ownsRow_nil _ _ _ _, Below.refl _ _⟩
  · have hE := run_eql_nil (P := Tryz.prog) Tryz.underlying22 (some a) l.length cap w
    simp [go_sem, IntWalk.iteOmega, IntWalk.toNatUp, hE]
    have kB := ext_alloc w (.cells #[] 5)
    have hxb3 : Blk (w.alloc (.cells #[] 5)) w.heap.size 5 #[] := Blk.self_ rfl
    have hrd2 := hrd.keep kB
    have hrow : (w.alloc (.cells #[] 5)).ownsRow w.heap.size 5 1 (.slice (some ⟨w.heap.size, 0, none⟩) 0 0) 0 [] := ⟨rfl, .inr ⟨w.heap.size, 0, #[], rfl, Nat.le_refl _, hxb3, Nat.le_refl _, by unfold maxLen; omega, rfl, rfl⟩⟩
    refine appendE w.heap.size 5 1 1 Tryz.underlying22 el5 hrow hrd2 (bl_one l) (by unfold maxLen; omega) (by omega) kB.size ?_
    intro out' w6 hout6 hgr6 hblk6
    have hb6 := kB.grown hgr6 kB.size (fun k hk => by
      have : w.heap.size = k := Option.some.inj hk
      omega)
    rw [Nat.zero_add, List.nil_append] at hout6
    simp [go_sem, IntWalk.iteOmega, IntWalk.toNatUp]
    exact ⟨hout6, hb6⟩
theorem joinL_spec (a b : List Int) : (joinL a b).Pairwise (· < ·) ∧ ∀ x, x ∈ joinL a b ↔ (0 ≤ x ∧ x < 32) ∧ (x ∈ a ∨ x ∈ b) := by
  unfold joinL
  constructor
  · refine List.Pairwise.filter _ ?_
    rw [List.pairwise_map]
    exact List.pairwise_lt_range.imp fun h => by omega
  · intro x
    rw [List.mem_filter, List.mem_map]
    constructor
    · rintro ⟨⟨k, hk, rfl⟩, h⟩
      have := List.mem_range.1 hk
      refine ⟨by omega, ?_⟩
      rw [Bool.or_eq_true, decide_eq_true_iff, decide_eq_true_iff] at h
      exact h
    · rintro ⟨h1, h2⟩
      refine ⟨⟨x.toNat, List.mem_range.2 (by omega), by omega⟩, ?_⟩
      rw [Bool.or_eq_true, decide_eq_true_iff, decide_eq_true_iff]
      exact h2
theorem join_eq {a b : List Int} (ha : Places a) (hb : ∀ v ∈ b, 0 ≤ v ∧ v < 32) : joinL a b = b.foldl putL a := by
  obtain ⟨h1, h2⟩ := joinL_spec a b
  obtain ⟨h3, h4⟩ := puts_spec b a ha.1
  refine rising_eq h1 h3 fun x => ?_
  rw [h2, h4]
  constructor
  · exact fun h => h.2
  · intro h
    refine ⟨?_, h⟩
    rcases h with h | h
    · exact ha.2 x h
    · exact hb x h
theorem atL_putAt (a b : List UInt8) {α : Type} (v : α) : ∀ L : List (List UInt8 × α), atL a (putAt b v L) = if a = b then some v else atL a L
  | [] => by
    unfold putAt
    rw [atL_cons]
  | x :: L => by
    have ih := atL_putAt a b v L
    unfold putAt
    by_cases h : b = x.1
    · rw [if_pos h, atL_cons, atL_cons]
      dsimp only
      by_cases hab : a = b
      · rw [if_pos hab, if_pos hab]
      · rw [if_neg hab, if_neg hab, if_neg (show ¬ a = x.1 by rw [← h]; exact hab)]
    · rw [if_neg h, atL_cons, atL_cons, ih]
      by_cases h2 : a = x.1
      · rw [if_pos h2, if_pos h2, if_neg (by rw [h2]; exact fun e => h e.symm)]
      · rw [if_neg h2, if_neg h2]
theorem who_go_eq {S : FS} {R : RF} (hr : RelR S R) (hok : FOk S) (hn : NamedK S) (id : List UInt8) : ∀ (L : List (List UInt8 × List Int)) (M : List (List UInt8 × List Int)), (∀ t ∈ L, ∀ v ∈ t.2, 0 ≤ v ∧ v < 32) → Places ((atL id M).getD []) →
    (atL id (L.foldl (missStep S) M)).getD [] = L.foldl (fromStepR R id) ((atL id M).getD [])
  | [], M, _, _ => rfl
  | t :: L, M, hL, hM => by
    show (atL id (L.foldl (missStep S) (missStep S M t))).getD [] = L.foldl (fromStepR R id) (fromStepR R id ((atL id M).getD []) t)
    obtain ⟨h1, h2⟩ := way_eq hr hok hn t.1
    have ht := hL t (by simp)
    have hst : (atL id (missStep S M t)).getD [] = fromStepR R id ((atL id M).getD []) t ∧ Places ((atL id (missStep S M t)).getD []) := by
      unfold missStep fromStepR
      rw [h1]
      by_cases h0 : (endR R t.1).2.2 = 0
      · have hne := (h2 (by rw [h0]; decide)).2
        rw [if_pos h0, ← hne, atL_putAt]
        by_cases he : id = (endR R t.1).2.1
        · rw [if_pos he, if_pos ⟨h0, he.symm⟩, ← he, join_eq hM ht]
          exact ⟨rfl, hM.puts ht⟩
        · rw [if_neg he, if_neg fun h => he h.2.symm]
          exact ⟨rfl, hM⟩
      · rw [if_neg h0, if_neg fun h => h0 h.1]
        exact ⟨rfl, hM⟩
    rw [who_go_eq hr hok hn id L _ (fun t ht => hL t (by simp [ht])) hst.2, hst.1]
theorem who_eq {S : FS} {R : RF} (hr : RelR S R) (hok : FOk S) (hn : NamedK S) (id : List UInt8) : (atL id (missL S)).getD [] = fromR R id := by
  unfold missL fromR
  rw [hr.T]
  exact who_go_eq hr hok hn id S.ts [] (fun t ht => (hok.ts t ht).2.2) Places.nil
structure RelF (S : FS) (R : RF) : Prop where
  rel : RelR S R
  num : ∀ id, numR R id = (atL id S.often).getD 0
  nodup : (S.asked.map Prod.fst).Nodup
theorem askedB_at (L : List (List UInt8 × Bool)) (a : List UInt8) : askedB L a = (atL a L).getD false := rfl
theorem atL_setA (a b : List UInt8) (y : Int × Bool) : ∀ L : List (List UInt8 × Int × Bool), (atL b L).isSome → atL a (setA b y L) = if a = b then some y else atL a L
  | [], h => by simp [atL_nil] at h
  | x :: L, h => by
    unfold setA
    by_cases hb : b = x.1
    · rw [if_pos hb, atL_cons, atL_cons]
      dsimp only
      by_cases hab : a = b
      · rw [if_pos hab, if_pos (show a = x.1 by rw [← hb]; exact hab)]
      · rw [if_neg hab, if_neg (show ¬ a = x.1 by rw [← hb]; exact hab), if_neg (show ¬ a = x.1 by rw [← hb]; exact hab)]
    · rw [if_neg hb, atL_cons, atL_cons]
      rw [atL_cons, if_neg hb] at h
      rw [atL_setA a b y L h]
      by_cases hx : a = x.1
      · rw [if_pos hx, if_pos hx, if_neg (show ¬ a = b by rw [hx]; exact fun e => hb e.symm)]
      · rw [if_neg hx, if_neg hx]
theorem atL_app {α : Type} (a : List UInt8) (x : List UInt8 × α) : ∀ L : List (List UInt8 × α), atL a (L ++ [x]) = match atL a L with | some y => some y | none => if a = x.1 then some x.2 else none
  | [] => by simp [atL_cons, atL_nil]
  | y :: L => by
    rw [List.cons_append, atL_cons, atL_cons, atL_app a x L]
    split <;> simp
theorem atL_askA (R : RF) (a b : List UInt8) (y : Int × Bool) : atL a (askA R b y) = if a = b then some y else atL a R.A := by
  unfold askA
  split
  · rename_i h
    exact atL_setA a b y R.A h
  · rename_i h
    have hn : atL b R.A = none := by
      cases hx : atL b R.A with
      | none => rfl
      | some z => rw [hx] at h; simp at h
    rw [atL_app]
    by_cases hab : a = b
    · subst hab
      rw [hn, if_pos rfl]
    · simp only [if_neg hab]
      cases atL a R.A <;> rfl
theorem ask_eq {S : FS} {R : RF} (hr : RelF S R) (hok : FOk S) (hn : NamedK S) (id : List UInt8) : (askR R id).1 = (askF S id).1 ∧ RelF (askF S id).2 (askR R id).2 := by
  have hw := who_eq hr.rel hok hn id
  have hnow := hr.rel.now id
  have hnum := hr.num id
  unfold askR askF
  rw [hw]
  by_cases h0 : fromR R id = []
  · rw [if_pos h0, if_pos h0]
    exact ⟨rfl, hr⟩
  · rw [if_neg h0, if_neg h0, hnow]
    by_cases h1 : askedB S.asked id = true
    · rw [if_pos h1, if_pos h1]
      exact ⟨rfl, hr⟩
    · rw [if_neg h1, if_neg h1, hnum]
      refine ⟨rfl, ⟨⟨hr.rel.last, hr.rel.height, hr.rel.room, hr.rel.T, hr.rel.K, fun x => ?_⟩, fun x => ?_, ?_⟩⟩
      · unfold nowR
        dsimp only
        rw [atL_askA, askedB_at, atL_putAt]
        by_cases hx : x = id
        · rw [if_pos hx, if_pos hx]; rfl
        · rw [if_neg hx, if_neg hx]
          exact hr.rel.now x
      · unfold numR
        dsimp only
        rw [atL_askA, atL_putAt]
        by_cases hx : x = id
        · rw [if_pos hx, if_pos hx]; rfl
        · rw [if_neg hx, if_neg hx]
          exact hr.num x
      · dsimp only
        rw [putAt_names]
        split
        · exact hr.nodup
        · rename_i hm
          rw [List.nodup_append]
          refine ⟨hr.nodup, by simp, fun a ha b hb => ?_⟩
          obtain rfl : b = id := by simpa using hb
          rintro rfl
          exact hm ha
theorem delB_names (a : List UInt8) : ∀ L : List (List UInt8 × Bool), ((delB a L).map Prod.fst).Sublist (L.map Prod.fst)
  | [] => by simp [delB]
  | x :: L => by
    unfold delB
    split
    · exact List.sublist_cons_self _ _
    · exact (delB_names a L).cons_cons _
theorem delB_at (a b : List UInt8) : ∀ L : List (List UInt8 × Bool), (L.map Prod.fst).Nodup → atL b (delB a L) = if b = a then none else atL b L
  | [], _ => by simp [delB, atL_nil]
  | x :: L, h => by
    rw [List.map_cons, List.nodup_cons] at h
    unfold delB
    by_cases hx : a = x.1
    · rw [if_pos hx]
      by_cases hb : b = a
      · rw [if_pos hb]
        refine atL_none fun t ht e => h.1 ?_
        rw [← hx, ← hb, ← e]
        exact List.mem_map.2 ⟨t, ht, rfl⟩
      · rw [if_neg hb, atL_cons, if_neg (show ¬ b = x.1 by rw [← hx]; exact hb)]
    · rw [if_neg hx, atL_cons, atL_cons, delB_at a b L h.2]
      by_cases hb : b = x.1
      · rw [if_pos hb, if_pos hb, if_neg (show ¬ b = a by rw [hb]; exact fun e => hx e.symm)]
      · rw [if_neg hb, if_neg hb]
theorem fail_eq {S : FS} {R : RF} (hr : RelF S R) (id : List UInt8) : (failR R id).1 = (failF S id).1 ∧ RelF (failF S id).2 (failR R id).2 := by
  have hnow := hr.rel.now id
  unfold failR failF
  rw [hnow]
  by_cases h1 : askedB S.asked id = true
  · rw [if_pos h1, if_pos h1]
    have hsome : (atL id R.A).isSome := by
      cases hx : atL id R.A with
      | some z => rfl
      | none =>
        have : nowR R id = false := by unfold nowR; rw [hx]; rfl
        rw [this] at hnow
        rw [← hnow] at h1
        cases h1
    refine ⟨rfl, ⟨⟨hr.rel.last, hr.rel.height, hr.rel.room, hr.rel.T, hr.rel.K, fun x => ?_⟩, fun x => ?_, ?_⟩⟩
    · unfold nowR
      dsimp only
      rw [atL_setA _ _ _ _ hsome, askedB_at, delB_at _ _ _ hr.nodup]
      by_cases hx : x = id
      · rw [if_pos hx, if_pos hx]; rfl
      · rw [if_neg hx, if_neg hx]
        exact hr.rel.now x
    · show numR _ x = (atL x S.often).getD 0
      rw [← hr.num x]
      unfold numR
      dsimp only
      rw [atL_setA _ _ _ _ hsome]
      by_cases hx : x = id
      · subst hx
        rw [if_pos rfl]
        rfl
      · rw [if_neg hx]
    · exact hr.nodup.sublist (delB_names id S.asked)
  · rw [if_neg h1, if_neg h1]
    exact ⟨rfl, hr⟩
def targetR (R : RF) (id : List UInt8) (us : List Int) : Int × RF :=
  if us = [] ∨ us.any wrongI = true then (1, R)
  else match atL id R.T with
    | some l => (0, { R with T := putAt id (joinL l us) R.T })
    | none => if 32 ≤ R.T.length then (6, R) else (0, { R with T := R.T ++ [(id, joinL us [])] })
theorem joinL_nil {us : List Int} (h : ∀ v ∈ us, 0 ≤ v ∧ v < 32) : joinL us [] = us.foldl putL [] := by
  obtain ⟨h1, h2⟩ := joinL_spec us []
  obtain ⟨h3, h4⟩ := puts_spec us [] (by simp)
  refine rising_eq h1 h3 fun x => ?_
  rw [h2, h4]
  constructor
  · rintro ⟨-, h | h⟩
    · exact .inr h
    · simp at h
  · rintro (h' | h')
    · simp at h'
    · exact ⟨h x h', .inl h'⟩
theorem wrong_no {us : List Int} (h : ¬ us.any wrongI = true) : ∀ v ∈ us, 0 ≤ v ∧ v < 32 := fun v hv => by
  have : wrongI v = false := by
    cases hw : wrongI v with
    | false => rfl
    | true => exact absurd (List.any_eq_true.2 ⟨v, hv, hw⟩) h
  unfold wrongI at this
  simp at this
  omega
theorem target_eq {S : FS} {R : RF} (hr : RelF S R) (hok : FOk S) (id : List UInt8) (us : List Int) : (targetR R id us).1 = (targetF S id us).1 ∧ RelF (targetF S id us).2 (targetR R id us).2 := by
  unfold targetR targetF
  rw [hr.rel.T]
  by_cases h0 : us = [] ∨ us.any wrongI = true
  · rw [if_pos h0, if_pos h0]
    exact ⟨rfl, hr⟩
  · rw [if_neg h0, if_neg h0]
    have hu := wrong_no fun h => h0 (.inr h)
    cases hx : atL id S.ts with
    | none =>
      dsimp only
      by_cases hl : 32 ≤ S.ts.length
      · rw [if_pos hl, if_pos ⟨rfl, hl⟩]
        exact ⟨rfl, hr⟩
      · rw [if_neg hl, if_neg fun h => hl h.2]
        refine ⟨rfl, ⟨⟨hr.rel.last, hr.rel.height, hr.rel.room, ?_, hr.rel.K, hr.rel.now⟩, hr.num, hr.nodup⟩⟩
        dsimp only
        rw [putAt_new hx, joinL_nil hu]
        rfl
    | some l =>
      dsimp only
      rw [if_neg fun h => by cases h.1]
      have hm := hok.ts _ (atL_mem hx)
      refine ⟨rfl, ⟨⟨hr.rel.last, hr.rel.height, hr.rel.room, ?_, hr.rel.K, hr.rel.now⟩, hr.num, hr.nodup⟩⟩
      dsimp only
      rw [join_eq ⟨hm.2.1, hm.2.2⟩ hu]
      rfl
noncomputable def bestStepR (R : RF) (p : List Bk × List UInt8) (t : List UInt8 × List Int) : List Bk × List UInt8 :=
  if (endR R t.1).2.2 ≠ 1 ∨ (endR R t.1).1 = [] then p
  else if p.1 = [] ∨ hdH p.1 < hdH (endR R t.1).1 ∨ (hdH (endR R t.1).1 = hdH p.1 ∧ Lib.compareBytes t.1 p.2 < 0) then ((endR R t.1).1, t.1) else p
noncomputable def chainR (R : RF) : List Bk × Int := if missR R ≠ [] then ([], 7) else ((R.T.foldl (bestStepR R) ([], zeroId)).1.reverse, 0)
theorem chain_eq {S : FS} {R : RF} (hr : RelR S R) (hok : FOk S) (hn : NamedK S) : chainR R = chainF S := by
  have hstep : bestStepR R = bestStep S := by
    funext p t
    obtain ⟨h1, h2⟩ := way_eq hr hok hn t.1
    unfold bestStepR bestStep
    rw [h1]
    by_cases h0 : (endR R t.1).2.2 ≠ 1
    · rw [if_pos (.inl h0), if_pos (.inl h0)]
    · have h0' : (endR R t.1).2.2 = 1 := Decidable.byContradiction h0
      rw [(h2 (by rw [h0']; decide)).1]
  have hd := done_eq hr hok hn
  unfold chainR chainF bestF
  rw [hstep, hr.T]
  by_cases hm : missL S = []
  · rw [if_neg (fun h => h (hd.2 hm)), if_neg (fun h => h hm)]
  · rw [if_pos (fun h => hm (hd.1 h)), if_pos hm]
def stopR (R : RF) (id : List UInt8) (ahead : List Bk) (b : Bk) : Prop := (idB b).1 ≠ id ∨ (∃ c, ahead.getLast? = some c ∧ linkedB c b ≠ 0) ∨ atL id R.K ≠ none ∨ id = R.last
open Classical in
noncomputable def gotRL : List (List UInt8) → RF → List UInt8 → List Bk → RF × List Bk × Bool
  | [], R, _, ahead => (R, ahead, false)
  | raw :: rest, R, id, ahead =>
    if (parseB raw).2 ≠ 0 then (R, ahead, false)
    else if stopR R id ahead (parseB raw).1 then (R, ahead, false)
    else if R.room ≤ R.K.length then (R, ahead, true)
    else gotRL rest { R with K := R.K ++ [((idB (parseB raw).1).1, (parseB raw).1)] } (parseB raw).1.parent (ahead ++ [(parseB raw).1])
open Classical in
theorem gotRL_cons (raw : List UInt8) (rest : List (List UInt8)) (R : RF) (id : List UInt8) (ahead : List Bk) : gotRL (raw :: rest) R id ahead = if (parseB raw).2 ≠ 0 then (R, ahead, false)
    else if stopR R id ahead (parseB raw).1 then (R, ahead, false)
    else if R.room ≤ R.K.length then (R, ahead, true)
    else gotRL rest { R with K := R.K ++ [((idB (parseB raw).1).1, (parseB raw).1)] } (parseB raw).1.parent (ahead ++ [(parseB raw).1]) := by
  conv => lhs; unfold gotRL
def gotE2 (r : List Bk × Bool) : Int × Int := if r.1 ≠ [] then (r.1.length, 0) else if r.2 = true then (0, 6) else (0, 8)
noncomputable def gotR (R : RF) (id : List UInt8) (raws : List (List UInt8)) : (Int × Int) × RF :=
  if nowR R id = true then (gotE2 (gotRL (raws.take 16) (failR R id).2 id []).2, (gotRL (raws.take 16) (failR R id).2 id []).1) else ((0, 4), R)
theorem linkedB_parent {c p : Bk} (h : linkedB c p = 0) : c.parent = sha (bytesB p) := by
  unfold linkedB at h
  split at h
  · simp at h
  · split at h
    · simp at h
    · rename_i h2
      exact Decidable.byContradiction fun e => h2 (.inl e)
theorem stop_iff {S : FS} {R : RF} (hr : RelF S R) {id cur : List UInt8} {ahead : List Bk} (h0 : ahead = [] → cur = id) (h1 : ∀ c, ahead.getLast? = some c → cur = c.parent) (h2 : ahead ≠ [] → keptOf S id ≠ none) {raw : List UInt8} (hp : (parseB raw).2 = 0) :
    stopR R cur ahead (parseB raw).1 ↔ (gotBad id ahead (sha raw) (parseB raw).1 ∨ keptOf S (sha raw) ≠ none ∨ sha raw = S.last) := by
  have hnm : (idB (parseB raw).1).1 = sha raw := idB_eq (parse_ok hp).2 (by rw [bytes_parse hp])
  have hsn : sha (bytesB (parseB raw).1) = sha raw := by rw [bytes_parse hp]
  clear hp
  unfold stopR gotBad
  rw [hnm, hr.rel.K, hr.rel.last]
  generalize (parseB raw).1 = b at *
  generalize sha raw = n at *
  rcases List.eq_nil_or_concat ahead with rfl | ⟨l, c, rfl⟩
  · have hc := h0 rfl
    subst hc
    constructor
    · rintro (h | ⟨c, hc, _⟩ | h | h)
      · exact .inl ⟨h, .inl rfl⟩
      · simp at hc
      · by_cases hq : n = cur
        · exact .inr (.inl (by rw [hq]; exact h))
        · exact .inl ⟨hq, .inl rfl⟩
      · by_cases hq : n = cur
        · exact .inr (.inr (by rw [hq]; exact h))
        · exact .inl ⟨hq, .inl rfl⟩
    · rintro (⟨h, -⟩ | h | h)
      · exact .inl h
      · by_cases hq : n = cur
        · exact .inr (.inr (.inl (by rw [← hq]; exact h)))
        · exact .inl hq
      · by_cases hq : n = cur
        · exact .inr (.inr (.inr (by rw [← hq]; exact h)))
        · exact .inl hq
  · rw [List.concat_eq_append] at h0 h1 h2 ⊢
    have hcur := h1 c (by simp)
    have hk := h2 (by simp)
    have hlast : ∀ x, (l ++ [c]).getLast? = some x ↔ x = c := fun x => by
      rw [List.getLast?_append]
      simp [eq_comm]
    by_cases hl : linkedB c b = 0
    · have hpn : c.parent = n := (linkedB_parent hl).trans hsn
      have hcn : cur = n := hcur.trans hpn
      subst hcn
      constructor
      · rintro (h | ⟨x, hx, h⟩ | h | h)
        · exact absurd rfl h
        · rw [hlast] at hx
          rw [hx] at h
          exact absurd hl h
        · exact .inr (.inl h)
        · exact .inr (.inr h)
      · rintro (⟨h, h' | ⟨x, hx, h'⟩⟩ | h | h)
        · simp at h'
        · rw [hlast] at hx
          rw [hx] at h'
          exact absurd hl h'
        · exact .inr (.inr (.inl h))
        · exact .inr (.inr (.inr h))
    · constructor
      · intro _
        by_cases hn : n = id
        · exact .inr (.inl (by rw [hn]; exact hk))
        · exact .inl ⟨hn, .inr ⟨c, (hlast c).2 rfl, hl⟩⟩
      · intro _
        exact .inr (.inl ⟨c, (hlast c).2 rfl, hl⟩)
theorem got_go_eq (id : List UInt8) : ∀ (raws : List (List UInt8)) (S : FS) (R : RF) (cur : List UInt8) (ahead : List Bk), RelF S R → (ahead = [] → cur = id) → (∀ c, ahead.getLast? = some c → cur = c.parent) → (ahead ≠ [] → keptOf S id ≠ none) →
    (gotRL raws R cur ahead).2 = (gotL id raws S ahead).2 ∧ RelF (gotL id raws S ahead).1 (gotRL raws R cur ahead).1
  | [], S, R, cur, ahead, hr, h0, h1, h2 => ⟨rfl, hr⟩
  | raw :: rest, S, R, cur, ahead, hr, h0, h1, h2 => by
    rw [gotL_cons, gotRL_cons]
    by_cases hp : (parseB raw).2 ≠ 0
    · rw [if_pos hp, if_pos hp]
      exact ⟨rfl, hr⟩
    · have hp' : (parseB raw).2 = 0 := Decidable.byContradiction hp
      have hi := stop_iff hr h0 h1 h2 hp'
      have hnm : (idB (parseB raw).1).1 = sha raw := idB_eq (parse_ok hp').2 (by rw [bytes_parse hp'])
      rw [if_neg hp, if_neg hp]
      by_cases hs : stopR R cur ahead (parseB raw).1
      · rw [if_pos hs]
        rcases hi.1 hs with h | h
        · rw [if_pos h]
          exact ⟨rfl, hr⟩
        · by_cases hb : gotBad id ahead (sha raw) (parseB raw).1
          · rw [if_pos hb]
            exact ⟨rfl, hr⟩
          · rw [if_neg hb, if_pos h]
            exact ⟨rfl, hr⟩
      · have hb : ¬ gotBad id ahead (sha raw) (parseB raw).1 := fun h => hs (hi.2 (.inl h))
        have hk : ¬ (keptOf S (sha raw) ≠ none ∨ sha raw = S.last) := fun h => hs (hi.2 (.inr h))
        rw [if_neg hs, if_neg hb, if_neg hk, hr.rel.room, hr.rel.K]
        by_cases hf : S.room ≤ S.kept.length
        · rw [if_pos hf, if_pos hf]
          exact ⟨rfl, hr⟩
        · rw [if_neg hf, if_neg hf, hnm]
          refine got_go_eq id rest _ _ _ _ ⟨⟨hr.rel.last, hr.rel.height, rfl, hr.rel.T, rfl, hr.rel.now⟩, hr.num, hr.nodup⟩ (fun h => by simp at h) (fun c hc => ?_) (fun _ => ?_)
          · rw [List.getLast?_append] at hc
            obtain rfl : (parseB raw).1 = c := by simpa using hc
            rfl
          · by_cases ha : ahead = []
            · have hc := h0 ha
              have hn : sha raw = id := by
                refine Decidable.byContradiction fun h => hb ⟨h, .inl ha⟩
              show atL id (S.kept ++ [(sha raw, (parseB raw).1)]) ≠ none
              rw [atL_app, hn]
              cases atL id S.kept <;> simp
            · have h3 := h2 ha
              show atL id (S.kept ++ [(sha raw, (parseB raw).1)]) ≠ none
              rw [atL_app]
              cases hx : atL id S.kept with
              | none => exact absurd hx h3
              | some z => simp
theorem got_eq {S : FS} {R : RF} (hr : RelF S R) (id : List UInt8) (raws : List (List UInt8)) : (gotR R id raws).1 = (gotF S id raws).1 ∧ RelF (gotF S id raws).2 (gotR R id raws).2 := by
  have hnow := hr.rel.now id
  have hfl := fail_eq hr id
  unfold gotR gotF
  rw [hnow]
  by_cases h1 : askedB S.asked id = true
  · rw [if_pos h1, if_pos h1]
    have hf : (failF S id).2 = { S with asked := delB id S.asked } := by unfold failF; rw [if_pos h1]
    rw [hf] at hfl
    obtain ⟨g1, g2⟩ := got_go_eq id (raws.take 16) _ _ id [] hfl.2 (fun _ => rfl) (fun c hc => by simp at hc) (fun h => absurd rfl h)
    refine ⟨?_, g2⟩
    rw [g1]
    rfl
  · rw [if_neg h1, if_neg h1]
    exact ⟨rfl, hr⟩
end Go.Proofs.YtdjcjjodbniebaaGreatDoor
