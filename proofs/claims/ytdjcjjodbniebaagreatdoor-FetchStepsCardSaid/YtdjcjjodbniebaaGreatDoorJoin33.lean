/-
  Texts joined: FTurnsL, FTurnsP.
-/
import Derived.Test.YtdjcjjodbniebaaGreatDoorJoin32
import Derived.Test.YtdjcjjodbniebaaGreatDoorSlay
namespace Go.Proofs.YtdjcjjodbniebaaGreatDoor
open Go.RowKit
set_option linter.unusedVariables false
set_option linter.unusedSimpArgs false
set_option maxRecDepth 10000
def plc (c : UInt8) : Int := ((c.toNat % 32 : Nat) : Int)
def addW (w : List Int) (k : Int) : List Int := if k ∈ w then w else w ++ [k]
def whoL (us : List Int) : List Int := us.foldl addW []
theorem mem_addW {w : List Int} {k x : Int} : x ∈ addW w k ↔ x ∈ w ∨ x = k := by
  unfold addW
  split
  · rename_i h
    constructor
    · exact .inl
    · rintro (h' | rfl)
      · exact h'
      · exact h
  · simp
theorem addW_nodup {w : List Int} {k : Int} (h : w.Nodup) : (addW w k).Nodup := by
  unfold addW
  split
  · exact h
  · rename_i hk
    rw [List.nodup_append]
    refine ⟨h, by simp, fun a ha b hb e => ?_⟩
    obtain rfl : b = k := by simpa using hb
    subst e
    exact hk ha
theorem who_spec : ∀ (us w : List Int), w.Nodup → (us.foldl addW w).Nodup ∧ ∀ x, x ∈ us.foldl addW w ↔ x ∈ w ∨ x ∈ us
  | [], w, h => ⟨h, by simp⟩
  | u :: us, w, h => by
    obtain ⟨h1, h2⟩ := who_spec us (addW w u) (addW_nodup h)
    refine ⟨h1, fun x => ?_⟩
    rw [List.foldl_cons, h2, mem_addW, List.mem_cons]
    constructor
    · rintro ((h | h) | h) <;> simp [h]
    · rintro (h | h | h) <;> simp [h]
theorem puts_spec : ∀ (us l : List Int), l.Pairwise (· < ·) → (us.foldl putL l).Pairwise (· < ·) ∧ ∀ x, x ∈ us.foldl putL l ↔ x ∈ l ∨ x ∈ us
  | [], l, h => ⟨h, by simp⟩
  | u :: us, l, h => by
    obtain ⟨h1, h2⟩ := puts_spec us (putL l u) (putL_rising l u h)
    refine ⟨h1, fun x => ?_⟩
    rw [List.foldl_cons, h2, mem_putL, List.mem_cons]
    constructor
    · rintro ((h | h) | h) <;> simp [h]
    · rintro (h | h | h) <;> simp [h]
theorem rising_eq : ∀ {a b : List Int}, a.Pairwise (· < ·) → b.Pairwise (· < ·) → (∀ x, x ∈ a ↔ x ∈ b) → a = b
  | [], [], _, _, _ => rfl
  | [], y :: b, _, _, h => by have := (h y).2 (by simp); simp at this
  | x :: a, [], _, _, h => by have := (h x).1 (by simp); simp at this
  | x :: a, y :: b, ha, hb, h => by
    rw [List.pairwise_cons] at ha hb
    have hxy : x = y := by
      have h1 := (h x).1 (by simp)
      have h2 := (h y).2 (by simp)
      rw [List.mem_cons] at h1 h2
      rcases h1 with h1 | h1
      · exact h1
      · rcases h2 with h2 | h2
        · exact h2.symm
        · have := hb.1 x h1
          have := ha.1 y h2
          omega
    subst hxy
    rw [rising_eq ha.2 hb.2 fun z => ?_]
    constructor
    · intro hz
      have h1 := (h z).1 (by simp [hz])
      rw [List.mem_cons] at h1
      rcases h1 with rfl | h1
      · have := ha.1 z hz; omega
      · exact h1
    · intro hz
      have h1 := (h z).2 (by simp [hz])
      rw [List.mem_cons] at h1
      rcases h1 with rfl | h1
      · have := hb.1 z hz; omega
      · exact h1
theorem sorted_props {l : List Int} (hnd : l.Nodup) : (l.mergeSort fun x y => decide (x ≤ y)).Pairwise (· < ·) := by
  have tr : ∀ a b c : Int, decide (a ≤ b) = true → decide (b ≤ c) = true → decide (a ≤ c) = true := fun a b c h1 h2 => by simp only [decide_eq_true_eq] at *; omega
  have tot : ∀ a b : Int, (decide (a ≤ b) || decide (b ≤ a)) = true := fun a b => by simp only [Bool.or_eq_true, decide_eq_true_eq]; omega
  have h1 := List.pairwise_mergeSort tr tot l
  have h2 : (l.mergeSort fun x y => decide (x ≤ y)).Nodup := (List.mergeSort_perm l _).nodup_iff.2 hnd
  have h3 := List.Pairwise.and h1 (List.nodup_iff_pairwise_ne.1 h2)
  exact h3.imp fun ⟨h, hne⟩ => by simp only [decide_eq_true_eq] at h; omega
theorem who_sorted (us : List Int) : ((whoL us).mergeSort fun x y => decide (x ≤ y)) = us.foldl putL [] := by
  obtain ⟨h1, h2⟩ := who_spec us [] (by simp)
  obtain ⟨h3, h4⟩ := puts_spec us [] (by simp)
  refine rising_eq (sorted_props h1) h3 fun x => ?_
  rw [(List.mergeSort_perm _ _).mem_iff, show x ∈ whoL us ↔ _ from h2 x, h4]
/-! ### the library -/
theorem sort_any (l : List Int) (hl : l.length ≤ 1000) (B : Nat) (v : Value) (w : World) (h : w.ownsRow B 3 1 v l.length (intsK .i64 l)) :
    callE Tryz.prog 39 #[v] w fun u w' => w'.ownsRow B 3 1 v l.length (intsK .i64 (l.mergeSort fun x y => decide (x ≤ y))) ∧ w.grownBy w' v.ownBlock := by
  rcases h.2 with ⟨rfl, hz⟩ | ⟨gb, cap, cur, rfl, hbase, hgb, r1, r2, r3, r4⟩
  · obtain rfl : l = [] := List.eq_nil_of_length_eq_zero hz
    refine Calls.mono (AnyM.slices_Sort_int_none Tryz.sortA none 0 w) ?_
    rintro e w' ⟨rfl, rfl⟩
    exact ⟨_, rfl, by simpa [intsK] using h, World.grownBy.refl _ _⟩
  · have hH : Go.Sort.Holds encZ w gb 0 l.toArray := holds_of_block_i hgb (by simpa [intsK] using r4)
    have hgl : gb < w.heap.size := (Array.getElem?_eq_some_iff.1 hgb).1
    refine Calls.mono (AnyM.slices_Sort_int Tryz.sortA gb 0 cap l w hH hgl (by omega)) ?_
    rintro e w' ⟨rfl, nn, os, rfl⟩
    exact ⟨_, rfl, ownsRow_sorted_i (by simp) hbase hgb r1 r2 r3, grownBy_sorted_i _⟩
set_option maxHeartbeats 1600000 in
theorem indexI_any {w : World} {A : Option Addr} {c : Nat} {xs : List Int} (hr : Rd w 1 A xs.length (intsK .i64 xs)) (hlen : xs.length ≤ 100000) (x : Int) :
    callE Tryz.prog 76 #[.slice A xs.length c, .int .i64 x] w fun r w' => ((∃ k : Nat, r = .int .i64 k ∧ x ∈ xs) ∨ (r = .int .i64 (-1) ∧ x ∉ xs)) ∧ w' = w := by
  refine calls_E Tryz.func76 rfl rfl rfl (Nat.le_of_ble_eq_true rfl) ?_
  simp [go_sem, IntWalk.iteOmega, IntWalk.toNatUp]
  refine W_loop (fun st wr => ∃ i : Nat, i ≤ xs.length ∧ st 0 = .slice A xs.length c ∧ st 1 = .int .i64 x ∧ st 7 = .int .i64 xs.length ∧ st 8 = .int .i64 i ∧ (∀ m (hm : m < xs.length), m < i → xs[m] ≠ x) ∧ wr = w) (fun st _ => xs.length - (intOf (st 8)).toNat) ?_ ?_
  · exact ⟨0, by omega, by simp [go_sem], by simp [go_sem], by simp [go_sem], by simp [go_sem], fun m hm h => by omega, rfl⟩
  · rintro st wr ⟨i, hi, e0, e1, e7, e8, hno, rfl⟩
    by_cases hlt : i < xs.length
    · have hlt' : (i : Int) < xs.length := by omega
      obtain ⟨b, o, rfl, hb, hc⟩ := hr.cells (by omega)
      have x0 := hc i (.int .i64 xs[i]) (by simp [intsK, hlt])
      by_cases hx : x = xs[i]
      · have hx' : (x == xs[i]) = true := by simpa using hx
        simp [go_sem, IntWalk.iteOmega, IntWalk.toNatUp, e0, e1, e7, e8, hlt, hlt', x0, hx']
        exact ⟨⟨i, rfl⟩, by rw [hx]; exact List.getElem_mem hlt⟩
      · have hx' : (x == xs[i]) = false := by simpa using hx
        simp [go_sem, IntWalk.iteOmega, IntWalk.toNatUp, e0, e1, e7, e8, hlt, hlt', x0, hx']
        refine roundEnd.mk ⟨i + 1, by omega, by simp [go_sem, e0], by simp [go_sem, e1], by simp [go_sem, e7], by simp [go_sem], fun m hm h => ?_, rfl⟩ ?_
        · by_cases hmi : m = i
          · subst hmi; exact fun e => hx e.symm
          · exact hno m hm (by omega)
        · simp [go_sem, intOf, e8]; omega
    · have hlt' : ¬ (i : Int) < xs.length := by omega
      simp [go_sem, IntWalk.iteOmega, IntWalk.toNatUp, e0, e1, e7, e8, hlt']
      intro h
      obtain ⟨k, hk, hkx⟩ := List.getElem_of_mem h
      exact hno k hk (by omega) hkx
theorem containsI_any {w : World} {A : Option Addr} {c : Nat} {xs : List Int} (hr : Rd w 1 A xs.length (intsK .i64 xs)) (hlen : xs.length ≤ 100000) (x : Int) :
    callE Tryz.prog 38 #[.slice A xs.length c, .int .i64 x] w fun r w' => r = .bool (decide (x ∈ xs)) ∧ w' = w := by
  refine calls_E Tryz.func38 rfl rfl rfl (Nat.le_of_ble_eq_true rfl) ?_
  simp [go_sem, IntWalk.iteOmega, IntWalk.toNatUp]
  refine callE_of (indexI_any hr hlen x) ?_
  rintro _ w1 ⟨⟨k, rfl, e⟩ | ⟨rfl, e⟩, rfl⟩
  · simp [go_sem, IntWalk.iteOmega, IntWalk.toNatUp, e]
  · simp [go_sem, IntWalk.iteOmega, IntWalk.toNatUp, e]
theorem run_eql_nil {P : Program} {t e : TypeId} (ht : P.underlying t = some (.slice e)) (A : Option Addr) (n c : Nat) (w : World) :
    (binOp .eql t (.slice A n c) (.slice none 0 0)).run P w = .ok (.bool A.isNone) w := by
  unfold binOp Op.equal
  rw [show Op.maxDepth = 9999 + 1 from rfl]
  unfold Op.equalIn
  cases A <;> simp [run_underlying ht, Result.andThen]
set_option maxHeartbeats 1600000 in
theorem cloneU_any {w : World} {v : Value} {l : List UInt8} (h : RdB w v l) (hlen : l.length ≤ 100000) :
    callE Tryz.prog 37 #[v] w fun r w' => w'.ownsRow w.heap.size 5 1 r l.length (bl l) ∧ Below w.heap.size w w' := by
  obtain ⟨A, cap, rfl, hrd, hA, hc1, hc2⟩ := id h
  refine calls_E Tryz.func37 rfl rfl rfl (Nat.le_of_ble_eq_true rfl) ?_
  rcases A with _ | a
  · have hn := hA rfl
    obtain rfl : l = [] := List.length_eq_zero_iff.1 hn
    have hE := run_eql_nil (P := Tryz.prog) Tryz.underlying22 none 0 cap w
    simp [go_sem, IntWalk.iteOmega, IntWalk.toNatUp, hE]
    exact ⟨World.ownsRow_nil _ _ _ _, Below.refl _ _⟩
  · have hE := run_eql_nil (P := Tryz.prog) Tryz.underlying22 (some a) l.length cap w
    simp [go_sem, IntWalk.iteOmega, IntWalk.toNatUp, hE]
    have kB := ext_alloc w (.cells #[] 5)
    have hxb3 : Blk (w.alloc (.cells #[] 5)) w.heap.size 5 #[] := Blk.self_ rfl
    have hrd2 := hrd.keep kB
    have hrow : (w.alloc (.cells #[] 5)).ownsRow w.heap.size 5 1 (.slice (some ⟨w.heap.size, 0, none⟩) 0 0) 0 [] := ⟨rfl, .inr ⟨w.heap.size, 0, #[], rfl, Nat.le_refl _, hxb3, Nat.le_refl _, by unfold maxLen; omega, rfl, rfl⟩⟩
    refine appendE w.heap.size 5 1 1 Tryz.underlying22 el5 hrow hrd2 (bl_one l) (by unfold maxLen; omega) (by omega) kB.size ?_
    intro out' w6 hout6 hgr6 hblk6
    have hb6 := kB.grown hgr6 kB.size (fun k hk => by
      have : w.heap.size = k := Option.some.inj hk
      omega)
    rw [Nat.zero_add, List.nil_append] at hout6
    simp [go_sem, IntWalk.iteOmega, IntWalk.toNatUp]
    exact ⟨hout6, hb6⟩
end Go.Proofs.YtdjcjjodbniebaaGreatDoor
namespace Go.Proofs.YtdjcjjodbniebaaGreatDoor
set_option linter.unusedVariables false
set_option linter.unusedSimpArgs false
set_option maxRecDepth 10000
/-- a fetch with one name vouched for -/
def TS (id : List UInt8) (P : List Int) : FS := bS nm0 (if P = [] then [] else [(id, P)]) [] [] []
/-- asked for so often -/
def TO (id : List UInt8) (P : List Int) (i : Nat) : FS := bS nm0 [(id, P)] [] [] (if i = 0 then [] else [(id, (i : Int))])
def TA (id : List UInt8) (P : List Int) (i : Nat) : FS := bS nm0 [(id, P)] [] [(id, true)] [(id, (i : Int))]
theorem putL_ne (l : List Int) (n : Int) : putL l n ≠ [] := by
  intro h
  have := (mem_putL l n n).2 (.inl rfl)
  rw [h] at this
  simp at this
theorem puts_ne : ∀ (us l : List Int), us ≠ [] → us.foldl putL l ≠ []
  | [], _, h => absurd rfl h
  | u :: us, l, _ => by
    rw [List.foldl_cons]
    by_cases h : us = []
    · subst h; exact putL_ne l u
    · exact puts_ne us _ h
theorem TS_target {id : List UInt8} {P us : List Int} (h : us.any wrongI = false) : targetF (TS id P) id us = (if us = [] then 1 else 0, TS id (us.foldl putL P)) := by
  by_cases h0 : us = []
  · subst h0
    unfold targetF
    rw [if_pos (.inl rfl)]
    rfl
  · unfold targetF
    rw [if_neg (by rintro (h' | h'); exact h0 h'; rw [h] at h'; cases h'), if_neg h0]
    have hne := puts_ne us P h0
    by_cases hP : P = []
    · subst hP
      have e1 : atL id (TS id []).ts = none := by simp [TS, bS, atL]
      rw [if_neg (by rintro ⟨_, h'⟩; simp [TS, bS] at h'), e1]
      simp [TS, bS, putAt, hne]
    · have e1 : atL id (TS id P).ts = some P := by simp [TS, bS, hP, atL_cons]
      rw [if_neg (by rintro ⟨h', _⟩; rw [e1] at h'; cases h'), e1]
      simp [TS, bS, putAt, hne, hP]
theorem TO_miss {id : List UInt8} {P : List Int} {asked : List (List UInt8 × Bool)} {often : List (List UInt8 × Int)} (hid : id ≠ nm0) (hP : P.Pairwise (· < ·)) : missL (bS nm0 [(id, P)] [] asked often) = [(id, P)] := by
  have hw : wayF (bS nm0 [(id, P)] [] asked often) id = ([], 0, id) := wayL_missing hid rfl
  have := miss_one (S := bS nm0 [(id, P)] [] asked often) rfl hw
  rw [this]
  have e : P.foldl putL [] = P := by
    obtain ⟨h1, h2⟩ := puts_spec P [] (by simp)
    exact rising_eq h1 hP fun x => by rw [h2]; simp
  rw [e]
theorem TO_ask {id : List UInt8} {P : List Int} {i : Nat} (hid : id ≠ nm0) (hP : P.Pairwise (· < ·)) (hne : P ≠ []) : askF (TO id P i) id = ((P.getD (i % P.length) 0, 0), TA id P (i + 1)) := by
  rw [ask_one (S := TO id P i) (TO_miss hid hP) hne rfl]
  by_cases h0 : i = 0
  · subst h0
    simp [TO, TA, bS, atL_nil, putAt]
  · simp [TO, TA, bS, h0, atL_cons, putAt]
theorem TA_ask {id : List UInt8} {P : List Int} {i : Nat} (hid : id ≠ nm0) (hP : P.Pairwise (· < ·)) (hne : P ≠ []) : askF (TA id P i) id = ((0, 7), TA id P i) := by
  unfold askF
  rw [show missL (TA id P i) = [(id, P)] from TO_miss hid hP]
  have e : (atL id [(id, P)]).getD [] = P := by simp [atL_cons]
  rw [e, if_neg hne, if_pos (by simp [TA, bS, askedB])]
theorem TA_fail {id : List UInt8} {P : List Int} {i : Nat} : failF (TA id P (i + 1)) id = (0, TO id P (i + 1)) := by
  simp [failF, TA, TO, bS, askedB, delB]
theorem TO_fail {id : List UInt8} {P : List Int} {i : Nat} : failF (TO id P i) id = (4, TO id P i) := by
  simp [failF, TO, bS, askedB]
theorem TS_TO {id : List UInt8} {P : List Int} (h : P ≠ []) : TS id P = TO id P 0 := by simp [TS, TO, h]
theorem T_ok {id : List UInt8} (hid : id.length = 32) {ts : List (List UInt8 × List Int)} (hts : ts = [] ∨ ∃ P, ts = [(id, P)] ∧ Places P) (asked : List (List UInt8 × Bool)) (often : List (List UInt8 × Int)) : FOk (bS nm0 ts [] asked often) :=
  ⟨nm0_len, by show (0:Int) ≤ 0; decide, by show (0:Int) ≤ _; decide, by show (1:Int) ≤ 9 ∧ (9:Int) ≤ 4096; decide, by
    rcases hts with rfl | ⟨P, rfl, _⟩
    · show (0:Nat) ≤ 32; decide
    · show (1:Nat) ≤ 32; decide, fun t ht => by
    rcases hts with rfl | ⟨P, rfl, h⟩
    · simp [bS] at ht
    · obtain rfl : t = (id, P) := by simpa [bS] using ht
      exact ⟨hid, h⟩, by show (0:Nat) ≤ _; decide, by simp [bS]⟩
theorem addW_len (w : List Int) (k : Int) : (addW w k).length ≤ w.length + 1 := by
  unfold addW; split <;> simp
theorem who_len0 : ∀ (us w : List Int), (us.foldl addW w).length ≤ w.length + us.length
  | [], w => by simp
  | u :: us, w => by
    have h1 := who_len0 us (addW w u)
    have h2 := addW_len w u
    rw [List.foldl_cons, List.length_cons]
    omega
theorem who_len (us : List Int) : (whoL us).length ≤ us.length := by
  have := who_len0 us []
  simpa [whoL] using this
theorem plc_range (c : UInt8) : 0 ≤ plc c ∧ plc c < 32 := by unfold plc; omega
theorem plc_wrong (l : List UInt8) : (l.map plc).any wrongI = false := by
  rw [List.any_eq_false]
  intro x hx
  obtain ⟨c, _, rfl⟩ := List.mem_map.1 hx
  have := plc_range c
  simp [wrongI]
  omega
theorem plc_places (l : List UInt8) : Places ((l.map plc).foldl putL []) := Places.nil.puts fun v hv => by
  obtain ⟨c, _, rfl⟩ := List.mem_map.1 hv
  exact plc_range c
end Go.Proofs.YtdjcjjodbniebaaGreatDoor
