/-
  Texts joined: GSums, GBits, GShare, Map, Fork, GGate, GEnter, GCheck.
-/
import Derived.Test.YtmcbcoafodmbjaaGreatDoorJoin23
import Derived.Test.YtmcbcoafodmbjaaGreatDoorProg
import Derived.MapKept

/-
  Sums of weights: the program's and the document's.
-/
namespace Go.Proofs.YtmcbcoafodmbjaaGreatDoor
open Go.RowKit
set_option linter.unusedVariables false
set_option linter.unusedSimpArgs false
set_option maxRecDepth 10000
def ints (k : IntKind) (l : List Int) : List Value := l.map (Value.int k)
theorem ints_at {k : IntKind} {l : List Int} {i : Nat} (h : i < l.length) : (ints k l)[i]? = some (.int k (l.getD i 0)) := by
  simp [ints, List.getD, List.getElem?_eq_getElem h]
theorem not_ok {l : List Int} {i : Nat} (h : i < l.length) (hx : ¬ (1 ≤ l.getD i 0 ∧ l.getD i 0 ≤ 4611686018427387903 - sumTo l i)) : okW l = false := by
  rw [okW, decide_eq_false_iff_not]
  rintro ⟨_, _, h3⟩
  exact hx (okTo_le h3 (show i + 1 ≤ l.length from h)).2
theorem not_okL {l : List Int} (h : l.length < 1 ∨ 32 < l.length) : okW l = false := by
  rw [okW, decide_eq_false_iff_not]
  rintro ⟨_, _, h3⟩
  omega
theorem is_ok {l : List Int} (h1 : 1 ≤ l.length) (h2 : l.length ≤ 32) (h : okTo l l.length) : okW l = true := decide_eq_true ⟨h1, h2, h⟩
theorem gsum_runs (l : List Int) (v : Value) (w : World) (hs : Sl w 1 v l.length (ints .i64 l)) : Runs Tryz.prog 79 #[v] w (.int .i64 (if okW l then sumW l else -1)) w := by
  obtain ⟨A, c, rfl, hrd, hA, hc1, hc2⟩ := hs
  generalize hn : l.length = n at *
  refine runs_of_callE ?_
  refine calls_E Tryz.func79 rfl rfl rfl (Nat.le_of_ble_eq_true rfl) ?_
  by_cases h1 : n < 1
  · have hk := not_okL (l := l) (by omega)
    have h1' : (n : Int) < 1 := by omega
    simp [go_sem, IntWalk.iteOmega, IntWalk.toNatUp, h1', hk]
  · by_cases h2 : 32 < n
    · have hk := not_okL (l := l) (by omega)
      have h1' : ¬ (n : Int) < 1 := by omega
      have h2' : (32 : Int) < n := by omega
      simp [go_sem, IntWalk.iteOmega, IntWalk.toNatUp, h1', h2', hk]
    · have h1' : ¬ (n : Int) < 1 := by omega
      have h2' : ¬ (32 : Int) < n := by omega
      simp [go_sem, IntWalk.iteOmega, IntWalk.toNatUp, h1', h2']
      refine W_loop (fun s wr => ∃ i : Nat, i ≤ n ∧ s 14 = .slice A n c ∧ s 15 = .int .i64 n ∧ s 16 = .int .i64 i ∧ s 3 = .int .i64 (sumTo l i) ∧ okTo l i ∧ wr = w) (fun s _ => n - (intOf (s 16)).toNat) ?_ ?_
      · exact ⟨0, by omega, by simp [go_sem], by simp [go_sem], by simp [go_sem], by simp [go_sem, sumTo], trivial, rfl⟩
      · clear h1' h2'
        rintro s wr ⟨i, hi, e14, e15, e16, e3, hok, rfl⟩
        have hle := sumTo_le hok
        by_cases hlt : i < n
        · obtain ⟨b, o, rfl, hb, hc⟩ := hrd.cells (by omega)
          have x0 := hc i _ (ints_at (by omega))
          have hstep : sumTo l (i + 1) = sumTo l i + l.getD i 0 := rfl
          have hno := not_ok (l := l) (i := i) (by omega)
          have hyes : 1 ≤ l.getD i 0 → l.getD i 0 ≤ 4611686018427387903 - sumTo l i → okTo l (i + 1) := fun a b => ⟨hok, a, b⟩
          generalize l.getD i 0 = x at *
          by_cases hx1 : x < 1
          · have hk := hno (by omega)
            clear hstep hno hyes
            simp [go_sem, IntWalk.iteOmega, IntWalk.toNatUp, e14, e15, e16, e3, x0, hx1, hk]
          · by_cases hx2 : 4611686018427387903 - sumTo l i < x
            · have hk := hno (by omega)
              clear hstep hno hyes
              simp [go_sem, IntWalk.iteOmega, IntWalk.toNatUp, e14, e15, e16, e3, x0, hx1, hx2, hk]
            · have HS := Lib.hid hstep
              have HK := hyes (by omega) (by omega)
              clear hno hstep hyes
              simp [go_sem, IntWalk.iteOmega, IntWalk.toNatUp, e14, e15, e16, e3, x0, hx1, hx2]
              refine roundEnd.mk ⟨i + 1, by omega, by simp [go_sem, e14], by simp [go_sem, e15], by simp [go_sem], ?_, ?_, rfl⟩ ?_
              · rw [HS.out]; simp [go_sem]
              · exact HK
              · simp [go_sem, intOf]; omega
        · obtain rfl : i = n := by omega
          have hk := is_ok (l := l) (by omega) (by omega) (by rw [hn]; exact hok)
          have hsum : sumW l = sumTo l i := by unfold sumW; rw [hn]
          simp [go_sem, IntWalk.iteOmega, IntWalk.toNatUp, e14, e15, e16, e3, hk, hsum]
theorem noinit_gsum : Tryz.prog.inits.idxOf? 79 = none := by kernel_rfl
theorem rsum_runs (l : List Int) (v : Value) (w : World) (hs : Sl w 1 v l.length (ints .i64 l)) : Runs Tryz.prog 92 #[v] w (.tuple #[.int .i64 (if okW l then sumW l else 0), .bool (okW l)]) w := by
  obtain ⟨A, c, rfl, hrd, hA, hc1, hc2⟩ := hs
  generalize hn : l.length = n at *
  refine runs_of_callE ?_
  refine calls_E Tryz.func92 rfl rfl rfl (Nat.le_of_ble_eq_true rfl) ?_
  by_cases h1 : n < 1
  · have hk := not_okL (l := l) (by omega)
    have h1' : (n : Int) < 1 := by omega
    simp [go_sem, IntWalk.iteOmega, IntWalk.toNatUp, h1', hk]
  · by_cases h2 : 32 < n
    · have hk := not_okL (l := l) (by omega)
      have h1' : ¬ (n : Int) < 1 := by omega
      have h2' : (32 : Int) < n := by omega
      simp [go_sem, IntWalk.iteOmega, IntWalk.toNatUp, h1', h2', hk]
    · have h1' : ¬ (n : Int) < 1 := by omega
      have h2' : ¬ (32 : Int) < n := by omega
      simp [go_sem, IntWalk.iteOmega, IntWalk.toNatUp, h1', h2']
      refine W_loop (fun s wr => ∃ i : Nat, i ≤ n ∧ s 0 = .slice A n c ∧ s 5 = .int .i64 i ∧ s 4 = .int .i64 (sumTo l i) ∧ okTo l i ∧ wr = w) (fun s _ => n - (intOf (s 5)).toNat) ?_ ?_
      · exact ⟨0, by omega, by simp [go_sem], by simp [go_sem], by simp [go_sem, sumTo], trivial, rfl⟩
      · clear h1' h2'
        rintro s wr ⟨i, hi, e0, e5, e4, hok, rfl⟩
        have hle := sumTo_le hok
        by_cases hlt : i < n
        · obtain ⟨b, o, rfl, hb, hc⟩ := hrd.cells (by omega)
          have x0 := hc i _ (ints_at (by omega))
          have hstep : sumTo l (i + 1) = sumTo l i + l.getD i 0 := rfl
          have hno := not_ok (l := l) (i := i) (by omega)
          have hyes : 1 ≤ l.getD i 0 → l.getD i 0 ≤ 4611686018427387903 - sumTo l i → okTo l (i + 1) := fun a b => ⟨hok, a, b⟩
          generalize l.getD i 0 = x at *
          by_cases hx1 : x < 1
          · have hk := hno (by omega)
            clear hstep hno hyes
            simp [go_sem, IntWalk.iteOmega, IntWalk.toNatUp, e0, e5, e4, x0, hx1, hk]
          · by_cases hx2 : 4611686018427387903 - sumTo l i < x
            · have hk := hno (by omega)
              clear hstep hno hyes
              simp [go_sem, IntWalk.iteOmega, IntWalk.toNatUp, e0, e5, e4, x0, hx1, hx2, hk]
            · have HS := Lib.hid hstep
              have HK := hyes (by omega) (by omega)
              clear hno hstep hyes
              simp [go_sem, IntWalk.iteOmega, IntWalk.toNatUp, e0, e5, e4, x0, hx1, hx2]
              refine roundEnd.mk ⟨i + 1, by omega, by simp [go_sem, e0], by simp [go_sem], ?_, HK, rfl⟩ ?_
              · rw [HS.out]; simp [go_sem]
              · simp [go_sem, intOf]; omega
        · obtain rfl : i = n := by omega
          have hk := is_ok (l := l) (by omega) (by omega) (by rw [hn]; exact hok)
          have hsum : sumW l = sumTo l i := by unfold sumW; rw [hn]
          simp [go_sem, IntWalk.iteOmega, IntWalk.toNatUp, e0, e5, e4, hk, hsum]
theorem noinit_rsum : Tryz.prog.inits.idxOf? 92 = none := by kernel_rfl
theorem allowed_runs (n : Int) (w : World) : Runs Tryz.prog 93 #[.int .i64 n] w (.bool (decide (0 ≤ n ∧ n ≤ 1073741824))) w := by
  refine runs_of_callE ?_
  refine calls_E Tryz.func93 rfl rfl rfl (Nat.le_of_ble_eq_true rfl) ?_
  by_cases h1 : 0 ≤ n <;> by_cases h2 : n ≤ 1073741824 <;> simp [go_sem, IntWalk.iteOmega, IntWalk.toNatUp, h1, h2]
theorem noinit_allowed : Tryz.prog.inits.idxOf? 93 = none := by kernel_rfl
@[go_sem] theorem allowed_eq (n : Int) (w : World) (k : Kont) : callE Tryz.prog 93 #[.int .i64 n] w k = k (.bool (decide (0 ≤ n ∧ n ≤ 1073741824))) w := callE_eq noinit_allowed (allowed_runs n w) k
end Go.Proofs.YtmcbcoafodmbjaaGreatDoor

/-
  A share bit by bit is a share by division: plain Lean, no program in sight.
-/
namespace Go.Proofs.YtmcbcoafodmbjaaGreatDoor
def shareOk (own : Int) (l : List Int) (v : Int) : Bool := decide (0 ≤ own ∧ own ≤ 1073741824 ∧ okW l = true ∧ 0 ≤ v ∧ v < l.length)
def shareOf (own : Int) (l : List Int) (v : Int) : Int := if shareOk own l v then own * l.getD v.toNat 0 / sumW l else 0
def shareE (own : Int) (l : List Int) (v : Int) : Int := if shareOk own l v then 0 else 1
end Go.Proofs.YtmcbcoafodmbjaaGreatDoor

/-
  gate.Share and the document's: the same share.
-/
namespace Go.Proofs.YtmcbcoafodmbjaaGreatDoor
open Go.RowKit
set_option linter.unusedVariables false
set_option linter.unusedSimpArgs false
set_option maxRecDepth 10000
theorem div64_whole (N m : Nat) (hm : m < 18446744073709551616) (hN : N < 18446744073709551616 * m) (w : World) :
    callE Tryz.prog 136 #[.int .u64 ((N / 18446744073709551616 : Nat) : Int), .int .u64 ((N % 18446744073709551616 : Nat) : Int), .int .u64 m] w fun v w' =>
      v = .tuple #[.int .u64 ((N / m : Nat) : Int), .int .u64 ((N % m : Nat) : Int)] ∧ Below w.heap.size w w' := by
  have h := div64_any (N / 18446744073709551616) (N % 18446744073709551616) m (Nat.mod_lt _ (by omega)) hm ((Nat.div_lt_iff_lt_mul (by omega)).2 (by rw [Nat.mul_comm]; exact hN)) w
  rw [Nat.div_add_mod' N 18446744073709551616] at h
  exact h
set_option maxHeartbeats 1600000 in
theorem gshare_any (own v : Int) (l : List Int) (vl : Value) (w : World) (hs : Sl w 1 vl l.length (ints .i64 l)) :
    callE Tryz.prog 80 #[.int .i64 own, vl, .int .i64 v] w fun u w' => u = .tuple #[.int .i64 (shareOf own l v), .int .i64 (shareE own l v)] ∧ Below w.heap.size w w' := by
  have hsum : ∀ k, callE Tryz.prog 79 #[vl] w k = k (.int .i64 (if okW l then sumW l else -1)) w := fun k => callE_eq noinit_gsum (gsum_runs l vl w hs) k
  obtain ⟨A, c, rfl, hrd, hA, hc1, hc2⟩ := hs

  by_cases hk : okW l = true
  · have hp := okW_pos hk
    have hw := okW_of hk
    simp only [hk, if_true] at hsum
    by_cases h1 : 0 ≤ own ∧ own ≤ 1073741824
    · by_cases h2 : v < 0
      · have ho : shareOk own l v = false := by simp [shareOk]; omega
        refine calls_E Tryz.func80 rfl rfl rfl (Nat.le_of_ble_eq_true rfl) ?_
        simp [go_sem, IntWalk.iteOmega, IntWalk.toNatUp, hsum, h1, h2, show ¬ sumW l < 0 by omega, shareOf, shareE, ho]
        exact Below.refl _ _
      · by_cases h3 : v < l.length
        · have ho : shareOk own l v = true := by simp [shareOk, hk]; omega
          obtain ⟨o, rfl⟩ : ∃ o : Nat, own = o := ⟨own.toNat, by omega⟩
          obtain ⟨u, rfl⟩ : ∃ u : Nat, v = u := ⟨v.toNat, by omega⟩
          have hx := okTo_at hw.2.2 (show u < l.length by omega)
          obtain ⟨b, oo, rfl, hb, hc⟩ := hrd.cells (by omega)
          have x0 := hc u _ (ints_at (by omega))
          have hm : sumTo l l.length = sumW l := rfl
          rw [hm] at hx
          generalize hX : l.getD u 0 = X at *
          generalize hM : sumW l = M at *
          obtain ⟨x, rfl⟩ : ∃ x : Nat, X = x := ⟨X.toNat, by omega⟩
          obtain ⟨m, rfl⟩ : ∃ m : Nat, M = m := ⟨M.toNat, by omega⟩
          have f1 := wrapN o (by omega)
          have f2 := wrapN x (by omega)
          have f3 := wrapN m (by omega)
          have hmul := fun k => callE_eq noinit_mul64 (mul64_runs o x (by omega) (by omega) w) k
          refine calls_E Tryz.func80 rfl rfl rfl (Nat.le_of_ble_eq_true rfl) ?_
          simp [go_sem, IntWalk.iteOmega, IntWalk.toNatUp, hsum, h1, h2, h3, show ¬ (m : Int) < 0 by omega, x0, f1, f2, f3, hmul]
          have hox : o * x ≤ 1073741824 * m := Nat.mul_le_mul (by omega) (by omega)
          refine callE_of (div64_whole (o * x) m (by omega) (by omega) w) ?_
          rintro _ w1 ⟨rfl, hB⟩
          have hq : o * x / m ≤ 1073741824 := Nat.div_le_of_le_mul (show o * x ≤ m * 1073741824 by omega)
          have hsh : shareOf o l u = ((o * x / m : Nat) : Int) := by
            rw [shareOf, if_pos ho, Int.toNat_natCast, hX, hM]; simp
          generalize o * x / m = q at *
          have fq : IntKind.i64.wrap (q : Int) = (q : Int) := by rw [IntKind.wrap_i64]; omega
          simp [go_sem, IntWalk.iteOmega, IntWalk.toNatUp, hsh, shareE, ho, fq]
          exact hB
        · have ho : shareOk own l v = false := by simp [shareOk]; omega
          refine calls_E Tryz.func80 rfl rfl rfl (Nat.le_of_ble_eq_true rfl) ?_
          simp [go_sem, IntWalk.iteOmega, IntWalk.toNatUp, hsum, h1, h2, h3, show ¬ sumW l < 0 by omega, shareOf, shareE, ho]
          exact Below.refl _ _
    · have ho : shareOk own l v = false := by simp [shareOk]; omega
      refine calls_E Tryz.func80 rfl rfl rfl (Nat.le_of_ble_eq_true rfl) ?_
      simp [go_sem, IntWalk.iteOmega, IntWalk.toNatUp, hsum, h1, shareOf, shareE, ho]
      exact Below.refl _ _
  · have ho : shareOk own l v = false := by simp [shareOk, hk]
    simp only [hk] at hsum
    refine calls_E Tryz.func80 rfl rfl rfl (Nat.le_of_ble_eq_true rfl) ?_
    by_cases h1 : 0 ≤ own ∧ own ≤ 1073741824 <;> simp [go_sem, IntWalk.iteOmega, IntWalk.toNatUp, hsum, h1, shareOf, shareE, ho] <;> exact Below.refl _ _
end Go.Proofs.YtmcbcoafodmbjaaGreatDoor
namespace Go.Proofs.YtmcbcoafodmbjaaGreatDoor
open Go.RowKit
set_option linter.unusedVariables false
set_option linter.unusedSimpArgs false
def Mp (w : World) (r : Nat) (k : IntKind) (L : List (Int × Value)) : Prop := ∃ es clock, w.heap[r]? = some (.map es clock) ∧ es.toList.map (fun e => (e.key, e.val)) = L.map (fun x => (Value.int k x.1, x.2)) ∧ MapKept.Stamped es clock
def atKey (a : Int) : List (Int × Value) → Option Value
  | [] => none
  | x :: L => if a = x.1 then some x.2 else atKey a L
def putKey (a : Int) (v : Value) : List (Int × Value) → List (Int × Value)
  | [] => [(a, v)]
  | x :: L => if a = x.1 then (a, v) :: L else x :: putKey a v L
def delKey (a : Int) : List (Int × Value) → List (Int × Value)
  | [] => []
  | x :: L => if a = x.1 then L else x :: delKey a L
theorem Mp.lt {w : World} {r : Nat} {k : IntKind} {L : List (Int × Value)} (h : Mp w r k L) : r < w.heap.size := by
  obtain ⟨es, c, h1, _⟩ := h
  exact (Array.getElem?_eq_some_iff.1 h1).1
theorem Mp.below {w w' : World} {B r : Nat} {k : IntKind} {L : List (Int × Value)} (h : Mp w r k L) (hb : Below B w w') (hr : r < B) : Mp w' r k L := by
  obtain ⟨es, c, h1, h2⟩ := h
  exact ⟨es, c, (hb.block r hr).trans h1, h2⟩
theorem Mp.keep {w w' : World} {r : Nat} {k : IntKind} {L : List (Int × Value)} (h : Mp w r k L) (hb : Below w.heap.size w w') : Mp w' r k L := h.below hb h.lt
theorem find_at (k : IntKind) (a : Int) : ∀ (es : List MapEntry) (L : List (Int × Value)) (n : Nat), es.map (fun e => (e.key, e.val)) = L.map (fun x => (Value.int k x.1, x.2)) →
    (atKey a L = none ∧ Instr.findNow (.int k) (.int k a) es n = some none ∧ delKey a L = L) ∨
    (∃ i u, atKey a L = some u ∧ Instr.findNow (.int k) (.int k a) es n = some (some (n + i, u)) ∧ (∃ h : i < es.length, es[i].key = .int k a) ∧
      (∀ v f, (f : MapEntry → MapEntry) = (fun e => { e with key := .int k a, val := v }) → (es.modify i f).map (fun e => (e.key, e.val)) = (putKey a v L).map fun x => (Value.int k x.1, x.2)) ∧
      (es.eraseIdx i).map (fun e => (e.key, e.val)) = (delKey a L).map fun x => (Value.int k x.1, x.2))
  | [], [], n, h => .inl ⟨rfl, rfl, rfl⟩
  | [], _ :: _, n, h => by simp at h
  | _ :: _, [], n, h => by simp at h
  | e :: es, x :: L, n, h => by
    simp only [List.map_cons, List.cons.injEq, Prod.mk.injEq] at h
    obtain ⟨⟨h1, h2⟩, h3⟩ := h
    by_cases hx : a = x.1
    · refine .inr ⟨0, x.2, by simp [atKey, hx], ?_, ⟨by simp, by simp [h1, hx]⟩, ?_, ?_⟩
      · simp [Instr.findNow, Instr.sameNow, h1, h2, hx]
      · rintro v f rfl
        simp [putKey, hx, h3]
      · simp [delKey, hx, h3]
    · have hb : (a == x.1) = false := by simpa using hx
      rcases find_at k a es L (n + 1) h3 with ⟨p1, p2, p4⟩ | ⟨i, u, p1, p2, ⟨p3, p3'⟩, p4, p5⟩
      · refine .inl ⟨by simp [atKey, hx, p1], ?_, by simp [delKey, hx, p4]⟩
        · simp [Instr.findNow, Instr.sameNow, h1, hb, p2]
      · refine .inr ⟨i + 1, u, by simp [atKey, hx, p1], ?_, ⟨by simpa using p3, by simpa using p3'⟩, ?_, ?_⟩
        · simp [Instr.findNow, Instr.sameNow, h1, hb, p2]; omega
        · rintro v f rfl
          simp [putKey, hx, h1, h2, p4 v _ rfl]
        · simp [delKey, hx, h1, h2, p5]
theorem atKey_none {k : IntKind} {a : Int} : ∀ {L : List (Int × Value)} {es : List MapEntry}, atKey a L = none → es.map (fun e => (e.key, e.val)) = L.map (fun x => (Value.int k x.1, x.2)) → ∀ x ∈ es, x.key ≠ .int k a
  | [], [], _, _, x, hx, _ => by cases hx
  | [], _ :: _, _, h, _, _, _ => by simp at h
  | _ :: _, [], _, h, _, _, _ => by simp at h
  | y :: L, e :: es, h0, h, x, hx, hk => by
    simp only [List.map_cons, List.cons.injEq, Prod.mk.injEq] at h
    unfold atKey at h0
    split at h0
    · cases h0
    · rename_i hne
      rcases List.mem_cons.1 hx with rfl | hx
      · rw [h.1.1] at hk
        injection hk with _ hk
        exact hne hk.symm
      · exact atKey_none h0 h.2 x hx hk
theorem put_new {a : Int} {v : Value} : ∀ {L : List (Int × Value)}, atKey a L = none → putKey a v L = L ++ [(a, v)]
  | [], _ => rfl
  | x :: L, h => by
    unfold atKey at h
    split at h
    · cases h
    · rename_i hx; simp [putKey, hx, put_new h]
def mapPut (w : World) (r : Nat) (key v : Value) (d : TypeDesc) : World :=
  match w.heap[r]? with
  | some (.map es clock) =>
    match Instr.findNow d key es.toList 0 with
    | some (some (i, _)) => { w with heap := w.heap.setIfInBounds r (.map (es.modify i fun e => { e with key := key, val := v }) clock) }
    | _ => { w with heap := w.heap.setIfInBounds r (.map (es.push { key, val := v, born := clock }) (clock + 1)) }
  | _ => w
def mapDel (w : World) (r : Nat) (key : Value) (d : TypeDesc) : World :=
  match w.heap[r]? with
  | some (.map es clock) =>
    match Instr.findNow d key es.toList 0 with
    | some (some (i, _)) => { w with heap := w.heap.setIfInBounds r (.map (es.eraseIdxIfInBounds i) clock) }
    | _ => { w with heap := w.heap.setIfInBounds r (.map es clock) }
  | _ => w
theorem mapPut_far (w : World) (r : Nat) (key v : Value) (d : TypeDesc) {b : Nat} (h : b ≠ r) : (mapPut w r key v d).heap[b]? = w.heap[b]? := by
  unfold mapPut
  split
  · split <;> simp [Array.getElem?_setIfInBounds_ne (Ne.symm h)]
  · rfl
theorem mapDel_far (w : World) (r : Nat) (key : Value) (d : TypeDesc) {b : Nat} (h : b ≠ r) : (mapDel w r key d).heap[b]? = w.heap[b]? := by
  unfold mapDel
  split
  · split <;> simp [Array.getElem?_setIfInBounds_ne (Ne.symm h)]
  · rfl
@[go_sem] theorem mapPut_size (w : World) (r : Nat) (key v : Value) (d : TypeDesc) : (mapPut w r key v d).heap.size = w.heap.size := by
  unfold mapPut
  split
  · split <;> simp
  · rfl
@[go_sem] theorem mapDel_size (w : World) (r : Nat) (key : Value) (d : TypeDesc) : (mapDel w r key d).heap.size = w.heap.size := by
  unfold mapDel
  split
  · split <;> simp
  · rfl
@[go_sem] theorem Blk_mapPut {w : World} {g r : Nat} {t : TypeId} {cs : Array Value} {key v : Value} {d : TypeDesc} (h : g ≠ r) : Blk (mapPut w r key v d) g t cs = Blk w g t cs := by
  unfold Blk; rw [mapPut_far _ _ _ _ _ h]
@[go_sem] theorem Blk_mapDel {w : World} {g r : Nat} {t : TypeId} {cs : Array Value} {key : Value} {d : TypeDesc} (h : g ≠ r) : Blk (mapDel w r key d) g t cs = Blk w g t cs := by
  unfold Blk; rw [mapDel_far _ _ _ _ h]
section
variable {P : Program} {w : World} {r : Nat} {k : IntKind} {L : List (Int × Value)} {t kt et : TypeId}
theorem Mp.put (h : Mp w r k L) (a : Int) (v : Value) : Mp (mapPut w r (.int k a) v (.int k)) r k (putKey a v L) := by
  have hlt := h.lt
  obtain ⟨es, c, h1, h2, hS⟩ := h
  unfold mapPut
  simp only [h1]
  rcases find_at k a es.toList L 0 h2 with ⟨p1, p2, p4⟩ | ⟨i, u, p1, p2, p3, p4, p5⟩
  · simp only [p2]
    refine ⟨_, _, (MapKept.heap_set h1).1, ?_, MapKept.stamped_push hS fun x hx e => ?_⟩
    · rw [put_new p1]
      simp [h2]
    · exact atKey_none p1 h2 x hx e
  · simp only [p2, Nat.zero_add]
    refine ⟨_, _, (MapKept.heap_set h1).1, ?_, MapKept.stamped_modify hS _ _ (fun _ _ => rfl) fun e _ he => ?_⟩
    · rw [← p4 v _ rfl]
      simp
    · obtain ⟨q, hq⟩ := p3
      rw [← Array.getElem?_toList, List.getElem?_eq_getElem q] at he
      injection he with he
      rw [← he, hq]
end
theorem Mp_made (w : World) (k : IntKind) : Mp (w.alloc (.map #[] 0)) w.heap.size k [] := ⟨#[], 0, heap_alloc_new w _, rfl, MapKept.stamped_empty _⟩
end Go.Proofs.YtmcbcoafodmbjaaGreatDoor
namespace Go.Proofs.YtmcbcoafodmbjaaGreatDoor
open Go.RowKit
set_option linter.unusedVariables false
variable {ro : Option Nat} {ds : List Deferred}
/-! Along a tree of orders that may fork into any number of ways. -/
inductive Fork where
  | done
  | pure (i : Nat) (r : Fork)
  | alt (i : Nat) (r q : Fork)
  | no
def forkB (ops : Array Oper) : Fork → Nat → Array Bool → List Nat → Bool
  | .done, f, listed, acc => f == 0 && (Region.ready .any ops listed).isEmpty && acc.isEmpty
  | .pure i r, f + 1, listed, acc => (Region.ready .any ops listed).contains i && Region.free .any ops listed i && acc.isEmpty && forkB ops r f (listed.setIfInBounds i true) []
  | .alt i r q, f + 1, listed, acc => forkB ops r f (listed.setIfInBounds i true) [] && forkB ops q (f + 1) listed (i :: acc)
  | .no, _ + 1, listed, acc => !(Region.ready .any ops listed).isEmpty && (Region.ready .any ops listed).all fun j => acc.contains j
  | _, _, _, _ => false
def forkE (P : Program) (n : Nat) (ops : Array Oper) (K : Slots → World → Prop) : Fork → Slots → World → Prop
  | .done, s, w => K s w
  | .pure i r, s, w => stepO P n ops ops[i]? true s w (forkE P n ops K r)
  | .alt i r q, s, w => stepO P n ops ops[i]? false s w (forkE P n ops K r) ∧ forkE P n ops K q s w
  | .no, _, _ => True
def forkK (P : Program) (n : Nat) (ops : Array Oper) (K : Slots → World → Prop) (r : Fork) (s : Slots) (d : Option Tmp) : Kont := fun v w => forkE P n ops K r (put n s d v) w
def forkV (P : Program) (n : Nat) (ops : Array Oper) (K : Slots → World → Prop) (r : Fork) (s : Slots) (d : Option Tmp) (w : World) : Value → Prop := fun v => forkE P n ops K r (put n s d v) w
def forkG (P : Program) (n : Nat) (ops : Array Oper) (K : Slots → World → Prop) (r : Fork) (b : Bool) (o : Oper) (s : Slots) (w : World) (g : Value) (want : Bool) : Prop := stepG P n b o (some (g, want)) s w (forkE P n ops K r)
def forkO (P : Program) (n : Nat) (ops : Array Oper) (K : Slots → World → Prop) (o : Option Oper) (b : Bool) (r : Fork) (s : Slots) (w : World) : Prop := stepO P n ops o b s w (forkE P n ops K r)
section
variable (P : Program) (n : Nat) (ops : Array Oper) (K : Slots → World → Prop) (r q : Fork) (s : Slots) (w : World) (i j : Nat) (d : Option Tmp) (o : Oper)
@[go_sem] theorem forkE_done : forkE P n ops K .done s w = K s w := propext Iff.rfl
@[go_sem] theorem forkE_pure : forkE P n ops K (.pure i r) s w = forkO P n ops K ops[i]? true r s w := propext Iff.rfl
@[go_sem] theorem forkE_alt : forkE P n ops K (.alt i r q) s w = (forkO P n ops K ops[i]? false r s w ∧ forkE P n ops K q s w) := propext Iff.rfl
@[go_sem] theorem forkE_no : forkE P n ops K .no s w = True := propext Iff.rfl
@[go_sem] theorem forkO_pure (op : Op) (ty : TypeId) (pos : String) (after : Array Edge) : forkO P n ops K (some ⟨d, op, ty, pos, after, none⟩) true r s w = pureE (fun w => opR P ⟨d, op, ty, pos, after, none⟩ s w) (forkV P n ops K r s d w) := propext Iff.rfl
@[go_sem] theorem forkO_loud (op : Op) (ty : TypeId) (pos : String) (after : Array Edge) : forkO P n ops K (some ⟨d, op, ty, pos, after, none⟩) false r s w = resE P (opR P ⟨d, op, ty, pos, after, none⟩ s w) (forkK P n ops K r s d) := propext Iff.rfl
@[go_sem] theorem forkO_guard (op : Op) (ty : TypeId) (pos : String) (after : Array Edge) (want b : Bool) : forkO P n ops K (some ⟨d, op, ty, pos, after, some (j, want)⟩) b r s w = forkG P n ops K r b ⟨d, op, ty, pos, after, none⟩ s w (guardS ops s j) want := propext Iff.rfl
@[go_sem] theorem forkG_true : forkG P n ops K r true o s w (.bool true) true = pureE (fun w => opR P o s w) (forkV P n ops K r s o.dst w) := propext Iff.rfl
@[go_sem] theorem forkG_false : forkG P n ops K r true o s w (.bool false) false = pureE (fun w => opR P o s w) (forkV P n ops K r s o.dst w) := propext Iff.rfl
@[go_sem] theorem forkG_ltrue : forkG P n ops K r false o s w (.bool true) true = resE P (opR P o s w) (forkK P n ops K r s o.dst) := propext Iff.rfl
@[go_sem] theorem forkG_lfalse : forkG P n ops K r false o s w (.bool false) false = resE P (opR P o s w) (forkK P n ops K r s o.dst) := propext Iff.rfl
@[go_sem] theorem forkG_skip1 (b : Bool) : forkG P n ops K r b o s w (.bool true) false = forkE P n ops K r (put n s o.dst undef) w := propext Iff.rfl
@[go_sem] theorem forkG_skip2 (b : Bool) : forkG P n ops K r b o s w (.bool false) true = forkE P n ops K r (put n s o.dst undef) w := propext Iff.rfl
@[go_sem] theorem forkG_skip3 (b want : Bool) : forkG P n ops K r b o s w undef want = forkE P n ops K r (put n s o.dst undef) w := propext Iff.rfl
@[go_sem] theorem forkG_dec (p : Prop) [Decidable p] (b want : Bool) : forkG P n ops K r b o s w (.bool (decide p)) want = forkG P n ops K r b o s w (.bool (natB (if p then 1 else 0))) want := by
  by_cases h : p <;> simp [h, natB]
@[go_sem] theorem forkG_ndec (p : Prop) [Decidable p] (b want : Bool) : forkG P n ops K r b o s w (.bool (!decide p)) want = forkG P n ops K r b o s w (.bool (natB (if p then 0 else 1))) want := by
  by_cases h : p <;> simp [h, natB]
@[go_sem] theorem forkK_eq (v : Value) : forkK P n ops K r s d v w = forkE P n ops K r (put n s d v) w := propext Iff.rfl
@[go_sem] theorem forkV_eq (v : Value) : forkV P n ops K r s d w v = forkE P n ops K r (put n s d v) w := propext Iff.rfl
end
theorem forkO_congr {P : Program} {n : Nat} {ops : Array Oper} {K : Slots → World → Prop} {o o' : Option Oper} {b : Bool} {r : Fork} {s : Slots} {w w' : World} (h : o = o') (hw : w = w') : forkO P n ops K o b r s w = forkO P n ops K o' b r s w' := by rw [h, hw]
theorem forkE_congr {P : Program} {n : Nat} {ops : Array Oper} {K : Slots → World → Prop} {r : Fork} {s : Slots} {w w' : World} (h : w = w') : forkE P n ops K r s w = forkE P n ops K r s w' := by rw [h]
theorem forkG_congr {P : Program} {n : Nat} {ops : Array Oper} {K : Slots → World → Prop} {r : Fork} {b : Bool} {o : Oper} {s : Slots} {w w' : World} {g g' : Value} {want : Bool} (h : g = g') (hw : w = w') : forkG P n ops K r b o s w g want = forkG P n ops K r b o s w' g' want := by rw [h, hw]
theorem forkK_congr {P : Program} {n : Nat} {ops : Array Oper} {K : Slots → World → Prop} {r : Fork} {s : Slots} {d : Option Tmp} {v v' : Value} {w w' : World} (h : v = v') (hw : w = w') : forkK P n ops K r s d v w = forkK P n ops K r s d v' w' := by rw [h, hw]
theorem forkV_congr {P : Program} {n : Nat} {ops : Array Oper} {K : Slots → World → Prop} {r : Fork} {s : Slots} {d : Option Tmp} {v v' : Value} {w : World} (h : v = v') : forkV P n ops K r s d w v = forkV P n ops K r s d w v' := by rw [h]
attribute [congr] forkO_congr forkE_congr forkG_congr forkK_congr forkV_congr
theorem forkE_sound {P : Program} {n : Nat} {ops : Array Oper} {K : Slots → World → Prop} {Q : Exit → Act → World → Prop} (hQ : ∀ e a w, Q e a w → e = .normal) (hK : ∀ s w a, Fits n ds s a → K s w → Q .normal a w) (hs : Region.noSelect ops = true) :
    ∀ (t : Fork) (f : Nat) (listed : Array Bool) (acc : List Nat) (s : Slots) (w : World) (a : Act), Fits n ds s a → forkB ops t f listed acc = true → forkE P n ops K t s w →
      (∀ j ∈ acc, ∃ g, f = g + 1 ∧ wpOpIn (fR ro) 0 P ops Q j (wpAnyIn (fR ro) 0 P .any ops Q g (listed.setIfInBounds j true)) a w) → wpAnyIn (fR ro) 0 P .any ops Q f listed a w := by
  intro t
  induction t with
  | done =>
    intro f listed acc s w a hf hB h _
    simp only [forkB, Bool.and_eq_true, beq_iff_eq] at hB
    obtain ⟨⟨rfl, hB⟩, _⟩ := hB
    exact ⟨by simpa using hB, hK s w a hf h⟩
  | pure i r ih =>
    intro f listed acc s w a hf hB h _
    cases f with
    | zero => simp [forkB] at hB
    | succ f =>
      simp only [forkB, Bool.and_eq_true] at hB
      unfold forkE at h
      cases hi : ops[i]? with
      | none => simp only [hi] at h; exact h.elim
      | some o =>
        simp only [hi] at h
        obtain ⟨v, hv, hk⟩ := stepO_yields hf h
        exact wpAny_first hQ hi (Region.noSelect_spec hs) f listed a w (Region.free_spec hi hB.1.1.2) (by simpa using hB.1.1.1) hv (ih _ _ _ _ _ _ (hf.put _ _) hB.2 hk (fun j hj => by cases hj))
  | alt i r q ih1 ih2 =>
    intro f listed acc s w a hf hB h hacc
    cases f with
    | zero => simp [forkB] at hB
    | succ f =>
      simp only [forkB, Bool.and_eq_true] at hB
      unfold forkE at h
      refine ih2 _ _ _ _ _ _ hf hB.2 h.2 fun j hj => ?_
      rcases List.mem_cons.1 hj with rfl | hj
      · refine ⟨f, rfl, ?_⟩
        cases hi : ops[j]? with
        | none => simp only [hi] at h; exact h.1.elim
        | some o =>
          simp only [hi] at h
          exact stepO_runs hi hf h.1 fun s' w' a' hf' hk => ih1 _ _ _ _ _ _ hf' hB.1 hk (fun j hj => by cases hj)
      · exact hacc j hj
  | no =>
    intro f listed acc s w a hf hB h hacc
    cases f with
    | zero => simp [forkB] at hB
    | succ f =>
      simp only [forkB, Bool.and_eq_true, List.all_eq_true, Bool.not_eq_true'] at hB
      refine ⟨fun h0 => (by rw [h0] at hB; simp at hB), fun j hj => ?_⟩
      obtain ⟨g, hg, hw⟩ := hacc j (by simpa using hB.2 j hj)
      obtain rfl : f = g := by omega
      exact hw
theorem W_fork {P : Program} {n id : Nat} {l : List Oper} {s : Slots} {w : World} {Q : Exit → Slots → World → Prop} (t : Fork) (hm : P.follows .mixedOrders = true) (hB : (Region.noSelect l.toArray && forkB l.toArray t l.length (Array.replicate l.length false) []) = true)
    (K : Slots → World → Prop) (h : forkE P n l.toArray K t s w.drew) (hQ : ∀ s w, K s w → Q .normal s w) : W P n (.region id l.toArray true) s w Q := by
  simp only [Bool.and_eq_true] at hB
  intro ro ds a hf
  have h1 : (Code.region id l.toArray true).wpIn (fR ro) 0 P (fun e a' w' => e = .normal ∧ ∃ s', Fits n ds s' a' ∧ K s' w') a w := by
    refine wpIn_region_any hm ?_
    have h2 := forkE_sound (ro := ro) (Q := fun e a' w' => e = .normal ∧ ∃ s', Fits n ds s' a' ∧ K s' w') (fun e a w h => h.1) (fun s' w' a' hf' hk => ⟨rfl, s', hf', hk⟩) hB.1 t l.length _ [] s w.drew a hf hB.2 h (fun j hj => by cases hj)
    simpa using h2
  exact wpIn_mono h1 fun e a' w' ⟨he, s', hf', hq⟩ => by subst he; exact ⟨s', hf', hQ _ _ hq⟩
end Go.Proofs.YtmcbcoafodmbjaaGreatDoor

/-
  A gate as it lies in the heap, and what its methods do to it.
-/
namespace Go.Proofs.YtmcbcoafodmbjaaGreatDoor
open Go.RowKit
set_option linter.unusedVariables false
set_option linter.unusedSimpArgs false
set_option maxRecDepth 10000
structure GSt where
  many : Int
  large : Int
  own : Int
  drops : Int
structure GCfg where
  large : Int
  each : Int
  own : Int
  many : Int
  size : Int
structure GIn where
  v : Nat
  large : Int
  own : Int
def GIn.val (x : GIn) : Value := .agg #[.int .i64 x.v, .int .i64 x.large, .int .i64 x.own]
def lv (l : List (Int × GIn)) : List (Int × Value) := l.map fun x => (x.1, x.2.val)
structure GS where
  n : Nat
  cap : Nat
  cfg : GCfg
  share : List Int
  l : List (Int × GIn)
  last : Int
  free : Int
  st : Nat → GSt
def GS.setSt (S : GS) (v : Nat) (x : GSt) : GS := { S with st := fun u => if u = v then x else S.st u }
def Wst (w : World) (b n : Nat) (st : Nat → GSt) : Prop := ∃ cs, Blk w b 168 cs ∧ 4 * n ≤ cs.size ∧
  ∀ u, u < n → cs[u * 4]? = some (.int .i64 (st u).many) ∧ cs[u * 4 + 1]? = some (.int .i64 (st u).large) ∧ cs[u * 4 + 2]? = some (.int .i64 (st u).own) ∧ cs[u * 4 + 3]? = some (.int .i64 (st u).drops)
def gcells (S : GS) (sv : Value) (m b : Nat) : Array Value :=
  #[.int .i64 S.cfg.large, .int .i64 S.cfg.each, .int .i64 S.cfg.own, .int .i64 S.cfg.many, .int .i64 S.cfg.size, sv, .map (some m), .int .i64 S.last, .int .i64 S.free, .slice (some ⟨b, 0, none⟩) S.n S.cap]
def GateIn (w : World) (B g : Nat) (S : GS) : Prop := ∃ sv m b, B ≤ g ∧ B ≤ m ∧ B ≤ b ∧ Blk w g 210 (gcells S sv m b) ∧ w.ownsRow B 2 1 sv S.n (ints .i64 S.share) ∧ Mp w m .i64 (lv S.l) ∧ Wst w b S.n S.st ∧ S.n ≤ 32
theorem Blk_ne {w : World} {g h : Nat} {t u : TypeId} {cs ds : Array Value} (a : Blk w g t cs) (b : Blk w h u ds) (hn : t ≠ u) : g ≠ h := by
  rintro rfl
  unfold Blk at a b
  rw [a] at b
  injection b with b
  injection b with _ b
  exact hn b
theorem Blk_ne_map {w : World} {g r : Nat} {t : TypeId} {cs : Array Value} {k : IntKind} {L : List (Int × Value)} (a : Blk w g t cs) (b : Mp w r k L) : g ≠ r := by
  rintro rfl
  obtain ⟨es, c, h, _⟩ := b
  unfold Blk at a
  rw [a] at h
  cases h
theorem und61 : Tryz.prog.underlying 207 = some (.map 2 394) := by kernel_rfl
@[go_sem] theorem eql_map {w : World} (r : Nat) : (binOp .eql 207 (.map (some r)) (.map none)).run Tryz.prog w = .ok (.bool false) w := by
  unfold binOp Op.equal
  rw [show Op.maxDepth = 9999 + 1 from rfl]
  unfold Op.equalIn
  simp [run_underlying und61, Result.andThen]
theorem own_far {w w' : World} {B e size n : Nat} {v : Value} {xs : List Value} (h : w.ownsRow B e size v n xs) (hk : ∀ (k : Nat) (cs : Array Value), w.heap[k]? = some (Obj.cells cs e (0, 0)) → w'.heap[k]? = w.heap[k]?) : w'.ownsRow B e size v n xs := by
  refine ⟨h.1, ?_⟩
  rcases h.2 with hn | ⟨g, cap, cur, hv, hb, hg, rest⟩
  · exact .inl hn
  · exact .inr ⟨g, cap, cur, hv, hb, (hk _ _ hg).trans hg, rest⟩
theorem Mp_far {w w' : World} {r : Nat} {k : IntKind} {L : List (Int × Value)} (h : Mp w r k L) (hk : w'.heap[r]? = w.heap[r]?) : Mp w' r k L := by
  obtain ⟨es, c, h1, h2⟩ := h
  exact ⟨es, c, hk.trans h1, h2⟩
theorem Blk_farh {w w' : World} {r : Nat} {t : TypeId} {cs : Array Value} (h : Blk w r t cs) (hk : w'.heap[r]? = w.heap[r]?) : Blk w' r t cs := hk.trans h
theorem none_runs (B g : Nat) (S : GS) (w : World) (h : GateIn w B g S) : Runs Tryz.prog 155 #[.pointer (some ⟨g, 0, none⟩)] w (.bool false) w := by
  obtain ⟨sv, m, b, h1, h2, h3, hg, hsh, hmp, hst, hn⟩ := h
  have hcell := hg.cell
  have hlt := hg.lt
  simp only [gcells] at hcell
  refine runs_of_callE ?_
  refine calls_E Tryz.func155 rfl rfl rfl (Nat.le_of_ble_eq_true rfl) ?_
  simp [go_sem, IntWalk.iteOmega, IntWalk.toNatUp, hcell]
theorem noinit_none : Tryz.prog.inits.idxOf? 155 = none := by kernel_rfl
def GS.count (S : GS) (v : Nat) (many large own : Int) : GS :=
  { S with free := IntKind.i64.wrap (S.free - large), st := fun u => if u = v then { many := IntKind.i64.wrap ((S.st v).many + many), large := IntKind.i64.wrap ((S.st v).large + large), own := IntKind.i64.wrap ((S.st v).own + own), drops := (S.st v).drops } else S.st u }
theorem GateIn.grow {w w' : World} {B g : Nat} {S : GS} (h : GateIn w B g S) (hb : Below w.heap.size w w') : GateIn w' B g S := by
  obtain ⟨sv, m, b, h1, h2, h3, hg, hsh, hmp, ⟨cs, hst, hr⟩, hn⟩ := h
  exact ⟨sv, m, b, h1, h2, h3, hg.keep hb, own_far hsh fun k cs hk => hb.block _ (Blk.lt (t := 2) hk), hmp.keep hb, ⟨cs, hst.keep hb, hr⟩, hn⟩
theorem Below.mapPut {B : Nat} {a w : World} (h : Below B a w) {r : Nat} (hr : B ≤ r) (k v : Value) (d : TypeDesc) : Below B a (mapPut w r k v d) := by
  refine ⟨?_, ?_, ?_, by rw [mapPut_size]; exact h.size, fun j hj => by rw [mapPut_far _ _ _ _ _ (by omega)]; exact h.block j hj⟩
  · rw [← h.os]; unfold Go.Proofs.YtmcbcoafodmbjaaGreatDoor.mapPut; split
    · split <;> rfl
    · rfl
  · rw [← h.tape]; unfold Go.Proofs.YtmcbcoafodmbjaaGreatDoor.mapPut; split
    · split <;> rfl
    · rfl
  · rw [← h.output]; unfold Go.Proofs.YtmcbcoafodmbjaaGreatDoor.mapPut; split
    · split <;> rfl
    · rfl
theorem Below.mapDel {B : Nat} {a w : World} (h : Below B a w) {r : Nat} (hr : B ≤ r) (k : Value) (d : TypeDesc) : Below B a (mapDel w r k d) := by
  refine ⟨?_, ?_, ?_, by rw [mapDel_size]; exact h.size, fun j hj => by rw [mapDel_far _ _ _ _ (by omega)]; exact h.block j hj⟩
  · rw [← h.os]; unfold Go.Proofs.YtmcbcoafodmbjaaGreatDoor.mapDel; split
    · split <;> rfl
    · rfl
  · rw [← h.tape]; unfold Go.Proofs.YtmcbcoafodmbjaaGreatDoor.mapDel; split
    · split <;> rfl
    · rfl
  · rw [← h.output]; unfold Go.Proofs.YtmcbcoafodmbjaaGreatDoor.mapDel; split
    · split <;> rfl
    · rfl
end Go.Proofs.YtmcbcoafodmbjaaGreatDoor

/-
  gate.Enter, by what it does to a gate.
-/
namespace Go.Proofs.YtmcbcoafodmbjaaGreatDoor
open Go.RowKit
set_option linter.unusedVariables false
set_option linter.unusedSimpArgs false
set_option maxRecDepth 10000
def GS.drop (S : GS) (v : Nat) : GS := S.setSt v { S.st v with drops := IntKind.i64.wrap ((S.st v).drops + 1) }
def GS.room (S : GS) (v : Nat) (size : Int) : Int := min (min size S.free) (IntKind.i64.wrap (S.cfg.each - (S.st v).large))
def GS.rest (S : GS) (v : Nat) (size : Int) : Int := IntKind.i64.wrap (size - S.room v size)
def GS.next (S : GS) : Int := IntKind.i64.wrap (S.last + 1)
def GS.full (S : GS) (v : Nat) (size : Int) : Bool := decide (S.cfg.many ≤ (S.st v).many ∨ IntKind.i64.wrap (S.share.getD v 0 - (S.st v).own) < S.rest v size)
def GS.lets (S : GS) (v : Nat) (size : Int) : GS :=
  ({ S with last := S.next, l := S.l ++ [(S.next, ⟨v, S.room v size, S.rest v size⟩)] } : GS).count v 1 (S.room v size) (S.rest v size)
def GS.enter (S : GS) (v size : Int) : GS × Int × Int :=
  if v < 0 ∨ (S.n : Int) ≤ v ∨ size < 0 then (S, 0, 1)
  else if S.cfg.size < size then (S.drop v.toNat, 0, 3)
  else if S.full v.toNat size then (S.drop v.toNat, 0, 6)
  else (S.lets v.toNat size, S.next, 0)
end Go.Proofs.YtmcbcoafodmbjaaGreatDoor

/-
  gate.Check and the document's; gate.New.
-/
namespace Go.Proofs.YtmcbcoafodmbjaaGreatDoor
open Go.RowKit
set_option linter.unusedVariables false
set_option linter.unusedSimpArgs false
set_option maxRecDepth 10000
def cfgOk (c : GCfg) : Prop := 0 ≤ c.large ∧ c.large ≤ 1073741824 ∧ 0 ≤ c.own ∧ c.own ≤ 1073741824 ∧ 0 ≤ c.size ∧ c.size ≤ 1073741824 ∧ 0 ≤ c.each ∧ c.each ≤ c.large ∧ 1 ≤ c.many ∧ c.many ≤ 65536
instance (c : GCfg) : Decidable (cfgOk c) := by unfold cfgOk; infer_instance
def cfgE (c : GCfg) : Int := if cfgOk c then 0 else 160
def GCfg.val (c : GCfg) : Value := .agg #[.int .i64 c.large, .int .i64 c.each, .int .i64 c.own, .int .i64 c.many, .int .i64 c.size]
set_option maxHeartbeats 3200000 in
theorem check_any (c : GCfg) (w : World) : callE Tryz.prog 36 #[c.val] w fun u w' => u = .int .i64 (cfgE c) ∧ Below w.heap.size w w' := by
  unfold GCfg.val
  refine calls_E Tryz.func36 rfl rfl rfl (Nat.le_of_ble_eq_true rfl) ?_
  by_cases a0 : 0 ≤ c.large ∧ c.large ≤ 1073741824
  rotate_left
  · have he : cfgE c = 160 := if_neg (by unfold cfgOk; omega)
    simp [go_sem, IntWalk.iteOmega, IntWalk.toNatUp, a0, he]
    exact ext_alloc _ _
  by_cases a1 : 0 ≤ c.own ∧ c.own ≤ 1073741824
  rotate_left
  · have he : cfgE c = 160 := if_neg (by unfold cfgOk; omega)
    simp [go_sem, IntWalk.iteOmega, IntWalk.toNatUp, a0, a1, he]
    exact ext_alloc _ _
  by_cases a2 : 0 ≤ c.size ∧ c.size ≤ 1073741824
  rotate_left
  · have he : cfgE c = 160 := if_neg (by unfold cfgOk; omega)
    simp [go_sem, IntWalk.iteOmega, IntWalk.toNatUp, a0, a1, a2, he]
    exact ext_alloc _ _
  by_cases a3 : c.each < 0
  · have he : cfgE c = 160 := if_neg (by unfold cfgOk; omega)
    simp [go_sem, IntWalk.iteOmega, IntWalk.toNatUp, a0, a1, a2, a3, he]
    exact ext_alloc _ _
  by_cases a4 : c.large < c.each
  · have he : cfgE c = 160 := if_neg (by unfold cfgOk; omega)
    simp [go_sem, IntWalk.iteOmega, IntWalk.toNatUp, a0, a1, a2, a3, a4, he]
    exact ext_alloc _ _
  by_cases a5 : c.many < 1
  · have he : cfgE c = 160 := if_neg (by unfold cfgOk; omega)
    simp [go_sem, IntWalk.iteOmega, IntWalk.toNatUp, a0, a1, a2, a3, a4, a5, he]
    exact ext_alloc _ _
  by_cases a6 : 65536 < c.many
  · have he : cfgE c = 160 := if_neg (by unfold cfgOk; omega)
    simp [go_sem, IntWalk.iteOmega, IntWalk.toNatUp, a0, a1, a2, a3, a4, a5, a6, he]
    exact ext_alloc _ _
  have he : cfgE c = 0 := if_pos (by unfold cfgOk; omega)
  simp [go_sem, IntWalk.iteOmega, IntWalk.toNatUp, a0, a1, a2, a3, a4, a5, a6, he]
  exact ext_alloc _ _
set_option maxHeartbeats 6400000 in
theorem rcheck_any (c : GCfg) (w : World) : callE Tryz.prog 40 #[c.val] w fun u w' => u = .int .i64 (cfgE c) ∧ Below w.heap.size w w' := by
  unfold GCfg.val
  refine calls_E Tryz.func40 rfl rfl rfl (Nat.le_of_ble_eq_true rfl) ?_
  by_cases a0 : c.large < 0
  · have he : cfgE c = 160 := if_neg (by unfold cfgOk; omega)
    simp [go_sem, IntWalk.iteOmega, IntWalk.toNatUp, a0, he]
    exact ext_alloc _ _
  by_cases a1 : 1073741824 < c.large
  · have he : cfgE c = 160 := if_neg (by unfold cfgOk; omega)
    simp [go_sem, IntWalk.iteOmega, IntWalk.toNatUp, a0, a1, he]
    exact ext_alloc _ _
  by_cases a2 : c.own < 0
  · have he : cfgE c = 160 := if_neg (by unfold cfgOk; omega)
    simp [go_sem, IntWalk.iteOmega, IntWalk.toNatUp, a0, a1, a2, he]
    exact ext_alloc _ _
  by_cases a3 : 1073741824 < c.own
  · have he : cfgE c = 160 := if_neg (by unfold cfgOk; omega)
    simp [go_sem, IntWalk.iteOmega, IntWalk.toNatUp, a0, a1, a2, a3, he]
    exact ext_alloc _ _
  by_cases a4 : c.size < 0
  · have he : cfgE c = 160 := if_neg (by unfold cfgOk; omega)
    simp [go_sem, IntWalk.iteOmega, IntWalk.toNatUp, a0, a1, a2, a3, a4, he]
    exact ext_alloc _ _
  by_cases a5 : 1073741824 < c.size
  · have he : cfgE c = 160 := if_neg (by unfold cfgOk; omega)
    simp [go_sem, IntWalk.iteOmega, IntWalk.toNatUp, a0, a1, a2, a3, a4, a5, he]
    exact ext_alloc _ _
  by_cases a6 : c.each < 0
  · have he : cfgE c = 160 := if_neg (by unfold cfgOk; omega)
    simp [go_sem, IntWalk.iteOmega, IntWalk.toNatUp, a0, a1, a2, a3, a4, a5, a6, he]
    exact ext_alloc _ _
  by_cases a7 : c.large < c.each
  · have he : cfgE c = 160 := if_neg (by unfold cfgOk; omega)
    simp [go_sem, IntWalk.iteOmega, IntWalk.toNatUp, a0, a1, a2, a3, a4, a5, a6, a7, he]
    exact ext_alloc _ _
  by_cases a8 : c.many < 1
  · have he : cfgE c = 160 := if_neg (by unfold cfgOk; omega)
    simp [go_sem, IntWalk.iteOmega, IntWalk.toNatUp, a0, a1, a2, a3, a4, a5, a6, a7, a8, he]
    exact ext_alloc _ _
  by_cases a9 : 65536 < c.many
  · have he : cfgE c = 160 := if_neg (by unfold cfgOk; omega)
    simp [go_sem, IntWalk.iteOmega, IntWalk.toNatUp, a0, a1, a2, a3, a4, a5, a6, a7, a8, a9, he]
    exact ext_alloc _ _
  have he : cfgE c = 0 := if_pos (by unfold cfgOk; omega)
  simp [go_sem, IntWalk.iteOmega, IntWalk.toNatUp, a0, a1, a2, a3, a4, a5, a6, a7, a8, a9, he]
  exact ext_alloc _ _
end Go.Proofs.YtmcbcoafodmbjaaGreatDoor
