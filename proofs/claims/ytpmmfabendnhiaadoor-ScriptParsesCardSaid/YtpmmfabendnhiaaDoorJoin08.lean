/-
  Texts joined: SNum, PMove, PLine.
-/
import Derived.Test.YtpmmfabendnhiaaDoorJoin07
import Derived.Shelf.Strings.OnBuilder
namespace Go.Proofs.YtpmmfabendnhiaaDoor
open Go.RowKit
set_option linter.unusedVariables false
set_option linter.unusedSimpArgs false
set_option maxRecDepth 10000
theorem digs_take {l : List UInt8} (h : digs l = true) (i : Nat) : digs (l.take i) = true := by
  unfold digs at *
  rw [List.all_eq_true] at *
  exact fun x hx => h x (List.mem_of_mem_take hx)
theorem dval_take (l : List UInt8) (i : Nat) : dval (l.take i) ≤ dval l := by
  have := dval_mono (l.take i) (l.drop i)
  rwa [List.take_append_drop] at this
/-- what a word's number comes to, as a pair -/
def numR (l : List UInt8) : Value := match numV l with | some n => .tuple #[.int .u64 n, .int .i64 0] | none => .tuple #[.int .u64 0, .int .i64 8]
theorem numR_none {l : List UInt8} (h : numV l = none) : numR l = .tuple #[.int .u64 0, .int .i64 8] := by unfold numR; rw [h]
theorem numV_bad {l : List UInt8} (h : ¬ (digs l = true ∧ dval l ≤ 18446744073709551615)) : numV l = none := by
  unfold numV
  rw [if_neg h]
  split <;> rfl
theorem head_str {l : List UInt8} (h : 0 < l.length) : l.head? = some l[0] := by cases l with | nil => simp at h | cons a l => rfl
theorem ifwrap {n : Int} (h : 0 ≤ n ∧ n ≤ 18446744073709551615) : IntKind.u64.wrap n = n := by rw [wrap_u64_if, if_pos h]
set_option maxHeartbeats 6400000 in
theorem number_any (l : List UInt8) (hl : l.length ≤ 50000) (w : World) : callE Tryd.prog 28 #[.string (strOf l)] w fun v w' => v = numR l ∧ Below w.heap.size w w' := by
  have hr := fun w => run_range_str (P := Tryd.prog) (w := w) undS (strOf l)
  refine calls_E Tryd.func28 rfl rfl rfl (Nat.le_of_ble_eq_true rfl) ?_
  by_cases he : l = []
  · subst he
    have e1 : (strOf []).toList.isEmpty = true := by rw [str_nil]; rfl
    simp [go_sem, IntWalk.iteOmega, IntWalk.toNatUp, e1]
    exact ⟨rfl, Below.refl _ _⟩
  · have hpos : 0 < l.length := List.length_pos_iff.2 he
    have e1 : (strOf l).toList.isEmpty = false := by
      rw [List.isEmpty_eq_false_iff]
      exact fun h => he ((str_ext (b := [])).1 (h.trans str_nil.symm))
    have x0 : ∀ w, (Instr.index 9 (.string (strOf l)) (.int .i64 0)).run Tryd.prog w = .ok (.int .u8 ((l[0]).toNat : Int)) w := fun w => run_index_str (P := Tryd.prog) (w := w) Tryd.underlying9 l 0 hpos
    have hhd := head_str hpos
    by_cases hln : 1 < l.length
    case' pos =>
      have q1 : (1 : Int) < l.length := by omega
      by_cases h48 : l[0] = 48
      case' pos =>
        have q2 : ((l[0]).toNat : Int) = 48 := by rw [h48]; rfl
        have hn : numV l = none := by unfold numV; rw [if_pos (.inr ⟨hln, by rw [hhd, h48]⟩)]
        simp [go_sem, IntWalk.iteOmega, IntWalk.toNatUp, e1, strOf_size, q1, x0, q2]
        exact ⟨(numR_none hn).symm, Below.refl _ _⟩
      have hfirst : ¬ (l = [] ∨ (1 < l.length ∧ l.head? = some 48)) := by
        rintro (h | ⟨_, h⟩)
        · exact he h
        · rw [hhd] at h; exact h48 (Option.some.inj h)
      have q2 : (((l[0]).toNat : Int) == 48) = false := beq_eq_false_iff_ne.2 fun h => h48 (UInt8.toNat_inj.1 (Int.ofNat.inj h))
      simp [go_sem, IntWalk.iteOmega, IntWalk.toNatUp, e1, strOf_size, q1, x0, q2, hr]
    case' neg =>
      have q1 : ¬ (1 : Int) < l.length := by omega
      have hfirst : ¬ (l = [] ∨ (1 < l.length ∧ l.head? = some 48)) := by
        rintro (h | ⟨h, _⟩)
        · exact he h
        · exact hln h
      simp [go_sem, IntWalk.iteOmega, IntWalk.toNatUp, e1, strOf_size, q1, x0, hr]
    all_goals
      refine W_loop (fun st wr => ∃ i : Nat, i ≤ l.length ∧ st 21 = .pointer (some ⟨w.heap.size, 0, none⟩) ∧ st 4 = .int .u64 (dval (l.take i)) ∧ digs (l.take i) = true ∧ dval (l.take i) ≤ 18446744073709551615 ∧ It wr w.heap.size (strOf l) i ∧ Below w.heap.size w wr) (fun _ wr => itLeft w.heap.size l.length wr) ?_ ?_
      · exact ⟨0, by omega, by simp [go_sem], by simp [go_sem, dval], rfl, by simp [dval], It_made w _, ext_alloc _ _⟩
      · rintro st wr ⟨i, hi, e21, e4, hd, hv, hit, hbw⟩
        have hleft := itLeft_eq (n := l.length) hit
        by_cases hlt : i < l.length
        · have hlt' : i < (strOf l).size := by rw [strOf_size]; exact hlt
          have hg := get_eq l i hlt
          have hx := run_next_str (P := Tryd.prog) hit
          have htk : l.take (i + 1) = l.take i ++ [l[i]] := take_digs hlt
          have hds := digs_snoc (l.take i) l[i]
          have hdv := dval_snoc (l.take i) l[i]
          rw [← htk] at hds hdv
          have hdl := digs_take (l := l)
          have hvl := dval_take l (i + 1)
          have hbad : ¬ (48 ≤ (l[i]).toNat ∧ (l[i]).toNat ≤ 57) → numV l = none := fun h => by
            refine numV_bad fun h2 => ?_
            have := hdl h2.1 (i + 1)
            rw [hds, hd] at this
            simp at this
            omega
          by_cases hlo : (l[i]).toNat < 128
          · have hdec := rune_low (s := strOf l) (i := i) (by rw [hg]; exact hlo)
            rw [hg] at hdec
            rw [hdec] at hx
            simp only at hx
            generalize hV : dval (l.take i) = V at *
            generalize hcc : (l[i]).toNat = c at *
            by_cases q3 : c < 48
            · have q3' : (c : Int) < 48 := by omega
              have hn := numR_none (hbad (by omega))
              simp [go_sem, IntWalk.iteOmega, IntWalk.toNatUp, e21, e4, hx, hlt', q3', hn]
              exact Below.itPut hbw (Nat.le_refl _) _
            · by_cases q4 : 57 < c
              · have q3' : ¬ (c : Int) < 48 := by omega
                have q4' : (57 : Int) < c := by omega
                have hn := numR_none (hbad (by omega))
                simp [go_sem, IntWalk.iteOmega, IntWalk.toNatUp, e21, e4, hx, hlt', q3', q4', hn]
                exact Below.itPut hbw (Nat.le_refl _) _
              · obtain ⟨d, rfl⟩ : ∃ d : Nat, c = 48 + d := ⟨c - 48, by omega⟩
                have q3' : ¬ 48 + (d : Int) < 48 := by omega
                have q4' : ¬ (57 : Int) < 48 + (d : Int) := by omega
                have hQ : ∃ Q : Nat, (18446744073709551615 - (d : Int)).tdiv 10 = Q := ⟨(18446744073709551615 - d) / 10, by rw [Int.tdiv_eq_ediv_of_nonneg (by omega)]; omega⟩
                obtain ⟨Q, hQ⟩ := hQ
                have hQ2 : 10 * Q ≤ 18446744073709551615 - d ∧ 18446744073709551615 - d < 10 * Q + 10 := by
                  rw [Int.tdiv_eq_ediv_of_nonneg (by omega)] at hQ; omega
                have f0 : IntKind.i32.wrap (48 + (d : Int) - 48) = d := (IntWalk.i32_in _ (by omega)).trans (by omega)
                have f1 : IntKind.u64.wrap (d : Int) = d := ifwrap (by omega)
                have f3 : IntKind.u64.wrap (18446744073709551615 - (d : Int)) = 18446744073709551615 - d := ifwrap (by omega)
                have f4 : IntKind.u64.wrap (Q : Int) = Q := ifwrap (by omega)
                have hdv2 : dval (l.take (i + 1)) = 10 * V + d := by rw [hdv]; omega
                by_cases q5 : Q < V
                · have q5' : (Q : Int) < V := by omega
                  have hn := numR_none (numV_bad (l := l) (fun h => by omega))
                  simp [go_sem, IntWalk.iteOmega, IntWalk.toNatUp, e21, e4, hx, hlt', q3', q4', f0, f1, f3, hQ, f4, q5', hn]
                  exact Below.itPut hbw (Nat.le_refl _) _
                · have q5' : ¬ (Q : Int) < V := by omega
                  have f5 : IntKind.u64.wrap (10 * (V : Int)) = 10 * V := ifwrap (by omega)
                  have f6 : IntKind.u64.wrap (10 * (V : Int) + d) = 10 * V + d := ifwrap (by omega)
                  simp [go_sem, IntWalk.iteOmega, IntWalk.toNatUp, e21, e4, hx, hlt', q3', q4', f0, f1, f3, hQ, f4, q5', f5, f6]
                  have hit2 := hit.put (i + 1)
                  refine roundEnd.mk ⟨i + 1, by omega, by simp [go_sem, e21], ?_, ?_, by omega, hit2, Below.itPut hbw (Nat.le_refl _) _⟩ ?_
                  · rw [hdv2]; simp [go_sem]
                  · rw [hds, hd]; simp; omega
                  · rw [itLeft_eq hit2, hleft]; omega
          · have hhi := rune_high (s := strOf l) (i := i) (by rw [hg]; exact hlo)
            have hn := numR_none (hbad (by omega))
            generalize Utf8.decode (strOf l) i = D at *
            obtain ⟨rn, wd⟩ := D
            simp only at hx hhi
            have q3' : ¬ (rn : Int) < 48 := by omega
            have q4' : (57 : Int) < rn := by omega
            simp [go_sem, IntWalk.iteOmega, IntWalk.toNatUp, e21, e4, hx, hlt', q3', q4', hn]
            exact Below.itPut hbw (Nat.le_refl _) _
        · obtain rfl : i = l.length := by omega
          have hx := run_next_end (P := Tryd.prog) hit
          have hlt' : ¬ l.length < (strOf l).size := by rw [strOf_size]; omega
          rw [List.take_of_length_le (Nat.le_refl _)] at e4 hd hv
          have hn : numR l = .tuple #[.int .u64 (dval l), .int .i64 0] := by
            unfold numR numV; rw [if_neg hfirst, if_pos ⟨hd, hv⟩]
          simp [go_sem, IntWalk.iteOmega, IntWalk.toNatUp, e21, e4, hx, hlt', hn]
          exact hbw
end Go.Proofs.YtpmmfabendnhiaaDoor
namespace Go.Proofs.YtpmmfabendnhiaaDoor
open Go.Lib (decDigits)
set_option linter.unusedVariables false
/-- A kind's first word. -/
def nameK : Nat → List UInt8
  | 1 => [115, 116, 97, 114, 116]
  | 2 => [114, 117, 110]
  | 3 => [116, 105, 99, 107]
  | 4 => [98, 117, 105, 108, 100]
  | 5 => [100, 101, 108, 105, 118, 101, 114]
  | 6 => [100, 114, 111, 112]
  | 7 => [116, 119, 105, 99, 101]
  | 8 => [102, 111, 114, 103, 101]
  | 9 => [97, 114, 109]
  | 10 => [99, 114, 97, 115, 104]
  | 11 => [114, 101, 115, 116, 97, 114, 116]
  | _ => []
/-- Which fields stand behind it: a node, a receiver, a number, bytes, draws. -/
def hN (k : Nat) : Bool := k == 1 || k == 2 || k == 3 || k == 4 || k == 8 || k == 9 || k == 10 || k == 11
def hT (k : Nat) : Bool := k == 8
def hK (k : Nat) : Bool := k == 3 || k == 5 || k == 6 || k == 7 || k == 9 || k == 11
def hB (k : Nat) : Bool := k == 4 || k == 8
def hD (k : Nat) : Bool := k == 1 || k == 2 || k == 3 || k == 4 || k == 5
structure Mv where
  kind : Nat
  node : Nat
  rcv : Nat
  n : Nat
  bytes : List UInt8
  draws : List Nat
abbrev Wds := List (List UInt8)
def maxStake : Nat := 4611686018427387903
def takeNum (b : Bool) (ws : Wds) : Option (Nat × Wds) :=
  match b, ws with
  | false, ws => some (0, ws)
  | true, [] => none
  | true, w :: r => match numV w with
    | some n => if n ≤ maxStake then some (n, r) else none
    | none => none
def takeBytes (b : Bool) (ws : Wds) : Option (List UInt8 × Wds) :=
  match b, ws with
  | false, ws => some ([], ws)
  | true, [] => none
  | true, w :: r => match bytesV w with
    | some l => some (l, r)
    | none => none
def numsV : Wds → Option (List Nat)
  | [] => some []
  | w :: r => match numV w, numsV r with
    | some n, some l => some (n :: l)
    | _, _ => none
def takeDraws (b : Bool) (ws : Wds) : Option (List Nat) :=
  match b, ws with
  | true, ws => numsV ws
  | false, [] => some []
  | false, _ :: _ => none
def readV (k : Nat) (ws : Wds) : Option Mv :=
  match takeNum (hN k) ws with
  | none => none
  | some (a, w1) => match takeNum (hT k) w1 with
    | none => none
    | some (t, w2) => match takeNum (hK k) w2 with
      | none => none
      | some (n, w3) => match takeBytes (hB k) w3 with
        | none => none
        | some (b, w4) => match takeDraws (hD k) w4 with
          | none => none
          | some d => some ⟨k, a, t, n, b, d⟩
def numW (b : Bool) (n : Nat) : Wds := if b then [decDigits n] else []
def bytesW (b : Bool) (l : List UInt8) : Wds := if b then [hexV l] else []
def renderV (m : Mv) : Wds := numW (hN m.kind) m.node ++ (numW (hT m.kind) m.rcv ++ (numW (hK m.kind) m.n ++ (bytesW (hB m.kind) m.bytes ++ m.draws.map decDigits)))
/-! There and back, word by word. -/
theorem dec_zero : decDigits 0 = [48] := by rw [decDigits, dif_pos (by omega)]; rfl
theorem digs_back {w : List UInt8} {n : Nat} (h : numV w = some n) : decDigits n = w := by
  unfold numV at h
  split at h
  · cases h
  · rename_i h1
    split at h
    · rename_i h2
      cases h
      cases w with
      | nil => exact absurd (Or.inl rfl) h1
      | cons c r =>
        by_cases hc : c = 48
        · subst hc
          have hr : r = [] := by
            cases r with
            | nil => rfl
            | cons d r => exact absurd (Or.inr ⟨by simp, rfl⟩) h1
          subst hr
          show decDigits (dval [48]) = [48]
          rw [show dval [48] = 0 from rfl, dec_zero]
        · exact (dec_back _ (c :: r) rfl h2.1 ⟨c, r, rfl, fun e => hc (UInt8.toNat_inj.1 e)⟩).1
    · cases h
theorem digs_fwd (n : Nat) (h : n ≤ 18446744073709551615) : numV (decDigits n) = some n := by
  obtain ⟨h1, h2, h3, h4⟩ := dec_props n
  unfold numV
  rw [if_neg, if_pos ⟨h1, by rw [h2]; exact h⟩, h2]
  rintro (e | ⟨e1, e2⟩)
  · exact h3 e
  · by_cases hn : 1 ≤ n
    · obtain ⟨c, r, e3, e4⟩ := h4 hn
      rw [e3] at e2
      simp at e2
      subst e2
      exact e4 rfl
    · obtain rfl : n = 0 := by omega
      rw [dec_zero] at e1
      simp at e1
theorem undig_dig : ∀ n : Fin 16, undig (dig16 n.val).toNat = n.val := by decide
theorem dig_undig : ∀ c : Fin 256, undig c.val < 16 → dig16 (undig c.val) = UInt8.ofNat c.val := by decide +kernel
def hxs : List UInt8 → List UInt8
  | [] => []
  | c :: r => dig16 (c.toNat / 16) :: dig16 (c.toNat % 16) :: hxs r
theorem hxs_eq (l : List UInt8) : (l.flatMap fun c => [dig16 (c.toNat / 16), dig16 (c.toNat % 16)]) = hxs l := by
  induction l with
  | nil => rfl
  | cons c r ih => rw [List.flatMap_cons, ih]; rfl
theorem hex_pk : ∀ (w : List UInt8), w.length % 2 = 0 → hexOk w = true → hxs (pk w) = w
  | [], _, _ => rfl
  | [_], h, _ => by simp at h
  | a :: b :: r, h, hk => by
    have hk' : undig a.toNat < 16 ∧ undig b.toNat < 16 ∧ hexOk r = true := by
      unfold hexOk at hk ⊢
      simp only [List.all_cons, Bool.and_eq_true, decide_eq_true_eq] at hk
      exact hk
    have ih := hex_pk r (by simp at h; omega) hk'.2.2
    have hb : (byt a b).toNat = 16 * undig a.toNat + undig b.toNat := by unfold byt; simp; omega
    have ea := dig_undig ⟨a.toNat, a.toNat_lt⟩ hk'.1
    have eb := dig_undig ⟨b.toNat, b.toNat_lt⟩ hk'.2.1
    simp only [UInt8.ofNat_toNat] at ea eb
    show dig16 ((byt a b).toNat / 16) :: dig16 ((byt a b).toNat % 16) :: hxs (pk r) = _
    rw [ih, hb, show (16 * undig a.toNat + undig b.toNat) / 16 = undig a.toNat by omega, show (16 * undig a.toNat + undig b.toNat) % 16 = undig b.toNat by omega, ea, eb]
theorem hex_back {w l : List UInt8} (h : bytesV w = some l) : hexV l = w := by
  unfold bytesV at h
  split at h
  · rename_i h1; cases h; subst h1; rfl
  · split at h
    · cases h
    · rename_i h1 h2
      split at h
      · rename_i h3
        cases h
        unfold hexV
        have hl : w.length % 2 = 0 := by
          rcases Nat.mod_two_eq_zero_or_one w.length with q | q
          · exact q
          · exact absurd (Or.inr q) h2
        have hp : pk w ≠ [] := by
          intro e
          have := pk_len w
          rw [e] at this
          have h0 : w.length ≠ 0 := fun e => h2 (Or.inl (List.eq_nil_of_length_eq_zero e))
          simp at this
          omega
        rw [if_neg hp, hxs_eq]
        exact hex_pk w hl h3
      · cases h
theorem pk_hex : ∀ l : List UInt8, pk (hxs l) = l ∧ hexOk (hxs l) = true ∧ (hxs l).length = 2 * l.length
  | [] => ⟨rfl, rfl, rfl⟩
  | c :: l => by
    obtain ⟨h1, h2, h3⟩ := pk_hex l
    have hc : c.toNat < 256 := c.toNat_lt
    have e1 := undig_dig ⟨c.toNat / 16, by omega⟩
    have e2 := undig_dig ⟨c.toNat % 16, by omega⟩
    simp only at e1 e2
    refine ⟨?_, ?_, ?_⟩
    · show byt _ _ :: pk (hxs l) = _
      rw [h1]
      congr 1
      unfold byt
      rw [e1, e2, show 16 * (c.toNat / 16) + c.toNat % 16 = c.toNat by omega]
      simp
    · show ((decide (undig (dig16 (c.toNat / 16)).toNat < 16)) && (decide (undig (dig16 (c.toNat % 16)).toNat < 16) && hexOk (hxs l))) = true
      rw [e1, e2, h2]
      simp
      omega
    · simp only [hxs, List.length_cons, h3]
      omega
theorem hex_fwd (l : List UInt8) : bytesV (hexV l) = some l := by
  unfold hexV
  split
  · rename_i h; subst h; rfl
  · rename_i h
    rw [hxs_eq]
    obtain ⟨h1, h2, h3⟩ := pk_hex l
    have h0 : l.length ≠ 0 := fun e => h (List.eq_nil_of_length_eq_zero e)
    have g1 : hxs l ≠ [45] := fun e => by rw [e] at h3; simp at h3; omega
    have g2 : ¬ (hxs l = [] ∨ (hxs l).length % 2 = 1) := by
      rintro (e | e)
      · rw [e] at h3; simp at h3; omega
      · omega
    unfold bytesV
    rw [if_neg g1, if_neg g2, if_pos h2, h1]
theorem takeNum_back {b : Bool} {ws r : Wds} {n : Nat} (h : takeNum b ws = some (n, r)) : numW b n ++ r = ws := by
  unfold takeNum at h
  split at h
  · cases h; rfl
  · cases h
  · rename_i w r'
    split at h
    · rename_i m hm
      split at h
      · cases h
        simp [numW, digs_back hm]
      · cases h
    · cases h
theorem takeBytes_back {b : Bool} {ws r : Wds} {l : List UInt8} (h : takeBytes b ws = some (l, r)) : bytesW b l ++ r = ws := by
  unfold takeBytes at h
  split at h
  · cases h; rfl
  · cases h
  · rename_i w r'
    split at h
    · rename_i m hm
      cases h
      simp [bytesW, hex_back hm]
    · cases h
theorem nums_back : ∀ {ws : Wds} {l : List Nat}, numsV ws = some l → l.map decDigits = ws
  | [], l, h => by cases h; rfl
  | w :: r, l, h => by
    unfold numsV at h
    split at h
    · rename_i n l' h1 h2
      cases h
      simp [digs_back h1, nums_back h2]
    · cases h
theorem takeDraws_back {b : Bool} {ws : Wds} {l : List Nat} (h : takeDraws b ws = some l) : l.map decDigits = ws := by
  unfold takeDraws at h
  split at h
  · exact nums_back h
  · cases h; rfl
  · cases h
/-- What is read is written so again. -/
theorem render_read {k : Nat} {ws : Wds} {m : Mv} (h : readV k ws = some m) : renderV m = ws ∧ m.kind = k := by
  unfold readV at h
  split at h
  · cases h
  · rename_i a w1 h1
    split at h
    · cases h
    · rename_i t w2 h2
      split at h
      · cases h
      · rename_i n w3 h3
        split at h
        · cases h
        · rename_i b w4 h4
          split at h
          · cases h
          · rename_i d h5
            cases h
            refine ⟨?_, rfl⟩
            unfold renderV
            simp only
            rw [takeDraws_back h5, takeBytes_back h4, takeNum_back h3, takeNum_back h2, takeNum_back h1]
/-- A move of which each field that its kind has not is nought. -/
structure Mv.OK (m : Mv) : Prop where
  node : if hN m.kind then m.node ≤ maxStake else m.node = 0
  rcv : if hT m.kind then m.rcv ≤ maxStake else m.rcv = 0
  n : if hK m.kind then m.n ≤ maxStake else m.n = 0
  bytes : hB m.kind = false → m.bytes = []
  draws : hD m.kind = false → m.draws = []
  fits : ∀ d ∈ m.draws, d ≤ 18446744073709551615
theorem takeNum_fwd {b : Bool} {n : Nat} (h : if b then n ≤ maxStake else n = 0) (r : Wds) : takeNum b (numW b n ++ r) = some (n, r) := by
  cases b with
  | false => simp at h; subst h; rfl
  | true =>
    simp at h
    simp [takeNum, numW, digs_fwd n (by unfold maxStake at h; omega), h]
theorem takeBytes_fwd {b : Bool} {l : List UInt8} (h : b = false → l = []) (r : Wds) : takeBytes b (bytesW b l ++ r) = some (l, r) := by
  cases b with
  | false => rw [h rfl]; rfl
  | true => simp [takeBytes, bytesW, hex_fwd]
theorem nums_fwd : ∀ (l : List Nat), (∀ d ∈ l, d ≤ 18446744073709551615) → numsV (l.map decDigits) = some l
  | [], _ => rfl
  | n :: l, h => by simp [numsV, digs_fwd n (h n List.mem_cons_self), nums_fwd l fun d hd => h d (List.mem_cons_of_mem _ hd)]
theorem takeDraws_fwd {b : Bool} {l : List Nat} (h : b = false → l = []) (hl : ∀ d ∈ l, d ≤ 18446744073709551615) : takeDraws b (l.map decDigits) = some l := by
  cases b with
  | false => rw [h rfl]; rfl
  | true => exact nums_fwd l hl
/-- What is written is read so again. -/
theorem read_render {m : Mv} (h : m.OK) : readV m.kind (renderV m) = some m := by
  unfold readV renderV
  rw [takeNum_fwd h.node]
  simp only
  rw [takeNum_fwd h.rcv]
  simp only
  rw [takeNum_fwd h.n]
  simp only
  rw [takeBytes_fwd h.bytes]
  simp only
  rw [takeDraws_fwd h.draws h.fits]
end Go.Proofs.YtpmmfabendnhiaaDoor
namespace Go.Proofs.YtpmmfabendnhiaaDoor
open Go.Lib (decDigits)
set_option linter.unusedVariables false
def unw : Wds → List UInt8
  | [] => []
  | [w] => w
  | w :: x :: r => w ++ 32 :: unw (x :: r)
theorem join_unw : ∀ ws : Wds, Lib.join ws [32] = unw ws
  | [] => by simp [Lib.join, List.intercalate, unw]
  | [w] => by simp [Lib.join, List.intercalate, unw]
  | w :: x :: r => by
    have := join_unw (x :: r)
    have e : Lib.join (w :: x :: r) [32] = w ++ 32 :: Lib.join (x :: r) [32] := by simp [Lib.join, List.intercalate, List.intersperse]
    rw [e, this]; rfl
theorem go_ne : ∀ (l cur : List UInt8), wordsGo cur l ≠ []
  | [], cur => by simp [wordsGo]
  | c :: r, cur => by
    unfold wordsGo
    split
    · simp
    · exact go_ne r _
theorem unw_go : ∀ (l cur : List UInt8), unw (wordsGo cur l) = cur ++ l
  | [], cur => by simp [wordsGo, unw]
  | c :: r, cur => by
    unfold wordsGo
    split
    · rename_i h
      subst h
      have ih := unw_go r []
      cases hw : wordsGo [] r with
      | nil => exact absurd hw (go_ne r [])
      | cons a l =>
        rw [hw] at ih
        show cur ++ 32 :: unw (a :: l) = _
        rw [ih]; rfl
    · rw [unw_go r (cur ++ [c])]
      simp
theorem unw_words (t : List UInt8) : unw (wordsV t) = t := unw_go t []
theorem go_unw : ∀ (ws : Wds) (w cur : List UInt8), (∀ x ∈ w :: ws, (32 : UInt8) ∉ x) → wordsGo cur (unw (w :: ws)) = (cur ++ w) :: ws
  | [], w, cur, h => by
    have h1 := wordsGo_skip w cur [] (h w List.mem_cons_self)
    rw [List.append_nil] at h1
    show wordsGo cur w = _
    rw [h1]; rfl
  | x :: r, w, cur, h => by
    have h1 := wordsGo_skip w cur (32 :: unw (x :: r)) (h w List.mem_cons_self)
    show wordsGo cur (w ++ 32 :: unw (x :: r)) = _
    rw [h1]
    unfold wordsGo
    rw [if_pos rfl, go_unw r x [] fun y hy => h y (List.mem_cons_of_mem _ hy)]
    rfl
theorem words_unw {ws : Wds} {w : List UInt8} (h : ∀ x ∈ w :: ws, (32 : UInt8) ∉ x) : wordsV (unw (w :: ws)) = w :: ws := by
  have := go_unw ws w [] h
  simpa [wordsV] using this
theorem dec_no32 (n : Nat) : (32 : UInt8) ∉ decDigits n := by
  intro h
  have := (dec_props n).1
  unfold digs at this
  rw [List.all_eq_true] at this
  have h2 := this 32 h
  simp at h2
theorem hxs_no32 : ∀ l : List UInt8, (32 : UInt8) ∉ hxs l
  | [] => by simp [hxs]
  | c :: l => by
    have ih := hxs_no32 l
    have hd : ∀ n : Fin 16, dig16 n.val ≠ 32 := by decide
    have hc : c.toNat < 256 := c.toNat_lt
    have e1 := hd ⟨c.toNat / 16, by omega⟩
    have e2 := hd ⟨c.toNat % 16, by omega⟩
    simp only [hxs, List.mem_cons, not_or]
    exact ⟨fun e => e1 e.symm, fun e => e2 e.symm, ih⟩
theorem hex_no32 (l : List UInt8) : (32 : UInt8) ∉ hexV l := by
  unfold hexV
  split
  · decide
  · rw [hxs_eq]; exact hxs_no32 l
theorem name_no32 (k : Nat) : (32 : UInt8) ∉ nameK k := by
  unfold nameK
  split <;> decide
theorem render_no32 (m : Mv) : ∀ x ∈ renderV m, (32 : UInt8) ∉ x := by
  intro x hx
  simp only [renderV, numW, bytesW, List.mem_append] at hx
  rcases hx with hx | hx | hx | hx | hx
  · split at hx <;> simp at hx; subst hx; exact dec_no32 _
  · split at hx <;> simp at hx; subst hx; exact dec_no32 _
  · split at hx <;> simp at hx; subst hx; exact dec_no32 _
  · split at hx <;> simp at hx; subst hx; exact hex_no32 _
  · obtain ⟨d, _, rfl⟩ := List.mem_map.1 hx; exact dec_no32 _
/-- The kind of a first word; 0: there is none. -/
def kindGo (w : List UInt8) : Nat → Nat
  | 0 => 0
  | k + 1 => if nameK (k + 1) = w then k + 1 else kindGo w k
def kindV (w : List UInt8) : Nat := kindGo w 11
theorem kind_name : ∀ k : Fin 12, kindV (nameK k.val) = if k.val = 0 then 0 else k.val := by decide
theorem kindGo_name (w : List UInt8) : ∀ k, kindGo w k ≠ 0 → nameK (kindGo w k) = w ∧ kindGo w k ≤ k
  | 0, h => absurd rfl h
  | k + 1, h => by
    unfold kindGo at h ⊢
    split
    · rename_i e; exact ⟨e, Nat.le_refl _⟩
    · rename_i e
      rw [if_neg e] at h
      obtain ⟨h1, h2⟩ := kindGo_name w k h
      exact ⟨h1, by omega⟩
theorem kindV_name {w : List UInt8} (h : kindV w ≠ 0) : nameK (kindV w) = w ∧ kindV w ≤ 11 := kindGo_name w 11 h
def lineV (m : Mv) : List UInt8 := unw (nameK m.kind :: renderV m)
def Mv.fits' (most : Nat) (m : Mv) : Prop := m.bytes.length ≤ most ∧ m.draws.length ≤ 64
instance (most : Nat) (m : Mv) : Decidable (m.fits' most) := by unfold Mv.fits'; infer_instance
/-- The move of a line. -/
def moveV (most : Nat) (t : List UInt8) : Option Mv :=
  match wordsV t with
  | [] => none
  | w :: ws => if kindV w = 0 then none else match readV (kindV w) ws with
    | some m => if m.fits' most then some m else none
    | none => none
/-- A move that may be is its line's; no other line is. -/
theorem move_iff {most : Nat} {t : List UInt8} {m : Mv} (h : m.OK) (hf : m.fits' most) (hk : m.kind ≠ 0) (hk2 : m.kind ≤ 11) : lineV m = t ↔ moveV most t = some m := by
  constructor
  · rintro rfl
    unfold moveV lineV
    rw [words_unw (by
      intro x hx
      rcases List.mem_cons.1 hx with rfl | hx
      · exact name_no32 _
      · exact render_no32 m x hx)]
    have hkn := kind_name ⟨m.kind, by omega⟩
    simp only [if_neg hk] at hkn
    simp only [hkn, if_neg hk, read_render h, if_pos hf]
  · intro h
    unfold moveV at h
    split at h
    · cases h
    · rename_i w ws hw
      split at h
      · cases h
      · rename_i hk0
        split at h
        · rename_i m' hm
          split at h
          · cases h
            obtain ⟨h1, h2⟩ := render_read hm
            unfold lineV
            rw [h1, h2, (kindV_name hk0).1, ← hw]
            exact unw_words t
          · cases h
        · cases h
end Go.Proofs.YtpmmfabendnhiaaDoor
