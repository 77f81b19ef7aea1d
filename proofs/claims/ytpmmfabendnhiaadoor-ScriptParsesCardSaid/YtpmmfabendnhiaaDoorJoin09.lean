/-
  Texts joined: SDig, SBytes, SBytes2.
-/
import Derived.Test.YtpmmfabendnhiaaDoorJoin08
namespace Go.Proofs.YtpmmfabendnhiaaDoor
open Go.RowKit
set_option linter.unusedVariables false
set_option linter.unusedSimpArgs false
set_option maxRecDepth 10000
theorem noinit_digit : Tryd.prog.inits.idxOf? 52 = none := by kernel_rfl
theorem noinit_nibble : Tryd.prog.inits.idxOf? 67 = none := by kernel_rfl
theorem digit_runs (c : Nat) (hc : c < 256) (w : World) : Runs Tryd.prog 52 #[.int .u8 c] w (.int .u8 (undig c)) w := by
  refine runs_of_callE ?_
  refine calls_E Tryd.func52 rfl rfl rfl (Nat.le_of_ble_eq_true rfl) ?_
  by_cases h1 : 48 ≤ c
  · have h1' : (48 : Int) ≤ c := by omega
    by_cases h2 : c ≤ 57
    · have h2' : (c : Int) ≤ 57 := by omega
      obtain ⟨d, rfl⟩ : ∃ d : Nat, c = 48 + d := ⟨c - 48, by omega⟩
      have e : undig (48 + d) = d := by unfold undig; rw [if_pos (by omega)]; omega
      have f0 : IntKind.u8.wrap (48 + (d : Int) - 48) = d := (IntWalk.u8_in _ (by omega)).trans (by omega)
      have h1'' : (48 : Int) ≤ 48 + d := by omega
      have h2'' : (48 : Int) + d ≤ 57 := by omega
      simp [go_sem, IntWalk.iteOmega, IntWalk.toNatUp, h1'', h2'', e, f0]
    · have h2' : ¬ (c : Int) ≤ 57 := by omega
      by_cases h3 : 97 ≤ c
      · have h3' : (97 : Int) ≤ c := by omega
        by_cases h4 : c ≤ 102
        · obtain ⟨d, rfl⟩ : ∃ d : Nat, c = 97 + d := ⟨c - 97, by omega⟩
          have e : undig (97 + d) = d + 10 := by unfold undig; rw [if_neg (by omega), if_pos (by omega)]; omega
          have f0 : IntKind.u8.wrap (97 + (d : Int) - 97) = d := (IntWalk.u8_in _ (by omega)).trans (by omega)
          have f1 : IntKind.u8.wrap ((d : Int) + 10) = d + 10 := IntWalk.u8_in _ (by omega)
          have a1 : (48 : Int) ≤ 97 + d := by omega
          have a2 : ¬ (97 : Int) + d ≤ 57 := by omega
          have a3 : (97 : Int) ≤ 97 + d := by omega
          have a4 : (97 : Int) + d ≤ 102 := by omega
          simp [go_sem, IntWalk.iteOmega, IntWalk.toNatUp, a1, a2, a3, a4, e, f0, f1]
        · have h4' : ¬ (c : Int) ≤ 102 := by omega
          have e : undig c = 16 := by unfold undig; rw [if_neg (by omega), if_neg (by omega)]
          simp [go_sem, IntWalk.iteOmega, IntWalk.toNatUp, h1', h2', h3', h4', e]
      · have h3' : ¬ (97 : Int) ≤ c := by omega
        have e : undig c = 16 := by unfold undig; rw [if_neg (by omega), if_neg (by omega)]
        simp [go_sem, IntWalk.iteOmega, IntWalk.toNatUp, h1', h2', h3', e]
  · have h1' : ¬ (48 : Int) ≤ c := by omega
    have h3' : ¬ (97 : Int) ≤ c := by omega
    have e : undig c = 16 := by unfold undig; rw [if_neg (by omega), if_neg (by omega)]
    simp [go_sem, IntWalk.iteOmega, IntWalk.toNatUp, h1', h3', e]
/-- the program's digit: -1 where there is none -/
def nibV (c : Nat) : Int := if undig c < 16 then undig c else -1
theorem nibble_runs (c : Nat) (hc : c ≤ 1114111) (w : World) : Runs Tryd.prog 67 #[.int .i32 c] w (.int .i64 (nibV c)) w := by
  refine runs_of_callE ?_
  refine calls_E Tryd.func67 rfl rfl rfl (Nat.le_of_ble_eq_true rfl) ?_
  by_cases h1 : 48 ≤ c
  · have h1' : (48 : Int) ≤ c := by omega
    by_cases h2 : c ≤ 57
    · have h2' : (c : Int) ≤ 57 := by omega
      obtain ⟨d, rfl⟩ : ∃ d : Nat, c = 48 + d := ⟨c - 48, by omega⟩
      have e : nibV (48 + d) = d := by unfold nibV undig; rw [if_pos (show 48 ≤ 48 + d ∧ 48 + d ≤ 57 by omega)]; rw [if_pos (by omega)]; omega
      have f0 : IntKind.i32.wrap (48 + (d : Int) - 48) = d := (IntWalk.i32_in _ (by omega)).trans (by omega)
      have h1'' : (48 : Int) ≤ 48 + d := by omega
      have h2'' : (48 : Int) + d ≤ 57 := by omega
      simp [go_sem, IntWalk.iteOmega, IntWalk.toNatUp, h1'', h2'', e, f0]
    · have h2' : ¬ (c : Int) ≤ 57 := by omega
      by_cases h3 : 97 ≤ c
      · have h3' : (97 : Int) ≤ c := by omega
        by_cases h4 : c ≤ 102
        · obtain ⟨d, rfl⟩ : ∃ d : Nat, c = 97 + d := ⟨c - 97, by omega⟩
          have e : nibV (97 + d) = d + 10 := by unfold nibV undig; rw [if_neg (show ¬ (48 ≤ 97 + d ∧ 97 + d ≤ 57) by omega), if_pos (show 97 ≤ 97 + d ∧ 97 + d ≤ 102 by omega)]; rw [if_pos (by omega)]; omega
          have f0 : IntKind.i32.wrap (97 + (d : Int) - 97) = d := (IntWalk.i32_in _ (by omega)).trans (by omega)
          have a1 : (48 : Int) ≤ 97 + d := by omega
          have a2 : ¬ (97 : Int) + d ≤ 57 := by omega
          have a3 : (97 : Int) ≤ 97 + d := by omega
          have a4 : (97 : Int) + d ≤ 102 := by omega
          simp [go_sem, IntWalk.iteOmega, IntWalk.toNatUp, a1, a2, a3, a4, e, f0]
        · have h4' : ¬ (c : Int) ≤ 102 := by omega
          have e : nibV c = -1 := by unfold nibV undig; rw [if_neg (show ¬ (48 ≤ c ∧ c ≤ 57) by omega), if_neg (show ¬ (97 ≤ c ∧ c ≤ 102) by omega)]; rfl
          simp [go_sem, IntWalk.iteOmega, IntWalk.toNatUp, h1', h2', h3', h4', e]
      · have h3' : ¬ (97 : Int) ≤ c := by omega
        have e : nibV c = -1 := by unfold nibV undig; rw [if_neg (show ¬ (48 ≤ c ∧ c ≤ 57) by omega), if_neg (show ¬ (97 ≤ c ∧ c ≤ 102) by omega)]; rfl
        simp [go_sem, IntWalk.iteOmega, IntWalk.toNatUp, h1', h2', h3', e]
  · have h1' : ¬ (48 : Int) ≤ c := by omega
    have h3' : ¬ (97 : Int) ≤ c := by omega
    have e : nibV c = -1 := by unfold nibV undig; rw [if_neg (show ¬ (48 ≤ c ∧ c ≤ 57) by omega), if_neg (show ¬ (97 ≤ c ∧ c ≤ 102) by omega)]; rfl
    simp [go_sem, IntWalk.iteOmega, IntWalk.toNatUp, h1', h3', e]
set_option maxHeartbeats 6400000 in
theorem rnumber_any (l : List UInt8) (hl : l.length ≤ 50000) (w : World) : callE Tryd.prog 53 #[.string (strOf l)] w fun v w' => v = numR l ∧ Below w.heap.size w w' := by
  refine calls_E Tryd.func53 rfl rfl rfl (Nat.le_of_ble_eq_true rfl) ?_
  by_cases he : l = []
  · subst he
    have e1 : (strOf []).toList.isEmpty = true := by rw [str_nil]; rfl
    simp [go_sem, IntWalk.iteOmega, IntWalk.toNatUp, e1]
    exact ⟨rfl, Below.refl _ _⟩
  · have hpos : 0 < l.length := List.length_pos_iff.2 he
    have e1 : (strOf l).toList.isEmpty = false := by
      rw [List.isEmpty_eq_false_iff]
      exact fun h => he ((str_ext (b := [])).1 (h.trans str_nil.symm))
    have x0 : ∀ w, (Instr.index 9 (.string (strOf l)) (.int .i64 0)).run Tryd.prog w = .ok (.int .u8 ((l[0]).toNat : Int)) w := fun w => run_index_str (P := Tryd.prog) (w := w) Tryd.underlying9 l 0 hpos
    have hhd := head_str hpos
    by_cases hln : 1 < l.length
    case' pos =>
      have q1 : (1 : Int) < l.length := by omega
      by_cases h48 : l[0] = 48
      case' pos =>
        have q2 : ((l[0]).toNat : Int) = 48 := by rw [h48]; rfl
        have hn : numV l = none := by unfold numV; rw [if_pos (.inr ⟨hln, by rw [hhd, h48]⟩)]
        simp [go_sem, IntWalk.iteOmega, IntWalk.toNatUp, e1, strOf_size, q1, x0, q2]
        exact ⟨(numR_none hn).symm, Below.refl _ _⟩
      have hfirst : ¬ (l = [] ∨ (1 < l.length ∧ l.head? = some 48)) := by
        rintro (h | ⟨_, h⟩)
        · exact he h
        · rw [hhd] at h; exact h48 (Option.some.inj h)
      have q2 : (((l[0]).toNat : Int) == 48) = false := beq_eq_false_iff_ne.2 fun h => h48 (UInt8.toNat_inj.1 (Int.ofNat.inj h))
      simp [go_sem, IntWalk.iteOmega, IntWalk.toNatUp, e1, strOf_size, q1, x0, q2]
    case' neg =>
      have q1 : ¬ (1 : Int) < l.length := by omega
      have hfirst : ¬ (l = [] ∨ (1 < l.length ∧ l.head? = some 48)) := by
        rintro (h | ⟨h, _⟩)
        · exact he h
        · exact hln h
      simp [go_sem, IntWalk.iteOmega, IntWalk.toNatUp, e1, strOf_size, q1, x0]
    all_goals
      refine W_loop (fun st wr => ∃ i : Nat, i ≤ l.length ∧ st 0 = .string (strOf l) ∧ st 5 = .int .i64 i ∧ st 4 = .int .u64 (dval (l.take i)) ∧ digs (l.take i) = true ∧ dval (l.take i) ≤ 18446744073709551615 ∧ Below w.heap.size w wr) (fun st wr => l.length - (intOf (st 5)).toNat) ?_ ?_
      · exact ⟨0, by omega, by simp [go_sem], by simp [go_sem], by simp [go_sem, dval], rfl, by simp [dval], Below.refl _ _⟩
      · rintro st wr ⟨i, hi, e0, e5, e4, hd, hv, hbw⟩
        by_cases hlt : i < l.length
        · have hlt' : (i : Int) < l.length := by omega
          have x1 := fun w => run_index_str (P := Tryd.prog) (w := w) Tryd.underlying9 l i hlt
          have htk : l.take (i + 1) = l.take i ++ [l[i]] := take_digs hlt
          have hds := digs_snoc (l.take i) l[i]
          have hdv := dval_snoc (l.take i) l[i]
          rw [← htk] at hds hdv
          have hdl := digs_take (l := l)
          have hvl := dval_take l (i + 1)
          have hbad : ¬ (48 ≤ (l[i]).toNat ∧ (l[i]).toNat ≤ 57) → numV l = none := fun h => by
            refine numV_bad fun h2 => ?_
            have := hdl h2.1 (i + 1)
            rw [hds, hd] at this
            simp at this
            omega
          have hc256 := (l[i]).toNat_lt
          have r1 := fun w k => callE_eq noinit_digit (digit_runs (l[i]).toNat hc256 w) k
          generalize hV : dval (l.take i) = V at *
          generalize hcc : (l[i]).toNat = c at *
          by_cases q3 : 48 ≤ c ∧ c ≤ 57
          · obtain ⟨d, rfl⟩ : ∃ d : Nat, c = 48 + d := ⟨c - 48, by omega⟩
            have hu : undig (48 + d) = d := by unfold undig; rw [if_pos (by omega)]; omega
            rw [hu] at r1
            have hQ : ∃ Q : Nat, (18446744073709551615 - (d : Int)).tdiv 10 = Q := ⟨(18446744073709551615 - d) / 10, by rw [Int.tdiv_eq_ediv_of_nonneg (by omega)]; omega⟩
            obtain ⟨Q, hQ⟩ := hQ
            have hQ2 : 10 * Q ≤ 18446744073709551615 - d ∧ 18446744073709551615 - d < 10 * Q + 10 := by
              rw [Int.tdiv_eq_ediv_of_nonneg (by omega)] at hQ; omega
            have f1 : IntKind.u64.wrap (d : Int) = d := ifwrap (by omega)
            have f3 : IntKind.u64.wrap (18446744073709551615 - (d : Int)) = 18446744073709551615 - d := ifwrap (by omega)
            have f4 : IntKind.u64.wrap (Q : Int) = Q := ifwrap (by omega)
            have q4' : ¬ (9 : Int) < d := by omega
            have hdv2 : dval (l.take (i + 1)) = 10 * V + d := by rw [hdv]; omega
            push_cast at r1 x1
            by_cases q5 : Q < V
            · have q5' : (Q : Int) < V := by omega
              have hn := numR_none (numV_bad (l := l) (fun h => by omega))
              simp [go_sem, IntWalk.iteOmega, IntWalk.toNatUp, e0, e5, e4, strOf_size, hlt, hlt', x1, r1, q4', f1, f3, hQ, f4, q5', hn]
              exact hbw
            · have q5' : ¬ (Q : Int) < V := by omega
              have f5 : IntKind.u64.wrap (10 * (V : Int)) = 10 * V := ifwrap (by omega)
              have f6 : IntKind.u64.wrap (10 * (V : Int) + d) = 10 * V + d := ifwrap (by omega)
              simp [go_sem, IntWalk.iteOmega, IntWalk.toNatUp, e0, e5, e4, strOf_size, hlt, hlt', x1, r1, q4', f1, f3, hQ, f4, q5', f5, f6]
              refine roundEnd.mk ⟨i + 1, by omega, by simp [go_sem, e0], by simp [go_sem], ?_, ?_, by omega, hbw⟩ ?_
              · rw [hdv2]; simp [go_sem]
              · rw [hds, hd]; simp; omega
              · simp [go_sem, intOf]; omega
          · have hu : 9 < undig c := by unfold undig; rw [if_neg q3]; split <;> omega
            have hu2 := undig_le c
            have hn := numR_none (hbad q3)
            generalize undig c = u at *
            have f1 : IntKind.u64.wrap (u : Int) = u := ifwrap (by omega)
            have q4' : (9 : Int) < u := by omega
            simp [go_sem, IntWalk.iteOmega, IntWalk.toNatUp, e0, e5, e4, strOf_size, hlt, hlt', x1, r1, q4', f1, hn]
            exact hbw
        · obtain rfl : i = l.length := by omega
          rw [List.take_of_length_le (Nat.le_refl _)] at e4 hd hv
          have hn : numR l = .tuple #[.int .u64 (dval l), .int .i64 0] := by
            unfold numR numV; rw [if_neg hfirst, if_pos ⟨hd, hv⟩]
          simp [go_sem, IntWalk.iteOmega, IntWalk.toNatUp, e0, e5, e4, strOf_size, hn]
          exact hbw
end Go.Proofs.YtpmmfabendnhiaaDoor
namespace Go.Proofs.YtpmmfabendnhiaaDoor
open Go.RowKit
open Go.Lib (strCells byteCells)
set_option linter.unusedVariables false
set_option linter.unusedSimpArgs false
set_option maxRecDepth 10000
theorem hexOk_take {l : List UInt8} (h : hexOk l = true) (i : Nat) : hexOk (l.take i) = true := by
  unfold hexOk at *
  rw [List.all_eq_true] at *
  exact fun x hx => h x (List.mem_of_mem_take hx)
theorem hexOk_snoc (l : List UInt8) (c : UInt8) : hexOk (l ++ [c]) = (hexOk l && decide (undig c.toNat < 16)) := by unfold hexOk; rw [List.all_append]; simp
theorem bytes_bad {l : List UInt8} (h1 : l ≠ [45]) (h : hexOk l = false ∨ l = [] ∨ l.length % 2 = 1) : bytesL l = [] ∧ bytesE l = 8 := by
  have : bytesV l = none := by
    unfold bytesV
    rw [if_neg h1]
    rcases h with h | h
    · split
      · rfl
      · rw [if_neg (by rw [h]; simp)]
    · rw [if_pos h]
  unfold bytesL bytesE
  rw [this]
  exact ⟨rfl, rfl⟩
theorem bytes_good {l : List UInt8} (h1 : l ≠ [45]) (h2 : ¬ (l = [] ∨ l.length % 2 = 1)) (h : hexOk l = true) : bytesL l = pk l ∧ bytesE l = 0 := by
  have : bytesV l = some (pk l) := by
    unfold bytesV
    rw [if_neg h1, if_neg h2, if_pos h]
  unfold bytesL bytesE
  rw [this]
  exact ⟨rfl, rfl⟩
theorem or_bits : ∀ a b : Fin 16, IntKind.u8.wrap (bits .or .i64 ((a.val : Int) * 16) (b.val : Int)) = ((16 * a.val + b.val : Nat) : Int) := by decide +kernel
theorem byt_eq (a b : UInt8) (ha : undig a.toNat < 16) (hb : undig b.toNat < 16) : ((byt a b).toNat : Int) = ((16 * undig a.toNat + undig b.toNat : Nat) : Int) := by
  unfold byt
  rw [ofNat_toNat (by omega)]
open Go.Lib (decode_at decodeN) in
theorem rune_le (s : ByteArray) (i : Nat) : (Utf8.decode s i).1 ≤ 1114111 := by
  rw [decode_at]; unfold decodeN
  repeat' split
  all_goals simp only
  all_goals omega
set_option maxHeartbeats 6400000 in
theorem bytes_any (l : List UInt8) (hl : l.length ≤ 50000) (w : World) : callE Tryd.prog 49 #[.string (strOf l)] w fun v w' => (∃ u, v = .tuple #[u, .int .i64 (bytesE l)] ∧ w'.ownsRow w.heap.size 5 1 u (bytesL l).length (byteCells (bytesL l))) ∧ Below w.heap.size w w' := by
  have hr := fun w => run_range_str (P := Tryd.prog) (w := w) undS (strOf l)
  have c45 : (⟨#[45]⟩ : ByteArray) = strOf [45] := rfl
  refine calls_E Tryd.func49 rfl rfl rfl (Nat.le_of_ble_eq_true rfl) ?_
  by_cases h45 : l = [45]
  · subst h45
    simp [go_sem, IntWalk.iteOmega, IntWalk.toNatUp, c45]
    exact ⟨⟨_, ⟨rfl, rfl⟩, World.ownsRow_nil _ _ _ _⟩, Below.refl _ _⟩
  · have q45 : ((strOf l).toList == (strOf [45]).toList) = false := beq_eq_false_iff_ne.2 fun h => h45 (str_ext.1 h)
    by_cases he : l = []
    · subst he
      have e1 : (strOf []).toList.isEmpty = true := by rw [str_nil]; rfl
      obtain ⟨b1, b2⟩ := bytes_bad h45 (.inr (.inl rfl))
      rw [b1, b2]
      simp [go_sem, IntWalk.iteOmega, IntWalk.toNatUp, c45, q45, e1]
      exact ⟨by simpa [byteCells] using World.ownsRow_nil _ _ _ _, Below.refl _ _⟩
    · have e1 : (strOf l).toList.isEmpty = false := by
        rw [List.isEmpty_eq_false_iff]
        exact fun h => he ((str_ext (b := [])).1 (h.trans str_nil.symm))
      by_cases hodd : l.length % 2 = 1
      · obtain ⟨b1, b2⟩ := bytes_bad h45 (.inr (.inr hodd))
        have qm : ((l.length : Int).tmod 2 == 1) = true := by rw [Int.tmod_eq_emod_of_nonneg (by omega)]; simp; omega
        rw [b1, b2]
        simp [go_sem, IntWalk.iteOmega, IntWalk.toNatUp, c45, q45, e1, strOf_size, qm]
        exact ⟨by simpa [byteCells] using World.ownsRow_nil _ _ _ _, Below.refl _ _⟩
      · have qm : ((l.length : Int).tmod 2 == 1) = false := by rw [Int.tmod_eq_emod_of_nonneg (by omega)]; simp; omega
        simp [go_sem, IntWalk.iteOmega, IntWalk.toNatUp, c45, q45, e1, strOf_size, qm, hr]
        refine W_loop (fun st wr => ∃ (i : Nat) (v : Value) (h : Int), i ≤ l.length ∧ st 20 = .pointer (some ⟨w.heap.size, 0, none⟩) ∧ st 4 = v ∧ st 5 = .int .i64 h ∧ hexOk (l.take i) = true ∧ (i % 2 = 0 → h = -1) ∧ (i % 2 = 1 → ∃ q : i - 1 < l.length, h = undig (l[i - 1]).toNat) ∧ wr.ownsRow (w.heap.size + 1) 5 1 v (pk (l.take i)).length (byteCells (pk (l.take i))) ∧ It wr w.heap.size (strOf l) i ∧ Below w.heap.size w wr) (fun _ wr => itLeft w.heap.size l.length wr) ?_ ?_
        · exact ⟨0, .slice none 0 0, -1, by omega, by simp [go_sem], by simp [go_sem], by simp [go_sem], rfl, fun _ => rfl, fun h => by omega, by simpa [pk, byteCells] using World.ownsRow_nil _ _ _ _, It_made w _, ext_alloc _ _⟩
        · rintro st wr ⟨i, v, h, hi, e20, e4, e5, hok, hev, hod, hown, hit, hbw⟩
          have hsz : w.heap.size < wr.heap.size := hit.lt
          have hleft := itLeft_eq (n := l.length) hit
          by_cases hlt : i < l.length
          · have hlt' : i < (strOf l).size := by rw [strOf_size]; exact hlt
            have hg := get_eq l i hlt
            have hx := run_next_str (P := Tryd.prog) hit
            have htk : l.take (i + 1) = l.take i ++ [l[i]] := take_digs hlt
            have hos := hexOk_snoc (l.take i) l[i]
            rw [← htk] at hos
            have hbad : ¬ undig (l[i]).toNat < 16 → hexOk l = false := fun hn => by
              cases hq : hexOk l with
              | false => rfl
              | true =>
                have := hexOk_take hq (i + 1)
                rw [hos, hok] at this
                simp at this
                exact absurd this (by simpa using hn)
            by_cases hlo : (l[i]).toNat < 128
            · have hdec := rune_low (s := strOf l) (i := i) (by rw [hg]; exact hlo)
              rw [hg] at hdec
              rw [hdec] at hx
              simp only at hx
              generalize hcc : (l[i]).toNat = c at *
              have r1 := fun w k => callE_eq noinit_nibble (nibble_runs c (by omega) w) k
              have hit2 := hit.put (i + 1)
              have hown2 := own_itPut hown (r := w.heap.size) (by omega) (.stringIter (strOf l) (i + 1))
              have hbw2 := Below.itPut hbw (Nat.le_refl _) (.stringIter (strOf l) (i + 1))
              by_cases hu : undig c < 16
              · have hn : nibV c = undig c := by unfold nibV; rw [if_pos hu]
                rw [hn] at r1
                have hos' : hexOk (l.take (i + 1)) = true := by rw [hos, hok]; simpa using hu
                have q1 : ¬ ((undig c : Nat) : Int) < 0 := by omega
                rcases Nat.mod_two_eq_zero_or_one i with hp | hp
                · have hh := hev hp
                  subst hh
                  have hpk : pk (l.take (i + 1)) = pk (l.take i) := by rw [htk]; exact pk_odd _ _ (by simp; omega)
                  have e5' : st 5 = .int .i64 (-1) := e5
                  simp [go_sem, IntWalk.iteOmega, IntWalk.toNatUp, e20, e4, e5', hx, hlt', r1, q1]
                  refine roundEnd.mk ⟨i + 1, v, (undig c : Int), by omega, by simp [go_sem, e20], by simp [go_sem, e4], by simp [go_sem], hos', fun hc => by omega, fun _ => ⟨by simpa using hlt, by simp only [Nat.add_sub_cancel]; exact congrArg (fun k => ((undig k : Nat) : Int)) hcc.symm⟩, by rw [hpk]; exact hown2, hit2, hbw2⟩ ?_
                  rw [itLeft_eq hit2, hleft]; omega
                · obtain ⟨q, hh⟩ := hod hp
                  have htk1 : l.take i = l.take (i - 1) ++ [l[i - 1]] := by
                    have := take_digs q
                    rwa [show i - 1 + 1 = i by omega] at this
                  have hu1 : undig (l[i - 1]).toNat < 16 := by
                    rw [htk1, hexOk_snoc] at hok
                    simp at hok
                    exact hok.2
                  have hpk0 : pk (l.take i) = pk (l.take (i - 1)) := by rw [htk1]; exact pk_odd _ _ (by simp; omega)
                  have hpk1 : pk (l.take (i + 1)) = pk (l.take i) ++ [byt l[i - 1] l[i]] := by rw [hpk0, htk, htk1, List.append_assoc]; exact pk_snoc _ _ _ (by simp; omega)
                  have hby := byt_eq l[i - 1] l[i] hu1 (by rw [hcc]; exact hu)
                  have hor := or_bits ⟨undig (l[i - 1]).toNat, hu1⟩ ⟨undig c, hu⟩
                  simp only at hor
                  rw [hcc] at hby
                  rw [← hby] at hor
                  have hpl : (pk (l.take i)).length ≤ 50000 := by rw [pk_len]; simp; omega
                  generalize byt l[i - 1] l[i] = B at *
                  generalize undig (l[i - 1]).toNat = a at *
                  generalize undig c = b at *
                  subst hh
                  have q2 : ¬ (a : Int) < 0 := by omega
                  have hsz2 : w.heap.size < (itPut wr w.heap.size (.stringIter (strOf l) (i + 1))).heap.size := hit2.lt
                  have hpsz := itPut_size wr w.heap.size (.stringIter (strOf l) (i + 1))
                  simp [go_sem, IntWalk.iteOmega, IntWalk.toNatUp, e20, e4, e5, hx, hlt', r1, q1, q2, hor]
                  rw [← hpsz]
                  generalize itPut wr w.heap.size (.stringIter (strOf l) (i + 1)) = w2 at *
                  have hN : Blk (w2.alloc (.cells #[.int .u8 (B.toNat : Int)] 5)) w2.heap.size 5 #[.int .u8 (B.toNat : Int)] := Blk.self_ rfl
                  have hlt2 := hown2.lt
                  have hbA := hbw2.alloc hbw2.size (.cells #[.int .u8 (B.toNat : Int)] 5)
                  refine append1E (own_keep hown2 (ext_alloc w2 _)) (Nat.le_trans (by omega) (ext_alloc w2 (.cells #[.int .u8 (B.toNat : Int)] 5)).size) B hN (by omega) ?_
                  intro v3 w3 hown3 g3
                  have hb3 := hbA.grown g3 hbA.size (fun k hk => by have := (hlt2 k hk).1; omega)
                  have hit3 := It_far (hit2.keep (ext_alloc w2 (.cells #[.int .u8 (B.toNat : Int)] 5))) (g3.block w.heap.size (by simp; omega) (fun e => by have := (hlt2 _ e.symm).1; omega))
                  simp [go_sem, IntWalk.iteOmega, IntWalk.toNatUp, e20, e4]
                  refine roundEnd.mk ⟨i + 1, v3, -1, by omega, by simp [go_sem, e20], by simp [go_sem], by simp [go_sem], hos', fun _ => rfl, fun hc => by omega, ?_, hit3, hb3⟩ ?_
                  · rw [hpk1]; simpa using hown3
                  · rw [itLeft_eq hit3, hleft]; omega
              · have hn : nibV c = -1 := by unfold nibV; rw [if_neg hu]
                rw [hn] at r1
                obtain ⟨b1, b2⟩ := bytes_bad h45 (.inl (hbad hu))
                rw [b1, b2]
                simp [go_sem, IntWalk.iteOmega, IntWalk.toNatUp, e20, e4, e5, hx, hlt', r1]
                exact ⟨by simpa [byteCells] using World.ownsRow_nil _ _ _ _, hbw2⟩
            · have hhi := rune_high (s := strOf l) (i := i) (by rw [hg]; exact hlo)
              have hru := rune_le (strOf l) i
              have hnu : ¬ undig (l[i]).toNat < 16 := by unfold undig; rw [if_neg (by omega), if_neg (by omega)]; omega
              obtain ⟨b1, b2⟩ := bytes_bad h45 (.inl (hbad hnu))
              rw [b1, b2]
              generalize Utf8.decode (strOf l) i = D at *
              obtain ⟨rn, wd⟩ := D
              simp only at hx hhi hru
              have r1 := fun w k => callE_eq noinit_nibble (nibble_runs rn hru w) k
              have hn : nibV rn = -1 := by unfold nibV undig; rw [if_neg (show ¬ (48 ≤ rn ∧ rn ≤ 57) by omega), if_neg (show ¬ (97 ≤ rn ∧ rn ≤ 102) by omega)]; rfl
              rw [hn] at r1
              simp [go_sem, IntWalk.iteOmega, IntWalk.toNatUp, e20, e4, e5, hx, hlt', r1]
              exact ⟨by simpa [byteCells] using World.ownsRow_nil _ _ _ _, Below.itPut hbw (Nat.le_refl _) _⟩
          · obtain rfl : i = l.length := by omega
            have hx := run_next_end (P := Tryd.prog) hit
            have hlt' : ¬ l.length < (strOf l).size := by rw [strOf_size]; omega
            rw [List.take_of_length_le (Nat.le_refl _)] at hok hown
            obtain ⟨b1, b2⟩ := bytes_good h45 (by rintro (h | h); exact he h; exact hodd h) hok
            rw [b1, b2]
            simp [go_sem, IntWalk.iteOmega, IntWalk.toNatUp, e20, e4, e5, hx, hlt']
            exact ⟨row_low hown (by omega), hbw⟩
end Go.Proofs.YtpmmfabendnhiaaDoor
namespace Go.Proofs.YtpmmfabendnhiaaDoor
open Go.RowKit
open Go.Lib (strCells byteCells)
set_option linter.unusedVariables false
set_option linter.unusedSimpArgs false
set_option maxRecDepth 10000
theorem held_two {B : Nat} {w a b : World} (h1 : Below B w a) (h2 : Below B w b) (hs : a.heap.size ≤ b.heap.size) : heldE (fun g => g < B) a b :=
  ⟨hs, fun g hg _ => (h2.block g hg).trans (h1.block g hg).symm⟩
set_option maxHeartbeats 6400000 in
theorem rbytes_any (l : List UInt8) (hl : l.length ≤ 50000) (w : World) : callE Tryd.prog 33 #[.string (strOf l)] w fun v w' => (∃ u, v = .tuple #[u, .int .i64 (bytesE l)] ∧ w'.ownsRow w.heap.size 5 1 u (bytesL l).length (byteCells (bytesL l))) ∧ Below w.heap.size w w' := by
  have c45 : (⟨#[45]⟩ : ByteArray) = strOf [45] := rfl
  refine calls_E Tryd.func33 rfl rfl rfl (Nat.le_of_ble_eq_true rfl) ?_
  by_cases h45 : l = [45]
  · subst h45
    simp [go_sem, IntWalk.iteOmega, IntWalk.toNatUp, c45]
    exact ⟨⟨_, ⟨rfl, rfl⟩, World.ownsRow_nil _ _ _ _⟩, Below.refl _ _⟩
  · have q45 : ((strOf l).toList == (strOf [45]).toList) = false := beq_eq_false_iff_ne.2 fun h => h45 (str_ext.1 h)
    by_cases he : l = []
    · subst he
      obtain ⟨b1, b2⟩ := bytes_bad h45 (.inr (.inl rfl))
      rw [b1, b2]
      simp [go_sem, IntWalk.iteOmega, IntWalk.toNatUp, c45, q45, strOf_size]
      exact ⟨by simpa [byteCells] using World.ownsRow_nil _ _ _ _, Below.refl _ _⟩
    · have hpos : 0 < l.length := List.length_pos_iff.2 he
      have e1 : ((l.length : Int) == 0) = false := by simp; omega
      by_cases hodd : l.length % 2 = 1
      · obtain ⟨b1, b2⟩ := bytes_bad h45 (.inr (.inr hodd))
        have qm : ((l.length : Int).tmod 2 != 0) = true := by rw [Int.tmod_eq_emod_of_nonneg (by omega)]; simp; omega
        rw [b1, b2]
        simp [go_sem, IntWalk.iteOmega, IntWalk.toNatUp, c45, q45, e1, strOf_size, qm]
        exact ⟨by simpa [byteCells] using World.ownsRow_nil _ _ _ _, Below.refl _ _⟩
      · have qm : ((l.length : Int).tmod 2 != 0) = false := by rw [Int.tmod_eq_emod_of_nonneg (by omega)]; simp; omega
        simp [go_sem, IntWalk.iteOmega, IntWalk.toNatUp, c45, q45, e1, strOf_size, qm]
        refine W_loop (fun st wr => ∃ (i : Nat) (v : Value), i ≤ l.length ∧ i % 2 = 0 ∧ st 0 = .string (strOf l) ∧ st 4 = v ∧ st 5 = .int .i64 i ∧ hexOk (l.take i) = true ∧ wr.ownsRow w.heap.size 5 1 v (pk (l.take i)).length (byteCells (pk (l.take i))) ∧ Below w.heap.size w wr) (fun st wr => l.length - (intOf (st 5)).toNat) ?_ ?_
        · exact ⟨0, .slice none 0 0, by omega, rfl, by simp [go_sem], by simp [go_sem], by simp [go_sem], rfl, by simpa [pk, byteCells] using World.ownsRow_nil _ _ _ _, Below.refl _ _⟩
        · rintro st wr ⟨i, v, hi, hev, e0, e4, e5, hok, hown, hbw⟩
          by_cases hlt : i < l.length
          · have hlt2 : i + 1 < l.length := by omega
            have hlt' : (i : Int) < l.length := by omega
            have x1 := fun w => run_index_str (P := Tryd.prog) (w := w) Tryd.underlying9 l i hlt
            have x2 := fun w => run_index_str (P := Tryd.prog) (w := w) Tryd.underlying9 l (i + 1) hlt2
            push_cast at x2
            have htk : l.take (i + 1 + 1) = l.take i ++ [l[i], l[i + 1]] := by rw [take_digs hlt2, take_digs hlt, List.append_assoc]; rfl
            have hos : hexOk (l.take (i + 1 + 1)) = (decide (undig (l[i]).toNat < 16) && decide (undig (l[i + 1]).toNat < 16)) := by
              rw [htk]
              unfold hexOk at hok ⊢
              rw [List.all_append, hok]; simp
            have hbad : ¬ (undig (l[i]).toNat < 16 ∧ undig (l[i + 1]).toNat < 16) → hexOk l = false := fun hn => by
              cases hq : hexOk l with
              | false => rfl
              | true =>
                have := hexOk_take hq (i + 1 + 1)
                rw [hos] at this
                simp at this
                exact absurd this hn
            have c1 := (l[i]).toNat_lt
            have c2 := (l[i + 1]).toNat_lt
            have hpk : pk (l.take (i + 1 + 1)) = pk (l.take i) ++ [byt l[i] l[i + 1]] := by rw [htk]; exact pk_snoc _ _ _ (by simp; omega)
            have hby := byt_eq l[i] l[i + 1]
            have r1 := fun w k => callE_eq noinit_digit (digit_runs (l[i]).toNat c1 w) k
            have r2 := fun w k => callE_eq noinit_digit (digit_runs (l[i + 1]).toNat c2 w) k
            have u1 := undig_le (l[i]).toNat
            have u2 := undig_le (l[i + 1]).toNat
            generalize byt l[i] l[i + 1] = B at *
            generalize (l[i]).toNat = a at *
            generalize (l[i + 1]).toNat = b at *
            simp [go_sem, IntWalk.iteOmega, IntWalk.toNatUp, e0, e4, e5, strOf_size, hlt, hlt', x1]
            refine W_flow (fun g => g < w.heap.size) (.pure 0 (.pure 1 (.pure 2 (.pure 4 (.pure 5 (.pure 6 (.pure 7 (.one 3 (.one 8 (.pure 9 (.pure 10 (.done)))))))))))) follows (by kernel_rfl) ?_
            have hr := held_refl (fun g => g < w.heap.size) wr.drew
            have hown2 := own_keep hown (ext_drew wr)
            have hbw2 := hbw.drew
            generalize wr.drew = w2 at *
            simp [go_sem, IntWalk.iteOmega, IntWalk.toNatUp, e0, e4, e5, strOf_size, hlt, hlt', x1, x2, r1, r2, hr]
            generalize undig a = p at *
            generalize undig b = q at *
            by_cases g1 : 15 < p
            · have g1' : (15 : Int) < p := by omega
              obtain ⟨b1, b2⟩ := bytes_bad h45 (.inl (hbad (by omega)))
              rw [b1, b2]
              simp [go_sem, IntWalk.iteOmega, IntWalk.toNatUp, g1']
              exact ⟨by simpa [byteCells] using World.ownsRow_nil _ _ _ _, hbw2⟩
            · have g1' : ¬ (15 : Int) < p := by omega
              by_cases g2 : 15 < q
              · have g2' : (15 : Int) < q := by omega
                obtain ⟨b1, b2⟩ := bytes_bad h45 (.inl (hbad (by omega)))
                rw [b1, b2]
                simp [go_sem, IntWalk.iteOmega, IntWalk.toNatUp, g1', g2']
                exact ⟨by simpa [byteCells] using World.ownsRow_nil _ _ _ _, hbw2⟩
              · have g2' : ¬ (15 : Int) < q := by omega
                have hB := hby (by omega) (by omega)
                have f1 : IntKind.u8.wrap (16 * (p : Int)) = 16 * p := IntWalk.u8_in _ (by omega)
                have f2 : IntKind.u8.wrap (16 * (p : Int) + q) = B.toNat := (IntWalk.u8_in _ (by omega)).trans (by omega)
                simp [go_sem, IntWalk.iteOmega, IntWalk.toNatUp, g1', g2', f1, f2, e4]
                have hN : Blk (w2.alloc (.cells #[.int .u8 (B.toNat : Int)] 5)) w2.heap.size 5 #[.int .u8 (B.toNat : Int)] := Blk.self_ rfl
                have hlt2 := hown2.lt
                have hbA := hbw2.alloc hbw2.size (.cells #[.int .u8 (B.toNat : Int)] 5)
                have hpl : (pk (l.take i)).length ≤ 50000 := by rw [pk_len]; simp; omega
                refine append1E (own_keep hown2 (ext_alloc w2 _)) hbA.size B hN (by omega) ?_
                intro v3 w3 hown3 g3
                have hb3 := hbA.grown g3 hbA.size (fun k hk => (hlt2 k hk).1)
                simp [go_sem, IntWalk.iteOmega, IntWalk.toNatUp, e0, e5]
                refine roundEnd.mk ⟨i + 1 + 1, v3, by omega, by omega, by simp [go_sem, e0], by simp [go_sem], ?_, by rw [hos]; simp; omega, ?_, hb3⟩ ?_
                · simp [go_sem]; omega
                · rw [hpk]; simpa using hown3
                · simp [go_sem, intOf]; omega
          · obtain rfl : i = l.length := by omega
            rw [List.take_of_length_le (Nat.le_refl _)] at hok hown
            obtain ⟨b1, b2⟩ := bytes_good h45 (by rintro (h | h); exact he h; exact hodd h) hok
            rw [b1, b2]
            simp [go_sem, IntWalk.iteOmega, IntWalk.toNatUp, e0, e4, e5, strOf_size]
            exact ⟨hown, hbw⟩
end Go.Proofs.YtpmmfabendnhiaaDoor
