/-
  A word's bytes: the program's.
-/
import Derived.Test.YtmdkkhogldklnaaDoorRRRRSDig
namespace Go.Proofs.YtmdkkhogldklnaaDoorRRRR
open Go.RowKit
open Go.Lib (strCells byteCells)
set_option linter.unusedVariables false
set_option linter.unusedSimpArgs false
set_option maxRecDepth 10000
theorem hexOk_take {l : List UInt8} (h : hexOk l = true) (i : Nat) : hexOk (l.take i) = true := by
  unfold hexOk at *
  rw [List.all_eq_true] at *
  exact fun x hx => h x (List.mem_of_mem_take hx)
theorem hexOk_snoc (l : List UInt8) (c : UInt8) : hexOk (l ++ [c]) = (hexOk l && decide (undig c.toNat < 16)) := by unfold hexOk; rw [List.all_append]; simp
theorem bytes_bad {l : List UInt8} (h1 : l ≠ [45]) (h : hexOk l = false ∨ l = [] ∨ l.length % 2 = 1) : bytesL l = [] ∧ bytesE l = 8 := by
  have : bytesV l = none := by
    unfold bytesV
    rw [if_neg h1]
    rcases h with h | h
    · split
      · rfl
      · rw [if_neg (by rw [h]; simp)]
    · rw [if_pos h]
  unfold bytesL bytesE
  rw [this]
  exact ⟨rfl, rfl⟩
theorem bytes_good {l : List UInt8} (h1 : l ≠ [45]) (h2 : ¬ (l = [] ∨ l.length % 2 = 1)) (h : hexOk l = true) : bytesL l = pk l ∧ bytesE l = 0 := by
  have : bytesV l = some (pk l) := by
    unfold bytesV
    rw [if_neg h1, if_neg h2, if_pos h]
  unfold bytesL bytesE
  rw [this]
  exact ⟨rfl, rfl⟩
theorem or_bits : ∀ a b : Fin 16, IntKind.u8.wrap (bits .or .i64 ((a.val : Int) * 16) (b.val : Int)) = ((16 * a.val + b.val : Nat) : Int) := by decide +kernel
theorem byt_eq (a b : UInt8) (ha : undig a.toNat < 16) (hb : undig b.toNat < 16) : ((byt a b).toNat : Int) = ((16 * undig a.toNat + undig b.toNat : Nat) : Int) := by
  unfold byt
  rw [ofNat_toNat (by omega)]
open Go.Lib (decode_at decodeN) in
theorem rune_le (s : ByteArray) (i : Nat) : (Utf8.decode s i).1 ≤ 1114111 := by
  rw [decode_at]; unfold decodeN
  repeat' split
  all_goals simp only
  all_goals omega
set_option maxHeartbeats 6400000 in
theorem bytes_any (l : List UInt8) (hl : l.length ≤ 50000) (w : World) : callE Tryd.prog 5 #[.string (strOf l)] w fun v w' => (∃ u, v = .tuple #[u, .int .i64 (bytesE l)] ∧ w'.ownsRow w.heap.size 5 1 u (bytesL l).length (byteCells (bytesL l))) ∧ Below w.heap.size w w' := by
  have hr := fun w => run_range_str (P := Tryd.prog) (w := w) undS (strOf l)
  have c45 : (⟨#[45]⟩ : ByteArray) = strOf [45] := rfl
  refine calls_E Tryd.func5 rfl rfl rfl (Nat.le_of_ble_eq_true rfl) ?_
  by_cases h45 : l = [45]
  · subst h45
    simp [go_sem, IntWalk.iteOmega, IntWalk.toNatUp, c45]
    exact ⟨⟨_, ⟨rfl, rfl⟩, World.ownsRow_nil _ _ _ _⟩, Below.refl _ _⟩
  · have q45 : ((strOf l).toList == (strOf [45]).toList) = false := beq_eq_false_iff_ne.2 fun h => h45 (str_ext.1 h)
    by_cases he : l = []
    · subst he
      have e1 : (strOf []).toList.isEmpty = true := by rw [str_nil]; rfl
      obtain ⟨b1, b2⟩ := bytes_bad h45 (.inr (.inl rfl))
      rw [b1, b2]
      simp [go_sem, IntWalk.iteOmega, IntWalk.toNatUp, c45, q45, e1]
      exact ⟨by simpa [byteCells] using World.ownsRow_nil _ _ _ _, Below.refl _ _⟩
    · have e1 : (strOf l).toList.isEmpty = false := by
        rw [List.isEmpty_eq_false_iff]
        exact fun h => he ((str_ext (b := [])).1 (h.trans str_nil.symm))
      by_cases hodd : l.length % 2 = 1
      · obtain ⟨b1, b2⟩ := bytes_bad h45 (.inr (.inr hodd))
        have qm : ((l.length : Int).tmod 2 == 1) = true := by rw [Int.tmod_eq_emod_of_nonneg (by omega)]; simp; omega
        rw [b1, b2]
        simp [go_sem, IntWalk.iteOmega, IntWalk.toNatUp, c45, q45, e1, strOf_size, qm]
        exact ⟨by simpa [byteCells] using World.ownsRow_nil _ _ _ _, Below.refl _ _⟩
      · have qm : ((l.length : Int).tmod 2 == 1) = false := by rw [Int.tmod_eq_emod_of_nonneg (by omega)]; simp; omega
        simp [go_sem, IntWalk.iteOmega, IntWalk.toNatUp, c45, q45, e1, strOf_size, qm, hr]
        refine W_loop (fun st wr => ∃ (i : Nat) (v : Value) (h : Int), i ≤ l.length ∧ st 20 = .pointer (some ⟨w.heap.size, 0, none⟩) ∧ st 4 = v ∧ st 5 = .int .i64 h ∧ hexOk (l.take i) = true ∧ (i % 2 = 0 → h = -1) ∧ (i % 2 = 1 → ∃ q : i - 1 < l.length, h = undig (l[i - 1]).toNat) ∧ wr.ownsRow (w.heap.size + 1) 5 1 v (pk (l.take i)).length (byteCells (pk (l.take i))) ∧ It wr w.heap.size (strOf l) i ∧ Below w.heap.size w wr) (fun _ wr => itLeft w.heap.size l.length wr) ?_ ?_
        · exact ⟨0, .slice none 0 0, -1, by omega, by simp [go_sem], by simp [go_sem], by simp [go_sem], rfl, fun _ => rfl, fun h => by omega, by simpa [pk, byteCells] using World.ownsRow_nil _ _ _ _, It_made w _, ext_alloc _ _⟩
        · rintro st wr ⟨i, v, h, hi, e20, e4, e5, hok, hev, hod, hown, hit, hbw⟩
          have hsz : w.heap.size < wr.heap.size := hit.lt
          have hleft := itLeft_eq (n := l.length) hit
          by_cases hlt : i < l.length
          · have hlt' : i < (strOf l).size := by rw [strOf_size]; exact hlt
            have hg := get_eq l i hlt
            have hx := run_next_str (P := Tryd.prog) hit
            have htk : l.take (i + 1) = l.take i ++ [l[i]] := take_digs hlt
            have hos := hexOk_snoc (l.take i) l[i]
            rw [← htk] at hos
            have hbad : ¬ undig (l[i]).toNat < 16 → hexOk l = false := fun hn => by
              cases hq : hexOk l with
              | false => rfl
              | true =>
                have := hexOk_take hq (i + 1)
                rw [hos, hok] at this
                simp at this
                exact absurd this (by simpa using hn)
            by_cases hlo : (l[i]).toNat < 128
            · have hdec := rune_low (s := strOf l) (i := i) (by rw [hg]; exact hlo)
              rw [hg] at hdec
              rw [hdec] at hx
              simp only at hx
              generalize hcc : (l[i]).toNat = c at *
              have r1 := fun w k => callE_eq noinit_nibble (nibble_runs c (by omega) w) k
              have hit2 := hit.put (i + 1)
              have hown2 := own_itPut hown (r := w.heap.size) (by omega) (.stringIter (strOf l) (i + 1))
              have hbw2 := Below.itPut hbw (Nat.le_refl _) (.stringIter (strOf l) (i + 1))
              by_cases hu : undig c < 16
              · have hn : nibV c = undig c := by unfold nibV; rw [if_pos hu]
                rw [hn] at r1
                have hos' : hexOk (l.take (i + 1)) = true := by rw [hos, hok]; simpa using hu
                have q1 : ¬ ((undig c : Nat) : Int) < 0 := by omega
                rcases Nat.mod_two_eq_zero_or_one i with hp | hp
                · have hh := hev hp
                  subst hh
                  have hpk : pk (l.take (i + 1)) = pk (l.take i) := by rw [htk]; exact pk_odd _ _ (by simp; omega)
                  have e5' : st 5 = .int .i64 (-1) := e5
                  simp [go_sem, IntWalk.iteOmega, IntWalk.toNatUp, e20, e4, e5', hx, hlt', r1, q1]
                  refine roundEnd.mk ⟨i + 1, v, (undig c : Int), by omega, by simp [go_sem, e20], by simp [go_sem, e4], by simp [go_sem], hos', fun hc => by omega, fun _ => ⟨by simpa using hlt, by simp only [Nat.add_sub_cancel]; exact congrArg (fun k => ((undig k : Nat) : Int)) hcc.symm⟩, by rw [hpk]; exact hown2, hit2, hbw2⟩ ?_
                  rw [itLeft_eq hit2, hleft]; omega
                · obtain ⟨q, hh⟩ := hod hp
                  have htk1 : l.take i = l.take (i - 1) ++ [l[i - 1]] := by
                    have := take_digs q
                    rwa [show i - 1 + 1 = i by omega] at this
                  have hu1 : undig (l[i - 1]).toNat < 16 := by
                    rw [htk1, hexOk_snoc] at hok
                    simp at hok
                    exact hok.2
                  have hpk0 : pk (l.take i) = pk (l.take (i - 1)) := by rw [htk1]; exact pk_odd _ _ (by simp; omega)
                  have hpk1 : pk (l.take (i + 1)) = pk (l.take i) ++ [byt l[i - 1] l[i]] := by rw [hpk0, htk, htk1, List.append_assoc]; exact pk_snoc _ _ _ (by simp; omega)
                  have hby := byt_eq l[i - 1] l[i] hu1 (by rw [hcc]; exact hu)
                  have hor := or_bits ⟨undig (l[i - 1]).toNat, hu1⟩ ⟨undig c, hu⟩
                  simp only at hor
                  rw [hcc] at hby
                  rw [← hby] at hor
                  have hpl : (pk (l.take i)).length ≤ 50000 := by rw [pk_len]; simp; omega
                  generalize byt l[i - 1] l[i] = B at *
                  generalize undig (l[i - 1]).toNat = a at *
                  generalize undig c = b at *
                  subst hh
                  have q2 : ¬ (a : Int) < 0 := by omega
                  have hsz2 : w.heap.size < (itPut wr w.heap.size (.stringIter (strOf l) (i + 1))).heap.size := hit2.lt
                  have hpsz := itPut_size wr w.heap.size (.stringIter (strOf l) (i + 1))
                  simp [go_sem, IntWalk.iteOmega, IntWalk.toNatUp, e20, e4, e5, hx, hlt', r1, q1, q2, hor]
                  rw [← hpsz]
                  generalize itPut wr w.heap.size (.stringIter (strOf l) (i + 1)) = w2 at *
                  have hN : Blk (w2.alloc (.cells #[.int .u8 (B.toNat : Int)] 5)) w2.heap.size 5 #[.int .u8 (B.toNat : Int)] := Blk.self_ rfl
                  have hlt2 := hown2.lt
                  have hbA := hbw2.alloc hbw2.size (.cells #[.int .u8 (B.toNat : Int)] 5)
                  refine append1E (own_keep hown2 (ext_alloc w2 _)) (Nat.le_trans (by omega) (ext_alloc w2 (.cells #[.int .u8 (B.toNat : Int)] 5)).size) B hN (by omega) ?_
                  intro v3 w3 hown3 g3
                  have hb3 := hbA.grown g3 hbA.size (fun k hk => by have := (hlt2 k hk).1; omega)
                  have hit3 := It_far (hit2.keep (ext_alloc w2 (.cells #[.int .u8 (B.toNat : Int)] 5))) (g3.block w.heap.size (by simp; omega) (fun e => by have := (hlt2 _ e.symm).1; omega))
                  simp [go_sem, IntWalk.iteOmega, IntWalk.toNatUp, e20, e4]
                  refine roundEnd.mk ⟨i + 1, v3, -1, by omega, by simp [go_sem, e20], by simp [go_sem], by simp [go_sem], hos', fun _ => rfl, fun hc => by omega, ?_, hit3, hb3⟩ ?_
                  · rw [hpk1]; simpa using hown3
                  · rw [itLeft_eq hit3, hleft]; omega
              · have hn : nibV c = -1 := by unfold nibV; rw [if_neg hu]
                rw [hn] at r1
                obtain ⟨b1, b2⟩ := bytes_bad h45 (.inl (hbad hu))
                rw [b1, b2]
                simp [go_sem, IntWalk.iteOmega, IntWalk.toNatUp, e20, e4, e5, hx, hlt', r1]
                exact ⟨by simpa [byteCells] using World.ownsRow_nil _ _ _ _, hbw2⟩
            · have hhi := rune_high (s := strOf l) (i := i) (by rw [hg]; exact hlo)
              have hru := rune_le (strOf l) i
              have hnu : ¬ undig (l[i]).toNat < 16 := by unfold undig; rw [if_neg (by omega), if_neg (by omega)]; omega
              obtain ⟨b1, b2⟩ := bytes_bad h45 (.inl (hbad hnu))
              rw [b1, b2]
              generalize Utf8.decode (strOf l) i = D at *
              obtain ⟨rn, wd⟩ := D
              simp only at hx hhi hru
              have r1 := fun w k => callE_eq noinit_nibble (nibble_runs rn hru w) k
              have hn : nibV rn = -1 := by unfold nibV undig; rw [if_neg (show ¬ (48 ≤ rn ∧ rn ≤ 57) by omega), if_neg (show ¬ (97 ≤ rn ∧ rn ≤ 102) by omega)]; rfl
              rw [hn] at r1
              simp [go_sem, IntWalk.iteOmega, IntWalk.toNatUp, e20, e4, e5, hx, hlt', r1]
              exact ⟨by simpa [byteCells] using World.ownsRow_nil _ _ _ _, Below.itPut hbw (Nat.le_refl _) _⟩
          · obtain rfl : i = l.length := by omega
            have hx := run_next_end (P := Tryd.prog) hit
            have hlt' : ¬ l.length < (strOf l).size := by rw [strOf_size]; omega
            rw [List.take_of_length_le (Nat.le_refl _)] at hok hown
            obtain ⟨b1, b2⟩ := bytes_good h45 (by rintro (h | h); exact he h; exact hodd h) hok
            rw [b1, b2]
            simp [go_sem, IntWalk.iteOmega, IntWalk.toNatUp, e20, e4, e5, hx, hlt']
            exact ⟨row_low hown (by omega), hbw⟩
end Go.Proofs.YtmdkkhogldklnaaDoorRRRR
