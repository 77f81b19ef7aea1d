/-
  A word's bytes: the document's.
-/
import Derived.Test.YtmdkkhogldklnaaDoorRRRRSBytes
namespace Go.Proofs.YtmdkkhogldklnaaDoorRRRR
open Go.RowKit
open Go.Lib (strCells byteCells)
set_option linter.unusedVariables false
set_option linter.unusedSimpArgs false
set_option maxRecDepth 10000
theorem held_two {B : Nat} {w a b : World} (h1 : Below B w a) (h2 : Below B w b) (hs : a.heap.size ≤ b.heap.size) : heldE (fun g => g < B) a b :=
  ⟨hs, fun g hg _ => (h2.block g hg).trans (h1.block g hg).symm⟩
set_option maxHeartbeats 6400000 in
theorem rbytes_any (l : List UInt8) (hl : l.length ≤ 50000) (w : World) : callE Tryd.prog 6 #[.string (strOf l)] w fun v w' => (∃ u, v = .tuple #[u, .int .i64 (bytesE l)] ∧ w'.ownsRow w.heap.size 5 1 u (bytesL l).length (byteCells (bytesL l))) ∧ Below w.heap.size w w' := by
  have c45 : (⟨#[45]⟩ : ByteArray) = strOf [45] := rfl
  refine calls_E Tryd.func6 rfl rfl rfl (Nat.le_of_ble_eq_true rfl) ?_
  by_cases h45 : l = [45]
  · subst h45
    simp [go_sem, IntWalk.iteOmega, IntWalk.toNatUp, c45]
    exact ⟨⟨_, ⟨rfl, rfl⟩, World.ownsRow_nil _ _ _ _⟩, Below.refl _ _⟩
  · have q45 : ((strOf l).toList == (strOf [45]).toList) = false := beq_eq_false_iff_ne.2 fun h => h45 (str_ext.1 h)
    by_cases he : l = []
    · subst he
      obtain ⟨b1, b2⟩ := bytes_bad h45 (.inr (.inl rfl))
      rw [b1, b2]
      simp [go_sem, IntWalk.iteOmega, IntWalk.toNatUp, c45, q45, strOf_size]
      exact ⟨by simpa [byteCells] using World.ownsRow_nil _ _ _ _, Below.refl _ _⟩
    · have hpos : 0 < l.length := List.length_pos_iff.2 he
      have e1 : ((l.length : Int) == 0) = false := by simp; omega
      by_cases hodd : l.length % 2 = 1
      · obtain ⟨b1, b2⟩ := bytes_bad h45 (.inr (.inr hodd))
        have qm : ((l.length : Int).tmod 2 != 0) = true := by rw [Int.tmod_eq_emod_of_nonneg (by omega)]; simp; omega
        rw [b1, b2]
        simp [go_sem, IntWalk.iteOmega, IntWalk.toNatUp, c45, q45, e1, strOf_size, qm]
        exact ⟨by simpa [byteCells] using World.ownsRow_nil _ _ _ _, Below.refl _ _⟩
      · have qm : ((l.length : Int).tmod 2 != 0) = false := by rw [Int.tmod_eq_emod_of_nonneg (by omega)]; simp; omega
        simp [go_sem, IntWalk.iteOmega, IntWalk.toNatUp, c45, q45, e1, strOf_size, qm]
        refine W_loop (fun st wr => ∃ (i : Nat) (v : Value), i ≤ l.length ∧ i % 2 = 0 ∧ st 0 = .string (strOf l) ∧ st 4 = v ∧ st 5 = .int .i64 i ∧ hexOk (l.take i) = true ∧ wr.ownsRow w.heap.size 5 1 v (pk (l.take i)).length (byteCells (pk (l.take i))) ∧ Below w.heap.size w wr) (fun st wr => l.length - (intOf (st 5)).toNat) ?_ ?_
        · exact ⟨0, .slice none 0 0, by omega, rfl, by simp [go_sem], by simp [go_sem], by simp [go_sem], rfl, by simpa [pk, byteCells] using World.ownsRow_nil _ _ _ _, Below.refl _ _⟩
        · rintro st wr ⟨i, v, hi, hev, e0, e4, e5, hok, hown, hbw⟩
          by_cases hlt : i < l.length
          · have hlt2 : i + 1 < l.length := by omega
            have hlt' : (i : Int) < l.length := by omega
            have x1 := fun w => run_index_str (P := Tryd.prog) (w := w) Tryd.underlying9 l i hlt
            have x2 := fun w => run_index_str (P := Tryd.prog) (w := w) Tryd.underlying9 l (i + 1) hlt2
            push_cast at x2
            have htk : l.take (i + 1 + 1) = l.take i ++ [l[i], l[i + 1]] := by rw [take_digs hlt2, take_digs hlt, List.append_assoc]; rfl
            have hos : hexOk (l.take (i + 1 + 1)) = (decide (undig (l[i]).toNat < 16) && decide (undig (l[i + 1]).toNat < 16)) := by
              rw [htk]
              unfold hexOk at hok ⊢
              rw [List.all_append, hok]; simp
            have hbad : ¬ (undig (l[i]).toNat < 16 ∧ undig (l[i + 1]).toNat < 16) → hexOk l = false := fun hn => by
              cases hq : hexOk l with
              | false => rfl
              | true =>
                have := hexOk_take hq (i + 1 + 1)
                rw [hos] at this
                simp at this
                exact absurd this hn
            have c1 := (l[i]).toNat_lt
            have c2 := (l[i + 1]).toNat_lt
            have hpk : pk (l.take (i + 1 + 1)) = pk (l.take i) ++ [byt l[i] l[i + 1]] := by rw [htk]; exact pk_snoc _ _ _ (by simp; omega)
            have hby := byt_eq l[i] l[i + 1]
            have r1 := fun w k => callE_eq noinit_digit (digit_runs (l[i]).toNat c1 w) k
            have r2 := fun w k => callE_eq noinit_digit (digit_runs (l[i + 1]).toNat c2 w) k
            have u1 := undig_le (l[i]).toNat
            have u2 := undig_le (l[i + 1]).toNat
            generalize byt l[i] l[i + 1] = B at *
            generalize (l[i]).toNat = a at *
            generalize (l[i + 1]).toNat = b at *
            simp [go_sem, IntWalk.iteOmega, IntWalk.toNatUp, e0, e4, e5, strOf_size, hlt, hlt', x1]
            refine W_flow (fun g => g < w.heap.size) (.pure 0 (.pure 1 (.pure 2 (.pure 4 (.pure 5 (.pure 6 (.pure 7 (.one 3 (.one 8 (.pure 9 (.pure 10 (.done)))))))))))) follows (by kernel_rfl) ?_
            have hr := held_refl (fun g => g < w.heap.size) wr.drew
            have hown2 := own_keep hown (ext_drew wr)
            have hbw2 := hbw.drew
            generalize wr.drew = w2 at *
            simp [go_sem, IntWalk.iteOmega, IntWalk.toNatUp, e0, e4, e5, strOf_size, hlt, hlt', x1, x2, r1, r2, hr]
            generalize undig a = p at *
            generalize undig b = q at *
            by_cases g1 : 15 < p
            · have g1' : (15 : Int) < p := by omega
              obtain ⟨b1, b2⟩ := bytes_bad h45 (.inl (hbad (by omega)))
              rw [b1, b2]
              simp [go_sem, IntWalk.iteOmega, IntWalk.toNatUp, g1']
              exact ⟨by simpa [byteCells] using World.ownsRow_nil _ _ _ _, hbw2⟩
            · have g1' : ¬ (15 : Int) < p := by omega
              by_cases g2 : 15 < q
              · have g2' : (15 : Int) < q := by omega
                obtain ⟨b1, b2⟩ := bytes_bad h45 (.inl (hbad (by omega)))
                rw [b1, b2]
                simp [go_sem, IntWalk.iteOmega, IntWalk.toNatUp, g1', g2']
                exact ⟨by simpa [byteCells] using World.ownsRow_nil _ _ _ _, hbw2⟩
              · have g2' : ¬ (15 : Int) < q := by omega
                have hB := hby (by omega) (by omega)
                have f1 : IntKind.u8.wrap (16 * (p : Int)) = 16 * p := IntWalk.u8_in _ (by omega)
                have f2 : IntKind.u8.wrap (16 * (p : Int) + q) = B.toNat := (IntWalk.u8_in _ (by omega)).trans (by omega)
                simp [go_sem, IntWalk.iteOmega, IntWalk.toNatUp, g1', g2', f1, f2, e4]
                have hN : Blk (w2.alloc (.cells #[.int .u8 (B.toNat : Int)] 5)) w2.heap.size 5 #[.int .u8 (B.toNat : Int)] := Blk.self_ rfl
                have hlt2 := hown2.lt
                have hbA := hbw2.alloc hbw2.size (.cells #[.int .u8 (B.toNat : Int)] 5)
                have hpl : (pk (l.take i)).length ≤ 50000 := by rw [pk_len]; simp; omega
                refine append1E (own_keep hown2 (ext_alloc w2 _)) hbA.size B hN (by omega) ?_
                intro v3 w3 hown3 g3
                have hb3 := hbA.grown g3 hbA.size (fun k hk => (hlt2 k hk).1)
                simp [go_sem, IntWalk.iteOmega, IntWalk.toNatUp, e0, e5]
                refine roundEnd.mk ⟨i + 1 + 1, v3, by omega, by omega, by simp [go_sem, e0], by simp [go_sem], ?_, by rw [hos]; simp; omega, ?_, hb3⟩ ?_
                · simp [go_sem]; omega
                · rw [hpk]; simpa using hown3
                · simp [go_sem, intOf]; omega
          · obtain rfl : i = l.length := by omega
            rw [List.take_of_length_le (Nat.le_refl _)] at hok hown
            obtain ⟨b1, b2⟩ := bytes_good h45 (by rintro (h | h); exact he h; exact hodd h) hok
            rw [b1, b2]
            simp [go_sem, IntWalk.iteOmega, IntWalk.toNatUp, e0, e4, e5, strOf_size]
            exact ⟨hown, hbw⟩
end Go.Proofs.YtmdkkhogldklnaaDoorRRRR
