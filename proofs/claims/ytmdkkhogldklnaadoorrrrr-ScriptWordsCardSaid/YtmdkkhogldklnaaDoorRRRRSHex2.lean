/-
  Bytes' word: the document's.
-/
import Derived.Test.YtmdkkhogldklnaaDoorRRRRSHex
namespace Go.Proofs.YtmdkkhogldklnaaDoorRRRR
open Go.RowKit
open Go.Lib (strCells byteCells)
set_option linter.unusedVariables false
set_option linter.unusedSimpArgs false
set_option maxRecDepth 10000
theorem hexDigits_cut : ∀ n : Fin 16, (hexDigits.take (n.val + 1)).drop n.val = [dig16 n.val] := by decide +kernel
set_option maxHeartbeats 3200000 in
theorem rhex_any (l : List UInt8) (hl : l.length ≤ 100000) (vl : Value) (w : World) (hs : Sl w 1 vl l.length (byteCells l)) :
    callE Tryd.prog 13 #[vl] w fun v w' => v = .string (strOf (hexV l)) ∧ Below w.heap.size w w' := by
  obtain ⟨A, cap, rfl, hrd, hA, hc1, hc2⟩ := id hs
  have c0 : (⟨#[]⟩ : ByteArray) = strOf [] := rfl
  refine calls_E Tryd.func13 rfl rfl rfl (Nat.le_of_ble_eq_true rfl) ?_
  by_cases he : l = []
  · subst he
    simp [go_sem, IntWalk.iteOmega, IntWalk.toNatUp]
    exact ⟨rfl, Below.refl _ _⟩
  · have hpos : 0 < l.length := List.length_pos_iff.2 he
    have hne : ((l.length : Int) == 0) = false := by simp; omega
    simp [go_sem, IntWalk.iteOmega, IntWalk.toNatUp, hne, c0]
    refine W_loop (fun st wr => ∃ (i : Nat), i ≤ l.length ∧ st 0 = .slice A l.length cap ∧ st 3 = .string (strOf ((l.take i).flatMap hx)) ∧ st 4 = .int .i64 i ∧ Below w.heap.size w wr) (fun st _ => l.length - (intOf (st 4)).toNat) ?_ ?_
    · exact ⟨0, by omega, by simp [go_sem], by simp [go_sem], by simp [go_sem], Below.refl _ _⟩
    · rintro st wr ⟨i, hi, e0, e3, e4, hbw⟩
      have hfl : ∀ r : List UInt8, (r.flatMap hx).length = 2 * r.length := by
        intro r; induction r with
        | nil => rfl
        | cons a r ih => rw [List.flatMap_cons, List.length_append, ih]; simp [hx]; omega
      by_cases hlt : i < l.length
      · obtain ⟨b, o, rfl, hb, hc⟩ := hrd.cells (by omega)
        have x0 := hc i _ (bl_at l i hlt)
        rw [← hbw.cell hb] at x0
        have hlt' : (i : Int) < l.length := by omega
        have htk : l.take (i + 1) = l.take i ++ [l[i]] := take_digs hlt
        have hcl := (l[i]).toNat_lt
        have hfi := hfl (l.take i)
        have x0' : wr.drew.cell? ⟨b, o + i, none⟩ = some (.int .u8 ((l[i]).toNat : Int)) := x0
        generalize l[i] = c at *
        obtain ⟨a, ha⟩ : ∃ a : Nat, (c.toNat : Int).tdiv 16 = a ∧ c.toNat / 16 = a := ⟨c.toNat / 16, by rw [Int.tdiv_eq_ediv_of_nonneg (by omega)]; omega, rfl⟩
        obtain ⟨b4, hb4⟩ : ∃ b4 : Nat, (c.toNat : Int).tmod 16 = b4 ∧ c.toNat % 16 = b4 := ⟨c.toNat % 16, by rw [Int.tmod_eq_emod_of_nonneg (by omega)]; omega, rfl⟩
        have fa : IntKind.u8.wrap (a : Int) = a := by rw [wrap_u8_if, if_pos (by omega)]
        have fa1 : IntKind.u8.wrap ((a : Int) + 1) = a + 1 := by rw [wrap_u8_if, if_pos (by omega)]
        have fb : IntKind.u8.wrap (b4 : Int) = b4 := by rw [wrap_u8_if, if_pos (by omega)]
        have fb1 : IntKind.u8.wrap ((b4 : Int) + 1) = b4 + 1 := by rw [wrap_u8_if, if_pos (by omega)]
        have hTl : ((l.take i).flatMap hx).length ≤ 200000 := by rw [hfi]; simp; omega
        obtain ⟨T, hT⟩ : ∃ T, (l.take i).flatMap hx = T := ⟨_, rfl⟩
        rw [hT] at hTl e3
        have ha2 : a < 16 := by omega
        have hb2 : b4 < 16 := by omega
        have ka : (hexDigits.take (a + 1)).drop a = [dig16 a] := hexDigits_cut ⟨a, ha2⟩
        have kb : (hexDigits.take (b4 + 1)).drop b4 = [dig16 b4] := hexDigits_cut ⟨b4, hb2⟩
        have hsz : (strOf hexDigits).size = 16 := rfl
        have hcat1 : ¬ 9223372036854775807 < ([dig16 a].length + [dig16 b4].length : Nat) := by simp
        have hcat2 : ¬ 9223372036854775807 < T.length + 2 := by omega
        simp [go_sem, IntWalk.iteOmega, IntWalk.toNatUp, e0, e3, e4, hlt, hlt', x0, hexDigits_str]
        refine W_still follows (by kernel_rfl) ?_
        simp [go_sem, IntWalk.iteOmega, IntWalk.toNatUp, e0, e3, e4, hlt, hlt', x0', hexDigits_str, ha.1, hb4.1, fa, fa1, fb, fb1, strOf_part, hsz, ka, kb, strOf_app, strOf_size, hcat1, hcat2]
        refine roundEnd.mk ⟨i + 1, by omega, by simp [go_sem, e0], ?_, by simp [go_sem], hbw.drew⟩ ?_
        · rw [htk, List.flatMap_append, hT]
          have e : [c].flatMap hx = [dig16 a, dig16 b4] := by simp [hx, ha.2, hb4.2]
          rw [e]
          simp [go_sem]
        · simp [go_sem, intOf]; omega
      · obtain rfl : i = l.length := by omega
        simp [go_sem, IntWalk.iteOmega, IntWalk.toNatUp, e0, e3, e4]
        refine ⟨?_, hbw⟩
        unfold hexV; rw [if_neg he]; rfl
end Go.Proofs.YtmdkkhogldklnaaDoorRRRR
