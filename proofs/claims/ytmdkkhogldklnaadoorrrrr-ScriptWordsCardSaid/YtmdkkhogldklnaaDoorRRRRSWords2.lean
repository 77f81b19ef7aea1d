/-
  A line's words: the document's.
-/
import Derived.Test.YtmdkkhogldklnaaDoorRRRRSWords
namespace Go.Proofs.YtmdkkhogldklnaaDoorRRRR
open Go.RowKit
set_option linter.unusedVariables false
set_option linter.unusedSimpArgs false
set_option maxRecDepth 10000
set_option maxHeartbeats 3200000 in
theorem rwords_any (t : List UInt8) (ht : t.length ≤ 50000) (w : World) :
    callE Tryd.prog 11 #[.string (strOf t)] w fun v w' => w'.ownsRow w.heap.size 9 1 v (wordsV t).length (strs (wordsV t)) ∧ Below w.heap.size w w' := by
  have c0 : (⟨#[]⟩ : ByteArray) = strOf [] := rfl
  refine calls_E Tryd.func11 rfl rfl rfl (Nat.le_of_ble_eq_true rfl) ?_
  simp [go_sem, IntWalk.iteOmega, IntWalk.toNatUp, c0]
  have hN0 : Blk (w.alloc (.cells #[.string (strOf [])] 9)) w.heap.size 9 #[.string (strOf [])] := Blk.self_ rfl
  refine W_loop (fun st wr => ∃ (i g c : Nat) (ws : List (List UInt8)) (cur : List UInt8), i ≤ t.length ∧ ws.length ≤ i ∧ cur.length ≤ i ∧ st 0 = .string (strOf t) ∧ st 3 = .slice (some ⟨g, 0, none⟩) (ws.length + 1) c ∧ st 4 = .int .i64 i ∧ wordsV t = ws ++ wordsGo cur (t.drop i) ∧ wr.ownsRow w.heap.size 9 1 (.slice (some ⟨g, 0, none⟩) (ws.length + 1) c) (ws.length + 1) (strs (ws ++ [cur])) ∧ Below w.heap.size w wr) (fun st _ => t.length - (intOf (st 4)).toNat) ?_ ?_
  · refine ⟨0, w.heap.size, 1, [], [], by omega, by simp, by simp, by simp [go_sem], by simp [go_sem], by simp [go_sem], by simp [wordsV], ⟨by simp [strs], .inr ⟨w.heap.size, 1, _, rfl, Nat.le_refl _, hN0, by simp, by unfold maxLen; omega, by simp, by simp [strs]⟩⟩, ext_alloc _ _⟩
  · rintro st wr ⟨i, g, c, ws, cur, hi, hwl, hcl, e0, e3, e4, hwv, hown, hbw⟩
    by_cases hlt : i < t.length
    · have hlt' : (i : Int) < t.length := by omega
      have x1 := fun w => run_index_str (P := Tryd.prog) (w := w) Tryd.underlying9 t i hlt
      have hdr : t.drop i = t[i] :: t.drop (i + 1) := drop_at hlt
      generalize t[i] = ch at *
      by_cases hq : ch = 32
      · subst hq
        have hq' : ((UInt8.toNat 32 : Nat) : Int) = 32 := rfl
        simp [go_sem, IntWalk.iteOmega, IntWalk.toNatUp, c0, strOf_size, e0, e3, e4, hlt, hlt', x1, hq']
        have hN : Blk (wr.alloc (.cells #[.string (strOf [])] 9)) wr.heap.size 9 #[.string (strOf [])] := Blk.self_ rfl
        have hlt2 := hown.lt
        have hbA := hbw.alloc hbw.size (.cells #[.string (strOf [])] 9)
        refine appendW (own_keep hown (ext_alloc wr _)) hN hbA.size (by omega) ?_
        intro v3 w3 hown3 g3
        have hb3 := hbA.grown g3 hbA.size (fun k hk => (hlt2 k hk).1)
        obtain ⟨g', c', rfl⟩ : ∃ g' c', v3 = .slice (some ⟨g', 0, none⟩) (ws.length + 1 + 1) c' := by
          rcases hown3.2 with ⟨_, h⟩ | ⟨g', cap, cur', h, _⟩
          · omega
          · exact ⟨g', cap, h⟩
        simp [go_sem, IntWalk.iteOmega, IntWalk.toNatUp, e0, e3, e4]
        refine roundEnd.mk ⟨i + 1, g', c', ws ++ [cur], [], by omega, by simp; omega, by simp, by simp [go_sem, e0], by simp [go_sem], by simp [go_sem], ?_, ?_, hb3⟩ ?_
        · rw [hwv, hdr, wordsGo, if_pos rfl]; simp
        · simpa using hown3
        · simp [go_sem, intOf]; omega
      · have hq' : ((ch.toNat : Int) == 32) = false := by
          have : ¬ ch.toNat = 32 := fun h => hq (UInt8.toNat_inj.1 h)
          simp; omega
        simp [go_sem, IntWalk.iteOmega, IntWalk.toNatUp, c0, strOf_size, e0, e3, e4, hlt, hlt', x1, hq']
        refine W_tail 13 follows (by kernel_rfl) ?_
        have hcell := hown.cells (g := g) rfl ws.length (.string (strOf cur)) (by simp [strs])
        rw [add_none, Nat.zero_add] at hcell
        obtain ⟨cs, hB⟩ : ∃ cs, Blk wr g 9 cs := by
          rcases hown.2 with ⟨h, _⟩ | ⟨g', cap, cs, h, _, hg, _⟩
          · cases h
          · injection h with h
            injection h with h
            injection h with h
            subst h
            exact ⟨cs, hg⟩
        have hfz := hB.drew.frozen ws.length
        have hcell2 : wr.drew.cell? ⟨g, ws.length, none⟩ = some (.string (strOf cur)) := hcell
        have e1 : (t.take (i + 1)).drop i = [ch] := by
          have h1 : i < (t.take (i + 1)).length := by simp; omega
          have := drop_at h1
          have h2 : (t.take (i + 1)).drop (i + 1) = [] := List.drop_eq_nil_of_le (by simp; omega)
          rw [h2] at this
          rw [this]
          have h3 := drop_at hlt
          rw [hdr] at h3
          injection h3 with h3 _
          rw [h3]
          simp
        have hsl : ¬ 9223372036854775807 < cur.length + 1 := by omega
        have hlen1 : ((ws.length + 1 : Nat) : Int) - 1 = ws.length := by omega
        have hput := own_put (own_keep hown (ext_drew wr)) (i := ws.length) (by omega) (.string (strOf (cur ++ [ch])))
        have hbp := hbw.drew.setCell (p := ⟨g, ws.length, none⟩) (hown.lt g rfl).1 (.string (strOf (cur ++ [ch])))
        simp [go_sem, IntWalk.iteOmega, IntWalk.toNatUp, e0, e3, e4, hcell2, hfz, strOf_part, strOf_app, strOf_size, hsl, e1]
        refine roundEnd.mk ⟨i + 1, g, c, ws, cur ++ [ch], by omega, by omega, by simp; omega, by simp [go_sem, e0], by simp [go_sem, e3], by simp [go_sem], ?_, ?_, hbp⟩ ?_
        · rw [hwv, hdr, wordsGo, if_neg hq]
        · have : strs (ws ++ [cur ++ [ch]]) = (strs (ws ++ [cur])).set ws.length (.string (strOf (cur ++ [ch]))) := by simp [strs]
          rw [this]; exact hput
        · simp [go_sem, intOf]; omega
    · obtain rfl : i = t.length := by omega
      simp [go_sem, IntWalk.iteOmega, IntWalk.toNatUp, c0, strOf_size, e0, e3, e4]
      have hwv' : wordsV t = ws ++ [cur] := by
        rw [hwv, List.drop_of_length_le (Nat.le_refl _)]; rfl
      rw [hwv']
      exact ⟨by simpa using hown, hbw⟩
end Go.Proofs.YtmdkkhogldklnaaDoorRRRR
