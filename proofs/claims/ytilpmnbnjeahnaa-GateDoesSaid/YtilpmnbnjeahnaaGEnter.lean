/-
  gate.Enter, by what it does to a gate.
-/
import Derived.Test.YtilpmnbnjeahnaaGGate
namespace Go.Proofs.Ytilpmnbnjeahnaa
open Go.RowKit
set_option linter.unusedVariables false
set_option linter.unusedSimpArgs false
set_option maxRecDepth 10000
def GS.drop (S : GS) (v : Nat) : GS := S.setSt v { S.st v with drops := IntKind.i64.wrap ((S.st v).drops + 1) }
def GS.room (S : GS) (v : Nat) (size : Int) : Int := min (min size S.free) (IntKind.i64.wrap (S.cfg.each - (S.st v).large))
def GS.rest (S : GS) (v : Nat) (size : Int) : Int := IntKind.i64.wrap (size - S.room v size)
def GS.next (S : GS) : Int := IntKind.i64.wrap (S.last + 1)
def GS.full (S : GS) (v : Nat) (size : Int) : Bool := decide (S.cfg.many ≤ (S.st v).many ∨ IntKind.i64.wrap (S.share.getD v 0 - (S.st v).own) < S.rest v size)
def GS.lets (S : GS) (v : Nat) (size : Int) : GS :=
  ({ S with last := S.next, l := S.l ++ [(S.next, ⟨v, S.room v size, S.rest v size⟩)] } : GS).count v 1 (S.room v size) (S.rest v size)
def GS.enter (S : GS) (v size : Int) : GS × Int × Int :=
  if v < 0 ∨ (S.n : Int) ≤ v ∨ size < 0 then (S, 0, 1)
  else if S.cfg.size < size then (S.drop v.toNat, 0, 3)
  else if S.full v.toNat size then (S.drop v.toNat, 0, 6)
  else (S.lets v.toNat size, S.next, 0)
theorem own_cells {w : World} {B n : Nat} {sv : Value} {l : List Int} (h : w.ownsRow B 2 1 sv n (ints .i64 l)) {v : Nat} (hv : v < n) :
    ∃ g cap, sv = .slice (some ⟨g, 0, none⟩) n cap ∧ B ≤ g ∧ g < w.heap.size ∧ l.length = n ∧ ∀ u, u < n → w.cell? ⟨g, u, none⟩ = some (.int .i64 (l.getD u 0)) := by
  obtain ⟨hl, h2⟩ := h
  have hl' : l.length = n := by simpa [ints] using hl
  rcases h2 with ⟨_, h0⟩ | ⟨g, cap, cur, hv', hb, hg, h3, h4, h5, h6⟩
  · omega
  · refine ⟨g, cap, hv', hb, Blk.lt (t := 2) (cs := cur) hg, hl', fun u hu => ?_⟩
    have := Blk.cell (t := 2) (cs := cur) hg u
    rw [this]
    have e : (cur.toList.take (n * 1))[u]? = (ints .i64 l)[u]? := by rw [h6]
    rw [ints_at (by omega), List.getElem?_take, if_pos (by omega)] at e
    simpa using e
set_option maxHeartbeats 3200000 in
theorem enter_any (B g : Nat) (S : GS) (w : World) (h : GateIn w B g S) (hf : atG S.next S.l = none) (v size : Int) :
    callE Try.prog 17 #[.pointer (some ⟨g, 0, none⟩), .int .i64 v, .int .i64 size] w fun u w' => u = .tuple #[.int .i64 (S.enter v size).2.1, .int .i64 (S.enter v size).2.2] ∧ GateIn w' B g (S.enter v size).1 ∧ Below B w w' := by
  have hno := fun k => callE_eq noinit_none (none_runs B g S w h) k
  obtain ⟨sv, m, b, h1, h2, h3, hg, hsh, hmp, ⟨cs, hb, hcs, hall⟩, hn⟩ := id h
  have hcell := hg.cell
  have hlt := hg.lt
  have hgfr := hg.frozen
  simp only [gcells] at hcell
  have hbcell := hb.cell
  have hblt := hb.lt
  by_cases c1 : v < 0
  · have he : S.enter v size = (S, 0, 1) := by simp [GS.enter, c1]
    refine calls_E Try.func17 rfl rfl rfl (Nat.le_of_ble_eq_true rfl) ?_
    simp [go_sem, IntWalk.iteOmega, IntWalk.toNatUp, hcell, hno, c1, he]
    exact ⟨h, Below.refl _ _⟩
  · by_cases c2 : (S.n : Int) ≤ v
    · have he : S.enter v size = (S, 0, 1) := by simp [GS.enter, c2]
      refine calls_E Try.func17 rfl rfl rfl (Nat.le_of_ble_eq_true rfl) ?_
      simp [go_sem, IntWalk.iteOmega, IntWalk.toNatUp, hcell, hno, c1, c2, he]
      exact ⟨h, Below.refl _ _⟩
    · by_cases c3 : size < 0
      · have he : S.enter v size = (S, 0, 1) := by simp [GS.enter, c3]
        refine calls_E Try.func17 rfl rfl rfl (Nat.le_of_ble_eq_true rfl) ?_
        simp [go_sem, IntWalk.iteOmega, IntWalk.toNatUp, hcell, hno, c1, c2, c3, he]
        exact ⟨h, Below.refl _ _⟩
      · obtain ⟨u, rfl⟩ : ∃ u : Nat, v = u := ⟨v.toNat, by omega⟩
        have hu : u < S.n := by omega
        by_cases c4 : S.cfg.size < size
        · have he : S.enter u size = (S.drop u, 0, 3) := by simp [GS.enter, c2, c3, c4]
          refine calls_E Try.func17 rfl rfl rfl (Nat.le_of_ble_eq_true rfl) ?_
          simp [go_sem, IntWalk.iteOmega, IntWalk.toNatUp, hcell, hno, c1, c2, c3, c4]
          refine callE_of (refuses_any B g S w h u hu 3) ?_
          rintro _ w1 ⟨rfl, hG, k⟩
          simp [go_sem, IntWalk.iteOmega, IntWalk.toNatUp, he]
          exact ⟨hG, k⟩
        · obtain ⟨x0, x1, x2, x3⟩ := hall u hu
          obtain ⟨sb, cap, rfl, hsB, hslt, hslen, hsc⟩ := own_cells hsh hu
          have hs0 := hsc u hu
          obtain ⟨E, hE⟩ : ∃ E, IntKind.i64.wrap (S.cfg.each - (S.st u).large) = E := ⟨_, rfl⟩
          obtain ⟨R, hR⟩ : ∃ R, (if E < (if S.free < size then S.free else size) then E else if S.free < size then S.free else size) = R := ⟨_, rfl⟩
          obtain ⟨O, hO⟩ : ∃ O, IntKind.i64.wrap (size - R) = O := ⟨_, rfl⟩
          obtain ⟨D, hD⟩ : ∃ D, IntKind.i64.wrap (S.share.getD u 0 - (S.st u).own) = D := ⟨_, rfl⟩
          obtain ⟨N, hN⟩ : ∃ N, IntKind.i64.wrap (S.last + 1) = N := ⟨_, rfl⟩
          have eR : S.room u size = R := by
            rw [GS.room, hE, ← hR]
            by_cases q1 : S.free < size <;> simp only [q1, if_true, if_false] <;> (by_cases q2 : E < S.free <;> by_cases q3 : E < size <;> simp only [q2, q3, if_true, if_false] <;> omega)
          have eO : S.rest u size = O := by rw [GS.rest, eR, hO]
          have eN : S.next = N := hN
          have hfull : S.full u size = decide (S.cfg.many ≤ (S.st u).many ∨ D < O) := by rw [GS.full, eO, hD]
          generalize S.share.getD u 0 = sh at *
          by_cases d : S.cfg.many ≤ (S.st u).many ∨ D < O
          · have he : S.enter u size = (S.drop u, 0, 6) := by simp [GS.enter, c2, c3, c4, hfull, d]
            refine calls_E Try.func17 rfl rfl rfl (Nat.le_of_ble_eq_true rfl) ?_
            simp [go_sem, IntWalk.iteOmega, IntWalk.toNatUp, hcell, hno, c1, c2, c3, c4, hu]
            refine W_still follows (by kernel_rfl) ?_
            simp [go_sem, IntWalk.iteOmega, IntWalk.toNatUp, hcell, hbcell, x0, x1, x2, hs0, hE, hR, hO]
            refine W_still follows (by kernel_rfl) ?_
            by_cases d1 : S.cfg.many ≤ (S.st u).many
            · simp [go_sem, IntWalk.iteOmega, IntWalk.toNatUp, hcell, hbcell, x0, x1, x2, hs0, hD, d1, hu]
              refine callE_of (refuses_any B g S w.drew.drew h u hu 6) ?_
              rintro _ w1 ⟨rfl, hG, k⟩
              simp [go_sem, IntWalk.iteOmega, IntWalk.toNatUp, he]
              exact ⟨hG, ((Below.refl B w).drew).drew.trans k⟩
            · have d2 : D < O := by omega
              simp [go_sem, IntWalk.iteOmega, IntWalk.toNatUp, hcell, hbcell, x0, x1, x2, hs0, hD, d1, d2, hu]
              refine callE_of (refuses_any B g S w.drew.drew h u hu 6) ?_
              rintro _ w1 ⟨rfl, hG, k⟩
              simp [go_sem, IntWalk.iteOmega, IntWalk.toNatUp, he]
              exact ⟨hG, ((Below.refl B w).drew).drew.trans k⟩
          · have d1 : ¬ S.cfg.many ≤ (S.st u).many := by omega
            have d2 : ¬ D < O := by omega
            have he : S.enter u size = (S.lets u size, N, 0) := by simp [GS.enter, c2, c3, c4, hfull, d1, d2, eN]
            refine calls_E Try.func17 rfl rfl rfl (Nat.le_of_ble_eq_true rfl) ?_
            simp [go_sem, IntWalk.iteOmega, IntWalk.toNatUp, hcell, hno, c1, c2, c3, c4, hu]
            refine W_still follows (by kernel_rfl) ?_
            simp [go_sem, IntWalk.iteOmega, IntWalk.toNatUp, hcell, hbcell, x0, x1, x2, hs0, hE, hR, hO]
            refine W_still follows (by kernel_rfl) ?_
            simp [go_sem, IntWalk.iteOmega, IntWalk.toNatUp, hcell, hbcell, x0, x1, x2, hs0, hD, d1, d2, hu, hgfr, hN]
            obtain ⟨W1, hW1⟩ : ∃ W1, W1 = (w.setCell ⟨g, 7, none⟩ (.int .i64 N)).drew.drew.drew := ⟨_, rfl⟩
            have f1 : ∀ k, k ≠ g → W1.heap[k]? = w.heap[k]? := fun k hk => by rw [hW1]; exact Below.heap_setCell _ _ _ _ hk
            have hg1 : Blk W1 g 64 (gcells { S with last := N } (.slice (some ⟨sb, 0, none⟩) S.n cap) m b) := by rw [hW1]; exact ((Blk_set (o := 7) (v := .int .i64 N) hg).drew).drew.drew
            have k1 : Below B w W1 := by rw [hW1]; exact (((Below.refl _ _).setCell h1 _).drew).drew.drew
            have hsh1 := own_far (w' := W1) hsh fun k cs hk => f1 _ (Blk_ne (t := 2) hk hg (by decide))
            have hmp1 : Mp W1 m .i64 (lv S.l) := Mp_far hmp (f1 _ fun e => Blk_ne_map hg hmp e.symm)
            have hst1 : Wst W1 b S.n S.st := ⟨cs, Blk_farh hb (f1 _ fun e => Blk_ne hg hb (by decide) e.symm), hcs, hall⟩
            have hcell1 := hg1.cell
            simp only [gcells] at hcell1
            have hupd := run_mapUpdate_int hmp1 und61 und2 N (.agg #[.int .i64 u, .int .i64 R, .int .i64 O])
            refine W_tree (.pure 0 (.pure 1 (.pure 2 (.pure 4 (.pure 5 (.pure 6 (.pure 8 (.pure 9 (.pure 10 (.pure 11 (.two 3 (.one 7 (.one 12 (.done))) 7 (.one 3 (.one 12 (.done)))))))))))))) follows (by kernel_rfl) ?_
            rw [← hW1]
            simp [go_sem, IntWalk.iteOmega, IntWalk.toNatUp, hcell1, hupd]
            have hmp2 := hmp1.put N (.agg #[.int .i64 u, .int .i64 R, .int .i64 O])
            have hput : putKey N (.agg #[.int .i64 u, .int .i64 R, .int .i64 O]) (lv S.l) = lv (S.l ++ [(N, ⟨u, R, O⟩)]) := by
              rw [put_new (by rw [atKey_lv, ← eN, hf]; rfl)]; simp [lv, GIn.val]
            rw [hput] at hmp2
            have hG := gate_map (S := { S with last := N }) (cs := #[]) h1 h2 h3 hg1 hsh1 hmp1 hst1 hn (fun k hk => mapPut_far W1 m (.int .i64 N) (.agg #[.int .i64 u, .int .i64 R, .int .i64 O]) (.int .i64) hk) hmp2
            have k2 := Below.mapPut k1 h2 (.int .i64 N) (.agg #[.int .i64 u, .int .i64 R, .int .i64 O]) (.int .i64)
            have hlets : S.lets u size = GS.count { { S with last := N } with l := S.l ++ [(N, ⟨u, R, O⟩)] } u 1 R O := by rw [GS.lets, eN, eR, eO]
            constructor <;>
            · refine callE_of (counts_any B g _ _ hG u hu 1 R O) ?_
              rintro _ w3 ⟨hG3, k3⟩
              obtain ⟨sv3, m3, b3, _, _, _, hg3, _⟩ := id hG3
              have hcell3 := hg3.cell
              have hlt3 := hg3.lt
              simp only [gcells, GS.count] at hcell3
              simp [go_sem, IntWalk.iteOmega, IntWalk.toNatUp, hcell3, he, hlets]
              exact ⟨hG3, k2.trans k3⟩
theorem noinit_enter : Try.prog.inits.idxOf? 17 = none := by kernel_rfl
end Go.Proofs.Ytilpmnbnjeahnaa
