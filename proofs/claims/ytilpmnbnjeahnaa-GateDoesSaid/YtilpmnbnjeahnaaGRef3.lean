/-
  The reference's gate: Leave.
-/
import Derived.Test.YtilpmnbnjeahnaaGRef2
namespace Go.Proofs.Ytilpmnbnjeahnaa
open Go.RowKit
set_option linter.unusedVariables false
set_option linter.unusedSimpArgs false
set_option maxRecDepth 10000
def filT (t : Int) (l : List (Int × GIn)) : List (Int × GIn) := l.filter fun x => x.1 != t
theorem filT_all {t : Int} {l : List (Int × GIn)} (h : ∀ x ∈ l, x.1 ≠ t) : filT t l = l := List.filter_eq_self.2 fun x hx => by simpa using h x hx
theorem filT_del {t : Int} : ∀ {l : List (Int × GIn)}, (l.map (·.1)).Pairwise (· < ·) → filT t l = delG t l
  | [], _ => rfl
  | x :: l, h => by
    rw [List.map_cons, List.pairwise_cons] at h
    unfold delG
    by_cases e : t = x.1
    · rw [if_pos e]
      have h1 : filT t (x :: l) = filT t l := by unfold filT; rw [List.filter_cons, if_neg (by simp [e])]
      rw [h1]
      exact filT_all fun y hy => by have := h.1 y.1 (List.mem_map.2 ⟨y, hy, rfl⟩); omega
    · rw [if_neg e]
      have h1 : filT t (x :: l) = x :: filT t l := by unfold filT; rw [List.filter_cons, if_pos (by simpa using fun h => e h.symm)]
      rw [h1, filT_del h.2]
theorem filT_take {t : Int} {l : List (Int × GIn)} {i : Nat} (h : i < l.length) : filT t (l.take (i + 1)) = filT t (l.take i) ++ (if (l[i]).1 != t then [l[i]] else []) := by
  unfold filT
  rw [List.take_add_one, List.getElem?_eq_getElem h, List.filter_append]
  congr 1
  simp only [Option.toList, List.filter_cons, List.filter_nil]
theorem del_len {t : Int} : ∀ {l : List (Int × GIn)} {x : GIn}, atG t l = some x → (delG t l).length + 1 = l.length
  | [], _, h => by cases h
  | y :: l, x, h => by
    unfold atG at h
    unfold delG
    split at h
    · rename_i e; rw [if_pos e]; rfl
    · rename_i e; rw [if_neg e]; simp [del_len h]
theorem at_all {t : Int} : ∀ {l : List (Int × GIn)}, atG t l = none → ∀ x ∈ l, x.1 ≠ t
  | [], _, x, hx => by cases hx
  | y :: l, h, x, hx => by
    unfold atG at h
    split at h
    · cases h
    · rename_i e
      rcases List.mem_cons.1 hx with rfl | hx
      · exact fun e' => e e'.symm
      · exact at_all h x hx
theorem oneM (l : List (Int × GIn)) : allOne (msgs l) = true := allOne_of fun v hv => by
  obtain ⟨x, _, hx⟩ := List.mem_flatMap.1 hv
  simp only [msgC, List.mem_cons, List.not_mem_nil, or_false] at hx
  rcases hx with rfl | rfl | rfl | rfl <;> rfl
variable {c : GCfg} {sh : List Int} {k : Nat} {S : GS}
set_option maxHeartbeats 6400000 in
theorem rLeave_any (B : Nat → Prop) (n0 r : Nat) (l : List Int) (w : World) (h : RefIn w B n0 r l S) (hI : IF c sh l.length k S) (hk : k ≤ 1000) (hB : ∀ j, B j → j < w.heap.size) (t : Int) :
    callE Try.prog 25 #[.pointer (some ⟨r, 0, none⟩), .int .i64 t] w fun u w' => u = .int .i64 (S.leave t).2 ∧ RefIn w' B n0 r l (S.leave t).1 ∧ Below n0 w w' ∧ Keeps B w w' := by
  have hlen := hI.len
  have hn0 : n0 ≤ w.heap.size := by obtain ⟨_, _, _, h1, _, _, _, hr, _⟩ := h; have := hr.lt; omega
  refine calls_E Try.func25 rfl rfl rfl (Nat.le_of_ble_eq_true rfl) ?_
  simp [go_sem, IntWalk.iteOmega, IntWalk.toNatUp]
  refine W_loop (fun s wr => ∃ (i : Nat) (v : Value), i ≤ S.l.length ∧ s 0 = .pointer (some ⟨r, 0, none⟩) ∧ s 1 = .int .i64 t ∧ s 5 = v ∧ s 6 = .int .i64 i ∧ wr.ownsRow w.heap.size 94 4 v (filT t (S.l.take i)).length (msgs (filT t (S.l.take i))) ∧ Below w.heap.size w wr) (fun s _ => S.l.length - (intOf (s 6)).toNat) ?_ ?_
  · exact ⟨0, .slice none 0 0, by omega, by simp [go_sem], by simp [go_sem], by simp [go_sem], by simp [go_sem], World.ownsRow_nil _ _ _ _, Below.refl _ _⟩
  · rintro s wr ⟨i, v, hi, e0, e1, e5, e6, hout, hbw⟩
    obtain ⟨wv, Lv, d, h1, h2, h3, h4, hr, hw, hwB, hL, hLB, hd, hne⟩ := h.grow hbw
    have hcell := hr.cell
    simp only [rcells] at hcell
    have hrl := hr.lt
    obtain ⟨_, A4, cp4, rfl⟩ := own_sl hL
    obtain ⟨_, A5, cp5, rfl⟩ := own_sl hout
    by_cases hlt : i < S.l.length
    · have hlt' : (i : Int) < S.l.length := by omega
      obtain ⟨b, o, rfl, hb, hcs⟩ := (Rd.of_own hL).cells (by omega)
      obtain ⟨y0, y1, y2, y3⟩ := msgs_at S.l i hlt
      have x0 := hcs _ _ y0
      have x1 := hcs _ _ y1
      have x2 := hcs _ _ y2
      have x3 := hcs _ _ y3
      rw [← Nat.add_assoc] at x1 x2 x3
      have hft := filT_take (t := t) hlt
      have hfl : (filT t (S.l.take i)).length ≤ 1000 := by
        have h5 : (filT t (S.l.take i)).length ≤ (S.l.take i).length := List.length_filter_le _ _
        rw [List.length_take] at h5; omega
      generalize S.l[i] = x at *
      generalize hF : filT t (S.l.take i) = F at *
      by_cases hx : x.1 = t
      · have hxe : (x.1 != t) = false := by simp [hx]
        rw [hxe, if_neg (by simp), List.append_nil] at hft
        simp [go_sem, IntWalk.iteOmega, IntWalk.toNatUp, hcell, e0, e1, e5, e6, hlt, hlt', x0, hxe]
        refine roundEnd.mk ⟨i + 1, .slice A5 F.length cp5, by omega, by simp [go_sem, e0], by simp [go_sem, e1], by simp [go_sem, e5], by simp [go_sem], by rw [hft]; exact hout, hbw⟩ ?_
        simp [go_sem, intOf]; omega
      · have hxe : (x.1 != t) = true := by simpa using hx
        rw [hxe, if_pos rfl] at hft
        simp [go_sem, IntWalk.iteOmega, IntWalk.toNatUp, hcell, e0, e1, e5, e6, hlt, hlt', x0, x1, x2, x3, hxe]
        have kA := ext_alloc wr (.cells #[.int .i64 x.1, .int .i64 x.2.v, .int .i64 x.2.large, .int .i64 x.2.own] 94)
        have hxb : Blk (wr.alloc (.cells #[.int .i64 x.1, .int .i64 x.2.v, .int .i64 x.2.large, .int .i64 x.2.own] 94)) wr.heap.size 94 #[.int .i64 x.1, .int .i64 x.2.v, .int .i64 x.2.large, .int .i64 x.2.own] := Blk.self_ rfl
        have hrx : Rd (wr.alloc (.cells #[.int .i64 x.1, .int .i64 x.2.v, .int .i64 x.2.large, .int .i64 x.2.own] 94)) 4 (some ⟨wr.heap.size, 0, none⟩) 1 (msgs [x]) := ⟨rfl, fun _ => ⟨_, 0, rfl, hxb.lt, fun q u hu => by rw [hxb.cell, Nat.zero_add, List.getElem?_toArray]; exact hu⟩⟩
        have houtA := row_below hout kA
        have hbA := hbw.trans (kA.mono hbw.size)
        generalize wr.alloc (.cells #[.int .i64 x.1, .int .i64 x.2.v, .int .i64 x.2.large, .int .i64 x.2.own] 94) = wA at *
        refine appendE w.heap.size 94 4 32 Try.underlying90 el94 houtA hrx (oneM _) (by unfold maxLen; omega) (by omega) hbA.size ?_
        intro v6 w6 hr6 hg6 hbk6
        have hb6 := hbA.grown hg6 hbA.size (fun k hk => (houtA.lt k hk).1)
        rw [← msgs_app, ← hft, show F.length + 1 = (F ++ [x]).length by simp, ← hft] at hr6
        simp [go_sem, IntWalk.iteOmega, IntWalk.toNatUp, e0, e1, e5, e6]
        refine roundEnd.mk ⟨i + 1, _, by omega, by simp [go_sem, e0], by simp [go_sem, e1], by simp [go_sem], by simp [go_sem], hr6, hb6⟩ ?_
        simp [go_sem, intOf]; omega
    · obtain rfl : i = S.l.length := by omega
      rw [List.take_of_length_le (Nat.le_refl _), filT_del hI.asc] at hout e5
      have hkB : Keeps B w wr := Keeps.of_below hbw fun j _ hj => hB j hj
      cases hat : atG t S.l with
      | none =>
        have hlv : S.leave t = (S, 4) := by simp [GS.leave, hat]
        have hdl : delG t S.l = S.l := by rw [← filT_del hI.asc]; exact filT_all (at_all hat)
        rw [hdl] at hout e5
        simp [go_sem, IntWalk.iteOmega, IntWalk.toNatUp, hcell, e0, e1, e5, e6, hlv, hdl]
        exact ⟨h.grow hbw, hbw.mono hn0, hkB⟩
      | some x =>
        have hlv : S.leave t = (({ S with l := delG t S.l } : GS).count x.v (-1) (IntKind.i64.wrap (-x.large)) (IntKind.i64.wrap (-x.own)), 0) := by simp [GS.leave, hat]
        have hdn := del_len hat
        have hle : (((delG t S.l).length : Int) == (S.l.length : Int)) = false := beq_eq_false_iff_ne.2 (by omega)
        have hdr := dropsOf_leave S l.length t
        have hl2 : (S.leave t).2 = 0 := by rw [hlv]
        have hcf : (S.leave t).1.cfg = S.cfg := by rw [hlv]; rfl
        have hla : (S.leave t).1.last = S.last := by rw [hlv]; rfl
        have hll : (S.leave t).1.l = delG t S.l := by rw [hlv]; rfl
        clear hlv
        generalize (S.leave t).1 = S' at *
        have hrf := hr.frozen
        simp [go_sem, IntWalk.iteOmega, IntWalk.toNatUp, hcell, hrf, e0, e1, e5, e6, hl2, hle]
        have hnd : d ≠ r := Blk_ne hd hr (by decide)
        have hsetB : Keeps (fun j => j ≠ r) wr (wr.setCell ⟨r, 6, none⟩ (.slice A5 (delG t S.l).length cp5)) := Keeps.setCell _ _ _ fun h => h rfl
        refine ⟨⟨wv, .slice A5 (delG t S.l).length cp5, d, h1, h2, h3, h4, ?_, row_keeps hw hsetB fun j hj e => row_ne hw hr (by decide) (e ▸ hj), hwB, ?_, fun j hj hBj => by have := hB j hBj; have := (hout.lt j hj).1; omega, ?_, hne⟩, (hbw.mono hn0).setCell h1 _, hkB.trans (Keeps.setCell _ _ _ h3)⟩
        · have := Blk_set (o := 6) (v := .slice A5 (delG t S.l).length cp5) hr
          unfold rcells at this ⊢
          rw [hcf, hla]; exact this
        · rw [hll]
          have hr0 := row_keeps hout hsetB fun j hj e => row_ne hout hr (by decide) (e ▸ hj)
          refine ⟨hr0.1, ?_⟩
          rcases hr0.2 with q | ⟨g, cap, cur, q1, q2, q3⟩
          · exact .inl q
          · exact .inr ⟨g, cap, cur, q1, Nat.le_trans hn0 q2, q3⟩
        · show Blk _ d 2 (iblk (dropsOf _ l.length))
          rw [hdr]
          exact hd.farCell hnd _
theorem noinit_rleave : Try.prog.inits.idxOf? 25 = none := by kernel_rfl
end Go.Proofs.Ytilpmnbnjeahnaa
