/-
  Going through a gate: All.
-/
import Derived.Test.YtilpmnbnjeahnaaGKeys
import Derived.Test.YtilpmnbnjeahnaaOwn
namespace Go.Proofs.Ytilpmnbnjeahnaa
open Go.RowKit
set_option linter.unusedVariables false
set_option linter.unusedSimpArgs false
set_option maxRecDepth 10000
def keysG (S : GS) : List Int := S.l.map (·.1)
def whoG (S : GS) : List Int := S.l.map fun x => (x.2.v : Int)
/-- the tickets come rising -/
structure Asc (S : GS) : Prop where
  asc : (keysG S).Pairwise (· < ·)
  wf : ∀ x ∈ S.l, (Lit.int .i64 x.1).wf = true
  few : S.l.length ≤ 1000
theorem keysG_length (S : GS) : (keysG S).length = S.l.length := by simp [keysG]
theorem whoG_length (S : GS) : (whoG S).length = S.l.length := by simp [whoG]
theorem lv_fst (l : List (Int × GIn)) : (lv l).map (·.1) = l.map (·.1) := by simp [lv, List.map_map, Function.comp_def]
theorem lv_length (l : List (Int × GIn)) : (lv l).length = l.length := by simp [lv]
theorem atG_of {l : List (Int × GIn)} (h : (l.map (·.1)).Pairwise (· < ·)) : ∀ {i : Nat} (hi : i < l.length), atG (l[i]).1 l = some (l[i]).2 := by
  induction l with
  | nil => intro i hi; simp at hi
  | cons y l ih =>
    intro i hi
    rw [List.map_cons, List.pairwise_cons] at h
    cases i with
    | zero => simp [atG]
    | succ i =>
      have hi' : i < l.length := by simpa using hi
      have hlt := h.1 (l[i]).1 (List.mem_map.2 ⟨_, List.getElem_mem hi', rfl⟩)
      simp only [List.getElem_cons_succ, atG]
      rw [if_neg (by omega)]
      exact ih h.2 hi'
theorem field76 (a b c : Value) (w : World) : (Instr.field 76 (.agg #[a, b, c]) 0).run Try.prog w = .ok a w := run_field1 Try.underlying76 rfl shape3 rfl
set_option maxHeartbeats 3200000 in
theorem all_gate (B g : Nat) (S : GS) (w : World) (hB : B ≤ w.heap.size) (h : GateIn w B g S) (ha : Asc S) :
    callE Try.prog 22 #[.pointer (some ⟨g, 0, none⟩)] w fun u w' => ∃ A c A' c', u = .func (.func 38) #[] #[.pointer (some ⟨w.heap.size, 0, none⟩), .pointer (some ⟨w.heap.size + 1, 0, none⟩)] ∧
      Blk w' w.heap.size 24 #[.slice A S.l.length c] ∧ Blk w' (w.heap.size + 1) 81 #[.slice A' S.l.length c'] ∧ Sl w' 1 (.slice A S.l.length c) S.l.length (ints .i64 (keysG S)) ∧ Sl w' 1 (.slice A' S.l.length c') S.l.length (ints .i64 (whoG S)) ∧
      (∀ j, atB S.l.length A j ∨ atB S.l.length A' j → w.heap.size + 1 < j ∧ j < w'.heap.size) ∧ Below w.heap.size w w' := by
  have k2 : Below w.heap.size w ((w.alloc (.cells #[.slice none 0 0] 24)).alloc (.cells #[.slice none 0 0] 81)) := ext_trans (ext_alloc _ _) (ext_alloc _ _)
  have hl1 : Blk ((w.alloc (.cells #[.slice none 0 0] 24)).alloc (.cells #[.slice none 0 0] 81)) w.heap.size 24 #[.slice none 0 0] := (Blk.self_ rfl).more _
  have hw1 : Blk ((w.alloc (.cells #[.slice none 0 0] 24)).alloc (.cells #[.slice none 0 0] 81)) (w.heap.size + 1) 81 #[.slice none 0 0] := Blk.self_ (by simp)
  have hs1 : ((w.alloc (.cells #[.slice none 0 0] 24)).alloc (.cells #[.slice none 0 0] 81)).heap.size = w.heap.size + 2 := by simp
  refine calls_E Try.func22 rfl rfl rfl (Nat.le_of_ble_eq_true rfl) ?_
  simp [go_sem, IntWalk.iteOmega, IntWalk.toNatUp]
  generalize (w.alloc (.cells #[.slice none 0 0] 24)).alloc (.cells #[.slice none 0 0] 81) = W1 at *
  have hG1 := h.grow k2
  have hno := fun k => callE_eq noinit_none (none_runs B g S W1 hG1) k
  obtain ⟨sv, m, b, h1, h2, h3, hg, hsh, hmp, hst, hn⟩ := id hG1
  have hcell := hg.cell
  have hlt := hg.lt
  simp only [gcells] at hcell
  have hkeys := fun k => callE_eq noinit_keys (keysFn_runs (some m) W1) k
  simp [go_sem, IntWalk.iteOmega, IntWalk.toNatUp, hno, hcell, hkeys]
  refine callE_of (sorted_any m (lv S.l) W1 hmp (by simp only [lv, List.mem_map]; rintro x ⟨y, hy, rfl⟩; exact ha.wf y hy) (by rw [lv_length]; have := ha.few; omega) (by rw [lv_fst]; exact ha.asc)) ?_
  rintro v W2 ⟨hown, k3⟩
  rw [lv_fst, lv_length] at hown
  have hl2 := hl1.keep k3
  have hw2 := hw1.keep k3
  have hs2 := k3.size
  obtain ⟨hsl, A, c, rfl⟩ := own_sl hown
  have hl2f := hl2.frozen
  have hl2c := hl2.cell
  have hne := row_ne hown hl2 (by decide)
  have hl3 := Blk_set (o := 0) (v := .slice A S.l.length c) hl2
  have hw3 := hw2.farCell (b := w.heap.size) (o := 0) (by omega) (.slice A S.l.length c)
  have hown3 := row_keeps hown (Keeps.setCell (O := fun j => j ≠ w.heap.size) W2 ⟨w.heap.size, 0, none⟩ (.slice A S.l.length c) (fun h => h rfl)) (fun j hj e => hne (e ▸ hj))
  have kw3 : Below w.heap.size w (W2.setCell ⟨w.heap.size, 0, none⟩ (.slice A S.l.length c)) := (ext_trans k2 k3).setCell (by simp) _
  have hs3 : (W2.setCell ⟨w.heap.size, 0, none⟩ (.slice A S.l.length c)).heap.size = W2.heap.size := sz_set _ _ _
  simp [go_sem, IntWalk.iteOmega, IntWalk.toNatUp, hl2c, hl2f]
  generalize W2.setCell ⟨w.heap.size, 0, none⟩ (.slice A S.l.length c) = W3 at *
  refine W_loop (fun s wr => ∃ (i : Nat) (v : Value), i ≤ S.l.length ∧ s 0 = .pointer (some ⟨g, 0, none⟩) ∧ s 3 = .pointer (some ⟨w.heap.size, 0, none⟩) ∧ s 4 = .pointer (some ⟨w.heap.size + 1, 0, none⟩) ∧ s 16 = .slice A S.l.length c ∧ s 17 = .int .i64 S.l.length ∧ s 18 = .int .i64 i ∧
    Blk wr w.heap.size 24 #[.slice A S.l.length c] ∧ Blk wr (w.heap.size + 1) 81 #[v] ∧ wr.ownsRow (w.heap.size + 2) 3 1 v i (ints .i64 ((whoG S).take i)) ∧ wr.ownsRow (W1.heap.size + 1) 2 1 (.slice A S.l.length c) S.l.length (ints .i64 (keysG S)) ∧ Below w.heap.size w wr) (fun s _ => S.l.length - (intOf (s 18)).toNat) ?_ ?_
  · exact ⟨0, .slice none 0 0, by omega, by simp [go_sem], by simp [go_sem], by simp [go_sem], by simp [go_sem], by simp [go_sem], by simp [go_sem], hl3, hw3, World.ownsRow_nil _ _ _ _, hown3, kw3⟩
  · rintro s wr ⟨i, v, hi, e0, e3, e4, e16, e17, e18, hl, hw, hr, ho, kw⟩
    obtain ⟨hrs, A', c', rfl⟩ := own_sl hr
    by_cases hlt2 : i < S.l.length
    · obtain ⟨b2, o2, rfl, hb2, hc2⟩ := (Rd.of_own ho).cells (by omega)
      have x0 := hc2 i _ (ints_at (by rw [keysG_length]; exact hlt2))
      have hk0 : (keysG S).getD i 0 = (S.l[i]).1 := by simp [keysG, List.getD, hlt2]
      rw [hk0] at x0
      have hlt' : (i : Int) < S.l.length := by omega
      have hfew := ha.few
      have hi1 : -9223372036854775808 ≤ (i : Int) + 1 ∧ (i : Int) + 1 ≤ 9223372036854775807 := by omega
      have kd : Below w.heap.size w wr.drew := kw.drew
      obtain ⟨sv4, m4, b4, _, _, _, hg4, _, hmp4, _, _⟩ := h.grow kd
      have hg4c := hg4.cell
      have hg4l := hg4.lt
      simp only [gcells] at hg4c
      have hlook := run_lookup_int1 hmp4 und61 und2 (S.l[i]).1 (zero_in76 wr.drew)
      rw [atKey_lv, atG_of ha.asc hlt2] at hlook
      have hwho : (whoG S).take (i + 1) = (whoG S).take i ++ [((S.l[i]).2.v : Int)] := by
        rw [List.take_add_one]; simp [whoG, hlt2]
      have hlook : (Instr.lookup 61 (.map (some m4)) (.int .i64 (S.l[i]).1) false).run Try.prog wr.drew = .ok (.agg #[.int .i64 (S.l[i]).2.v, .int .i64 (S.l[i]).2.large, .int .i64 (S.l[i]).2.own]) wr.drew := hlook
      generalize S.l[i] = y at *
      simp [go_sem, IntWalk.iteOmega, IntWalk.toNatUp, e0, e3, e4, e16, e17, e18, hlt', hlt2, x0]
      have hwd := hw.drew
      have hwc := hwd.cell
      have hwl := hwd.lt
      refine W_tree (.pure 1 (.pure 2 (.pure 3 (.pure 5 (.two 0 (.one 4 (.one 6 (.pure 7 (.one 8 (.one 9 (.one 10 (.done))))))) 4 (.two 0 (.one 6 (.pure 7 (.one 8 (.one 9 (.one 10 (.done)))))) 6 (.pure 7 (.two 0 (.one 8 (.one 9 (.one 10 (.done)))) 8 (.one 0 (.one 9 (.one 10 (.done)))))))))))) follows (by kernel_rfl) ?_
      have hwAc : ∀ j, (wr.alloc (.cells #[.int .i64 y.2.v] 3)).cell? ⟨w.heap.size + 1, j, none⟩ = #[Value.slice A' i c'][j]? := fun j => (hw.more _).cell j
      simp [go_sem, IntWalk.iteOmega, IntWalk.toNatUp, e0, e3, e4, e16, e17, e18, hwc, hg4c, hlook, field76, hwAc]
      have kA : Below wr.heap.size wr (wr.alloc (.cells #[.int .i64 y.2.v] 3)).drew := (ext_alloc _ _).drew
      have hyb : Blk (wr.alloc (.cells #[.int .i64 y.2.v] 3)).drew wr.heap.size 3 #[.int .i64 y.2.v] := (Blk.self_ rfl).drew
      have hnew : Rd (wr.alloc (.cells #[.int .i64 y.2.v] 3)).drew 1 (some ⟨wr.heap.size, 0, none⟩) 1 (ints .i64 [(y.2.v : Int)]) :=
        ⟨rfl, fun _ => ⟨_, _, rfl, by simp [sz_drew], fun j u hu => by rw [hyb.cell, Nat.zero_add, List.getElem?_toArray]; exact hu⟩⟩
      have hrA := row_below hr kA
      have hoA := row_below ho kA
      have hlA := hl.keep kA
      have hwA := hw.keep kA
      have kwA := kw.trans (kA.mono kw.size)
      have hsA := kA.size
      have hsw := kw.size
      have hso : w.heap.size + 2 ≤ wr.heap.size := by have := hwA.lt; have := hw.lt; omega
      generalize (wr.alloc (.cells #[.int .i64 y.2.v] 3)).drew = WA at *
      and_intros <;>
      · refine appendE (w.heap.size + 2) 3 1 8 Try.underlying81 el3 hrA hnew rfl (by unfold maxLen; have := ha.few; omega) (by have := ha.few; omega) (by omega) ?_
        intro v' B3 hr3 hgr hblk
        obtain ⟨_, A3, c3, rfl⟩ := own_sl hr3
        have hl3 : Blk B3 w.heap.size 24 #[.slice (some ⟨b2, o2, none⟩) S.l.length c] := (hgr.block _ hlA.lt (fun e => row_ne hrA hlA (by decide) e.symm)).trans hlA
        have hw3 : Blk B3 (w.heap.size + 1) 81 #[.slice A' i c'] := (hgr.block _ hwA.lt (fun e => row_ne hrA hwA (by decide) e.symm)).trans hwA
        have ho3 := row_keeps hoA (Keeps.grown (O := fun j => (Value.slice A' i c').ownBlock ≠ some j) hgr fun k hk h => h hk) (fun j hj e => rows_ne hrA hoA (by decide) j e hj)
        have kw3 : Below w.heap.size w B3 := kwA.grown hgr kwA.size (fun k hk => by have := (hrA.lt k hk).1; omega)
        have hw3c := hw3.cell
        have hw3f := hw3.frozen
        simp [go_sem, IntWalk.iteOmega, IntWalk.toNatUp, hw3c, hw3f, e0, e3, e4, e16, e17, e18]
        refine roundEnd.mk ⟨i + 1, _, hlt2, by simp [go_sem, e0], by simp [go_sem, e3], by simp [go_sem, e4], by simp [go_sem, e16], by simp [go_sem, e17], by (simp [go_sem, wrap_i64_if, hi1]), hl3.farCell (by omega) _, Blk_set hw3, ?_, ?_, kw3.setCell (by simp) _⟩ ?_
        · rw [hwho]
          have hne3 := row_ne hr3 hw3 (by decide)
          have := row_keeps hr3 (Keeps.setCell (O := fun j => j ≠ w.heap.size + 1) B3 ⟨w.heap.size + 1, 0, none⟩ (.slice A3 (i + 1) c3) (fun h => h rfl)) (fun j hj e => hne3 (e ▸ hj))
          simpa [ints] using this
        · have hne3 := row_ne ho3 hw3 (by decide)
          exact row_keeps ho3 (Keeps.setCell (O := fun j => j ≠ w.heap.size + 1) _ _ _ (fun h => h rfl)) (fun j hj e => hne3 (e ▸ hj))
        · simp [go_sem, intOf, hi1]; omega
    · obtain rfl : i = S.l.length := by omega
      simp [go_sem, IntWalk.iteOmega, IntWalk.toNatUp, e0, e3, e4, e16, e17, e18]
      obtain ⟨hrw, _⟩ := own_sl hr
      obtain ⟨hro, _⟩ := own_sl ho
      have htk : (whoG S).take S.l.length = whoG S := List.take_of_length_le (by rw [whoG_length]; omega)
      rw [htk] at hrw
      refine ⟨_, _, hl, _, _, hw, hro, hrw, ?_, kw⟩
      rintro j (hj | hj)
      · have := ho.lt j (atB_row ho hj); omega
      · have := hr.lt j (atB_row hr hj); omega
end Go.Proofs.Ytilpmnbnjeahnaa
