/-
  Whether a text may be a name.
-/
import Derived.Test.YtoabdejoabfbeaaDoorVRunes
namespace Go.Proofs.YtoabdejoabfbeaaDoor
open Go.RowKit
set_option linter.unusedVariables false
set_option linter.unusedSimpArgs false
set_option maxRecDepth 10000
def nameOk (s : ByteArray) : Bool := decide (1 ≤ (runes s).length ∧ (runes s).length ≤ 16) && (runes s).all letterOk
def nameE (s : ByteArray) : Int := if nameOk s then 0 else 50
theorem name_bad {s : ByteArray} {c : Int} (h : c ∈ runes s) (hc : letterOk c = false) : nameE s = 50 := by
  have : (runes s).all letterOk = false := by
    rw [List.all_eq_false]
    exact ⟨c, h, by simp [hc]⟩
  simp [nameE, nameOk, this]
theorem name_long {s : ByteArray} (h : 16 < (runes s).length) : nameE s = 50 := by
  have : ¬ (1 ≤ (runes s).length ∧ (runes s).length ≤ 16) := by omega
  simp [nameE, nameOk, this]
theorem name_none {s : ByteArray} (h : (runes s).length = 0) : nameE s = 50 := by
  have : ¬ (1 ≤ (runes s).length ∧ (runes s).length ≤ 16) := by omega
  simp [nameE, nameOk, this]
theorem name_good {s : ByteArray} (h1 : 1 ≤ (runes s).length) (h2 : (runes s).length ≤ 16) (h : ∀ c ∈ runes s, letterOk c = true) : nameE s = 0 := by
  have e : (runes s).all letterOk = true := List.all_eq_true.2 h
  have : 1 ≤ (runes s).length ∧ (runes s).length ≤ 16 := ⟨h1, h2⟩
  simp [nameE, nameOk, e, this]
set_option maxHeartbeats 1600000 in
theorem vname_any (s : ByteArray) (hs : s.size ≤ 9223372036854775807) (w : World) : callE Tryd.prog 24 #[.string s] w fun v w' => v = .int .i64 (nameE s) ∧ Below w.heap.size w w' := by
  have hr := fun w => run_range_str (P := Tryd.prog) (w := w) undS s
  have hlet := fun c w k => callE_eq noinit_letter (letter_runs c w) k
  refine calls_E Tryd.func24 rfl rfl rfl (Nat.le_of_ble_eq_true rfl) ?_
  simp [go_sem, IntWalk.iteOmega, IntWalk.toNatUp, hr]
  refine W_loop (fun st wr => ∃ (i : Nat) (had : List Int), st 7 = .pointer (some ⟨w.heap.size, 0, none⟩) ∧ st 3 = .int .i64 had.length ∧ It wr w.heap.size s i ∧ had ++ runesAt s i = runes s ∧ had.length ≤ 16 ∧ (∀ c ∈ had, letterOk c = true) ∧ Below w.heap.size w wr) (fun st _ => ((runes s).length - (intOf (st 3)).toNat)) ?_ ?_
  · exact ⟨0, [], by simp [go_sem], by simp [go_sem], It_made w s, by simp [runes], by simp, by simp, ext_alloc _ _⟩
  · rintro st wr ⟨i, had, e7, e3, hit, hn, hl, hg, hbw⟩
    by_cases hlt : i < s.size
    · have hx := run_next_str (P := Tryd.prog) hit
      have hnx := runesAt_next hlt
      rw [hnx] at hn
      have hit2 := hit.put (i + (Utf8.decode s i).2)
      have hbw2 := Below.itPut hbw (Nat.le_refl _) (.stringIter s (i + (Utf8.decode s i).2))
      have hlen : (runes s).length = had.length + 1 + (runesAt s (i + (Utf8.decode s i).2)).length := by rw [← hn]; simp; omega
      generalize hc : ((Utf8.decode s i).1 : Int) = c at *
      have hmem : c ∈ runes s := by rw [← hn]; simp
      by_cases h16 : had.length = 16
      · have h16' : (16 : Int) < (had.length : Int) + 1 := by omega
        have he := name_long (s := s) (by omega)
        simp [go_sem, IntWalk.iteOmega, IntWalk.toNatUp, e7, e3, hx, hlt, h16', hc, he]
        exact hbw2
      · have h16' : ¬ (16 : Int) < (had.length : Int) + 1 := by omega
        cases hco : letterOk c with
        | false =>
          have he := name_bad hmem hco
          simp [go_sem, IntWalk.iteOmega, IntWalk.toNatUp, e7, e3, hx, hlt, h16', hc, hlet, hco, he]
          exact hbw2
        | true =>
          simp [go_sem, IntWalk.iteOmega, IntWalk.toNatUp, e7, e3, hx, hlt, h16', hc, hlet, hco]
          refine roundEnd.mk ⟨_, had ++ [c], by simp [go_sem, e7], by simp [go_sem], hit2, by simpa using hn, by simp; omega, fun d hd => ?_, hbw2⟩ ?_
          · rcases List.mem_append.1 hd with hd | hd
            · exact hg d hd
            · rw [List.mem_singleton.1 hd]; exact hco
          · simp [go_sem, intOf]; omega
    · have hx := run_next_end (P := Tryd.prog) hit
      rw [runesAt_end hlt, List.append_nil] at hn
      rw [hn] at hl hg e3
      by_cases h0 : (runes s).length = 0
      · have h0' : ((runes s).length : Int) = 0 := by omega
        have he := name_none h0
        have hz : (((runes s).length : Int) == 0) = true := by simp [h0']
        simp [go_sem, IntWalk.iteOmega, IntWalk.toNatUp, e7, e3, hx, hlt, hz, he]
        exact hbw
      · have he := name_good (by omega) hl hg
        have hz : (((runes s).length : Int) == 0) = false := by simp; intro e; rw [e] at h0; simp at h0
        simp [go_sem, IntWalk.iteOmega, IntWalk.toNatUp, e7, e3, hx, hlt, hz, he]
        exact hbw
theorem noinit_vname : Tryd.prog.inits.idxOf? 24 = none := by kernel_rfl
set_option maxHeartbeats 1600000 in
theorem rname_any (s : ByteArray) (hs : s.size ≤ 9223372036854775807) (w0 : World) : callE Tryd.prog 30 #[.string s] w0 fun v w' => v = .int .i64 (nameE s) ∧ Below w0.heap.size w0 w' := by
  have hr := fun w => run_range_str (P := Tryd.prog) (w := w) undS s
  have hlet := fun c w k => callE_eq noinit_rletter (rletter_runs c w) k
  refine calls_E Tryd.func30 rfl rfl rfl (Nat.le_of_ble_eq_true rfl) ?_
  simp [go_sem, IntWalk.iteOmega, IntWalk.toNatUp]
  refine callE_of (rrunes_any s hs w0) ?_
  rintro _ w ⟨rfl, k0⟩
  by_cases h1 : (runes s).length < 1
  · have h1' : ((runes s).length : Int) < 1 := by omega
    have he := name_none (s := s) (by omega)
    simp [go_sem, IntWalk.iteOmega, IntWalk.toNatUp, h1', he]
    exact k0
  · by_cases h2 : 16 < (runes s).length
    · have h1' : ¬ ((runes s).length : Int) < 1 := by omega
      have h2' : (16 : Int) < (runes s).length := by omega
      have he := name_long h2
      simp [go_sem, IntWalk.iteOmega, IntWalk.toNatUp, h1', h2', he]
      exact k0
    · have h1' : ¬ ((runes s).length : Int) < 1 := by omega
      have h2' : ¬ (16 : Int) < (runes s).length := by omega
      simp [go_sem, IntWalk.iteOmega, IntWalk.toNatUp, h1', h2', hr]
      refine W_loop (fun st wr => ∃ (i : Nat) (had : List Int), st 15 = .pointer (some ⟨w.heap.size, 0, none⟩) ∧ It wr w.heap.size s i ∧ had ++ runesAt s i = runes s ∧ (∀ c ∈ had, letterOk c = true) ∧ Below w.heap.size w wr ∧ i ≤ i) (fun st wr => match wr.heap[w.heap.size]? with | some (.stringIter _ i) => (runesAt s i).length | _ => 0) ?_ ?_
      · exact ⟨0, [], by simp [go_sem], It_made w s, by simp [runes], by simp, ext_alloc _ _, Nat.le_refl _⟩
      · rintro st wr ⟨i, had, e15, hit, hn, hg, hbw, -⟩
        have hit' : wr.heap[w.heap.size]? = some (.stringIter s i) := hit
        by_cases hlt : i < s.size
        · have hx := run_next_str (P := Tryd.prog) hit
          have hnx := runesAt_next hlt
          have hm : (runesAt s i).length = (runesAt s (i + (Utf8.decode s i).2)).length + 1 := by rw [hnx]; simp
          rw [hnx] at hn
          have hit2 := hit.put (i + (Utf8.decode s i).2)
          have hit2' : (itPut wr w.heap.size (.stringIter s (i + (Utf8.decode s i).2))).heap[w.heap.size]? = some (.stringIter s (i + (Utf8.decode s i).2)) := hit2
          have hbw2 := Below.itPut hbw (Nat.le_refl _) (.stringIter s (i + (Utf8.decode s i).2))
          generalize hc : ((Utf8.decode s i).1 : Int) = c at *
          have hmem : c ∈ runes s := by rw [← hn]; simp
          cases hco : letterOk c with
          | false =>
            have he := name_bad hmem hco
            simp [go_sem, IntWalk.iteOmega, IntWalk.toNatUp, e15, hx, hlt, hc, hlet, hco, he]
            exact ext_trans k0 hbw2
          | true =>
            simp [go_sem, IntWalk.iteOmega, IntWalk.toNatUp, e15, hx, hlt, hc, hlet, hco]
            refine roundEnd.mk ⟨_, had ++ [c], by simp [go_sem, e15], hit2, by simpa using hn, fun d hd => ?_, hbw2, Nat.le_refl _⟩ ?_
            · rcases List.mem_append.1 hd with hd | hd
              · exact hg d hd
              · rw [List.mem_singleton.1 hd]; exact hco
            · simp only [hit2', hit']; omega
        · have hx := run_next_end (P := Tryd.prog) hit
          rw [runesAt_end hlt, List.append_nil] at hn
          rw [hn] at hg
          have he := name_good (by omega) (by omega) hg
          simp [go_sem, IntWalk.iteOmega, IntWalk.toNatUp, e15, hx, hlt, he]
          exact ext_trans k0 hbw
theorem noinit_rname : Tryd.prog.inits.idxOf? 30 = none := by kernel_rfl
end Go.Proofs.YtoabdejoabfbeaaDoor
