/-
  Texts joined: PRLine, PRRead.
-/
import Derived.Test.YtpmmfabendnhiaaDoorJoin24
namespace Go.Proofs.YtpmmfabendnhiaaDoor
open Go.RowKit
open Go.Lib (strCells byteCells decDigits)
set_option linter.unusedVariables false
set_option linter.unusedSimpArgs false
set_option maxRecDepth 10000
def fieldW (m : Mv) (c : UInt8) : Wds := if c = 110 then [decDigits m.node] else if c = 116 then [decDigits m.rcv] else if c = 107 then [decDigits m.n] else if c = 98 then [hexV m.bytes] else m.draws.map decDigits
def appW (s : List UInt8) (ws : Wds) : List UInt8 := s ++ ws.flatMap fun x => 32 :: x
theorem unw_app : ∀ (ws : Wds) (w : List UInt8), unw (w :: ws) = appW w ws
  | [], w => by simp [unw, appW]
  | x :: r, w => by
    show w ++ 32 :: unw (x :: r) = _
    rw [unw_app r x]
    simp [appW]
theorem render_fields (m : Mv) (hk : m.kind ≤ 11) (hd : hD m.kind = false → m.draws = []) : renderV m = (shapeK m.kind).flatMap (fieldW m) := by
  obtain ⟨k, a, t, n, b, d⟩ := m
  simp only at hk hd ⊢
  unfold renderV
  simp only
  rcases (by omega : k = 0 ∨ k = 1 ∨ k = 2 ∨ k = 3 ∨ k = 4 ∨ k = 5 ∨ k = 6 ∨ k = 7 ∨ k = 8 ∨ k = 9 ∨ k = 10 ∨ k = 11) with rfl | rfl | rfl | rfl | rfl | rfl | rfl | rfl | rfl | rfl | rfl | rfl
  all_goals
    first
    | (have h0 := hd rfl; subst h0; simp [hN, hT, hK, hB, shapeK, fieldW, numW, bytesW])
    | simp [hN, hT, hK, hB, shapeK, fieldW, numW, bytesW]
theorem line_fields (m : Mv) (hk : m.kind ≤ 11) (hd : hD m.kind = false → m.draws = []) : lineV m = appW (nameK m.kind) ((shapeK m.kind).flatMap (fieldW m)) := by
  unfold lineV
  rw [unw_app, render_fields m hk hd]
theorem appW_app (s : List UInt8) (a b : Wds) : appW s (a ++ b) = appW (appW s a) b := by simp [appW]
theorem appW_one (s w : List UInt8) : appW s [w] = s ++ ([32] ++ w) := by simp [appW]
theorem flat_len : ∀ (ws : Wds) (M : Nat), (∀ x ∈ ws, x.length ≤ M) → (ws.flatMap fun x => (32 : UInt8) :: x).length ≤ ws.length * (M + 1)
  | [], M, h => by simp
  | x :: r, M, h => by
    have h1 := h x List.mem_cons_self
    have h2 := flat_len r M fun y hy => h y (List.mem_cons_of_mem _ hy)
    simp only [List.flatMap_cons, List.length_append, List.length_cons, Nat.add_mul]
    omega
theorem dec_len (n : Nat) (h : n ≤ 18446744073709551615) : (decDigits n).length ≤ 20 := by rw [Go.Lib.decDigits_length]; exact Go.Lib.nDigits_le20 n (by omega)
theorem hexV_len (l : List UInt8) : (hexV l).length ≤ 2 * l.length + 1 := by
  unfold hexV
  split
  · simp
  · rw [hxs_eq, (pk_hex l).2.2]; omega
theorem nle (b : Bool) (n : Nat) (h : if b then n ≤ maxStake else n = 0) : n ≤ 18446744073709551615 := by cases b <;> simp [maxStake] at h <;> omega
theorem field_len {m : Mv} (h : m.OK) (hf : m.fits' 4009) (c : UInt8) : ((fieldW m c).flatMap fun x => (32 : UInt8) :: x).length ≤ 9000 := by
  unfold fieldW
  split
  · have := dec_len _ (nle _ _ h.node); simp; omega
  · split
    · have := dec_len _ (nle _ _ h.rcv); simp; omega
    · split
      · have := dec_len _ (nle _ _ h.n); simp; omega
      · split
        · have := hexV_len m.bytes; have := hf.1; simp; omega
        · have h1 := flat_len (m.draws.map decDigits) 20 (fun x hx => by
            obtain ⟨d, hd, rfl⟩ := List.mem_map.1 hx
            exact dec_len d (h.fits d hd))
          have := hf.2
          simp only [List.length_map] at h1
          omega
theorem fields_len {m : Mv} (h : m.OK) (hf : m.fits' 4009) : ∀ f : List UInt8, ((f.flatMap (fieldW m)).flatMap fun x => (32 : UInt8) :: x).length ≤ f.length * 9000
  | [] => by simp
  | c :: r => by
    have h1 := field_len h hf c
    have h2 := fields_len h hf r
    simp only [List.flatMap_cons, List.flatMap_append, List.length_append, List.length_cons, Nat.add_mul]
    omega
theorem name_len (k : Nat) : (nameK k).length ≤ 7 := by unfold nameK; split <;> simp
theorem fits_of {m : Mv} (hc : checkB m.kind m.node m.rcv m.n m.bytes.length m.draws.length = true) : m.fits' 4009 ∧ m.kind ≠ 0 := by
  unfold checkB at hc
  simp only [Bool.and_eq_true, decide_eq_true_eq] at hc
  exact ⟨⟨hc.1.1.1.1.1.1.2, hc.1.1.1.1.1.2⟩, hc.1.1.1.1.1.1.1.1⟩
set_option maxHeartbeats 6400000 in
theorem rline_good (m : Mv) (hk : m.kind ≤ 11) (hok : m.OK) (hc : checkB m.kind m.node m.rcv m.n m.bytes.length m.draws.length = true) {A B : Option Addr} {cb cd : Nat} {w : World} (hb : Sl w 1 (.slice A m.bytes.length cb) m.bytes.length (byteCells m.bytes)) (hd : Sl w 1 (.slice B m.draws.length cd) m.draws.length (nums m.draws)) :
    callE Tryd.prog 41 #[.agg #[.int .i64 m.kind, .int .i64 m.node, .int .i64 m.rcv, .int .i64 m.n, .slice A m.bytes.length cb, .slice B m.draws.length cd]] w fun v w' => v = .tuple #[.string (strOf (lineV m)), .int .i64 0] ∧ Below w.heap.size w w' := by
  obtain ⟨hf, hk0⟩ := fits_of hc
  rw [line_fields m hk hok.draws]
  have hsl : (shapeK m.kind).length ≤ 3 := by
    have : ∀ k : Fin 12, (shapeK k.val).length ≤ 3 := by decide
    exact this ⟨m.kind, by omega⟩
  have hcs : ∀ c ∈ shapeK m.kind, c = 110 ∨ c = 116 ∨ c = 107 ∨ c = 98 ∨ c = 100 := by
    have : ∀ k : Fin 12, ∀ c ∈ shapeK k.val, c = 110 ∨ c = 116 ∨ c = 107 ∨ c = 98 ∨ c = 100 := by decide
    exact this ⟨m.kind, by omega⟩
  have hnl := name_len m.kind
  have hfl := fun i => fields_len hok hf ((shapeK m.kind).take i)
  refine calls_E Tryd.func41 rfl rfl rfl (Nat.le_of_ble_eq_true rfl) ?_
  simp [go_sem, IntWalk.iteOmega, IntWalk.toNatUp]
  have k1 := ext_alloc w (.cells #[.int .i64 m.kind, .int .i64 m.node, .int .i64 m.rcv, .int .i64 m.n, .slice A m.bytes.length cb, .slice B m.draws.length cd] 48)
  have hX : Blk (w.alloc (.cells #[.int .i64 m.kind, .int .i64 m.node, .int .i64 m.rcv, .int .i64 m.n, .slice A m.bytes.length cb, .slice B m.draws.length cd] 48)) w.heap.size 48 #[.int .i64 m.kind, .int .i64 m.node, .int .i64 m.rcv, .int .i64 m.n, .slice A m.bytes.length cb, .slice B m.draws.length cd] := Blk.self_ rfl
  generalize w.alloc (.cells #[.int .i64 m.kind, .int .i64 m.node, .int .i64 m.rcv, .int .i64 m.n, .slice A m.bytes.length cb, .slice B m.draws.length cd] 48) = W at *
  refine callE_of (rcheck_any m.kind hk m.node m.rcv m.n A B m.bytes.length cb m.draws.length cd W) ?_
  rw [hc]
  rintro _ w1 ⟨rfl, k2⟩
  have hX1 := hX.keep k2
  have kk := ext_trans k1 k2
  simp [go_sem, IntWalk.iteOmega, IntWalk.toNatUp, hX1.cell, shapeE m.kind hk]
  have hb1 := Sl_on hb kk
  have hd1 := Sl_on hd kk
  clear hX k1 k2 hb hd
  generalize hF : shapeK m.kind = F at *
  refine W_loop (fun s wr => ∃ i : Nat, i ≤ F.length ∧ s 1 = .pointer (some ⟨w.heap.size, 0, none⟩) ∧ s 5 = .string (strOf (appW (nameK m.kind) ((F.take i).flatMap (fieldW m)))) ∧ s 6 = .string (strOf F) ∧ s 7 = .int .i64 i ∧ Below w1.heap.size w1 wr) (fun s _ => F.length - (intOf (s 7)).toNat) ?_ ?_
  · exact ⟨0, by omega, by simp [go_sem], by simp [go_sem, appW], by simp [go_sem], by simp [go_sem], Below.refl _ _⟩
  · rintro s wr ⟨i, hi, e1, e5, e6, e7, hbw⟩
    by_cases hlt : i < F.length
    · have hlt' : (i : Int) < F.length := by omega
      have hidx := run_index_str (P := Tryd.prog) (w := wr) Tryd.underlying9 F i hlt
      have ht : F.take (i + 1) = F.take i ++ [F[i]] := take_digs hlt
      have hm : F[i] ∈ F := List.getElem_mem hlt
      have hfc := field_len hok hf (F[i])
      have hl1 := hfl i
      have hl2 := hfl (i + 1)
      rw [List.length_take] at hl1 hl2
      have hX2 := hX1.keep hbw
      have hq : appW (nameK m.kind) ((F.take (i + 1)).flatMap (fieldW m)) = appW (appW (nameK m.kind) ((F.take i).flatMap (fieldW m))) (fieldW m F[i]) := by rw [ht, List.flatMap_append, List.flatMap_singleton, appW_app]
      have hsl1 : (appW (nameK m.kind) ((F.take i).flatMap (fieldW m))).length ≤ 40000 := by
        unfold appW; rw [List.length_append]; omega
      have hcc := hcs _ hm
      generalize F[i] = c at *
      generalize appW (nameK m.kind) ((F.take i).flatMap (fieldW m)) = cur at *
      have c32 : (⟨#[32]⟩ : ByteArray) = strOf [32] := rfl
      clear hfl hl1 hl2 ht hm hcs hF hnl
      by_cases c110 : c = 110
      · subst c110
        have hle : m.node ≤ 18446744073709551615 := nle _ _ hok.node
        have r1 := rdigitsE m.node hle
        have f1 : IntKind.u64.wrap (m.node : Int) = m.node := IntWalk.u64_in _ (by omega)
        have hdl := dec_len m.node hle
        rw [show fieldW m 110 = [decDigits m.node] from rfl, appW_one] at hq
        generalize decDigits m.node = dd at *
        have z1 : ¬ 9223372036854775807 < (strOf [32]).size + (strOf dd).size := by rw [strOf_size, strOf_size]; simp; omega
        have z2 : ¬ 9223372036854775807 < (strOf cur).size + (strOf ([32] ++ dd)).size := by rw [strOf_size, strOf_size]; simp; omega
        simp [go_sem, IntWalk.iteOmega, IntWalk.toNatUp, e1, e5, e6, e7, strOf_size, hlt', hidx, hX2.cell, r1, f1, c32, z1, z2, strOf_app]
        refine roundEnd.mk ⟨i + 1, by omega, by simp [go_sem, e1], ?_, by simp [go_sem, e6], by simp [go_sem], hbw⟩ ?_
        · rw [hq]; simp [go_sem]
        · simp [go_sem, intOf]; omega
      have n110 : ((c.toNat : Int) == 110) = false := by simp; intro e; exact c110 (UInt8.toNat_inj.1 (by show c.toNat = 110; omega))
      by_cases c116 : c = 116
      · subst c116
        have hle : m.rcv ≤ 18446744073709551615 := nle _ _ hok.rcv
        have r1 := rdigitsE m.rcv hle
        have f1 : IntKind.u64.wrap (m.rcv : Int) = m.rcv := IntWalk.u64_in _ (by omega)
        have hdl := dec_len m.rcv hle
        rw [show fieldW m 116 = [decDigits m.rcv] from rfl, appW_one] at hq
        generalize decDigits m.rcv = dd at *
        have z1 : ¬ 9223372036854775807 < (strOf [32]).size + (strOf dd).size := by rw [strOf_size, strOf_size]; simp; omega
        have z2 : ¬ 9223372036854775807 < (strOf cur).size + (strOf ([32] ++ dd)).size := by rw [strOf_size, strOf_size]; simp; omega
        simp [go_sem, IntWalk.iteOmega, IntWalk.toNatUp, e1, e5, e6, e7, strOf_size, hlt', hidx, hX2.cell, r1, f1, c32, z1, z2, strOf_app]
        refine roundEnd.mk ⟨i + 1, by omega, by simp [go_sem, e1], ?_, by simp [go_sem, e6], by simp [go_sem], hbw⟩ ?_
        · rw [hq]; simp [go_sem]
        · simp [go_sem, intOf]; omega
      have n116 : ((c.toNat : Int) == 116) = false := by simp; intro e; exact c116 (UInt8.toNat_inj.1 (by show c.toNat = 116; omega))
      by_cases c107 : c = 107
      · subst c107
        have hle : m.n ≤ 18446744073709551615 := nle _ _ hok.n
        have r1 := rdigitsE m.n hle
        have f1 : IntKind.u64.wrap (m.n : Int) = m.n := IntWalk.u64_in _ (by omega)
        have hdl := dec_len m.n hle
        rw [show fieldW m 107 = [decDigits m.n] from rfl, appW_one] at hq
        generalize decDigits m.n = dd at *
        have z1 : ¬ 9223372036854775807 < (strOf [32]).size + (strOf dd).size := by rw [strOf_size, strOf_size]; simp; omega
        have z2 : ¬ 9223372036854775807 < (strOf cur).size + (strOf ([32] ++ dd)).size := by rw [strOf_size, strOf_size]; simp; omega
        simp [go_sem, IntWalk.iteOmega, IntWalk.toNatUp, e1, e5, e6, e7, strOf_size, hlt', hidx, hX2.cell, r1, f1, c32, z1, z2, strOf_app]
        refine roundEnd.mk ⟨i + 1, by omega, by simp [go_sem, e1], ?_, by simp [go_sem, e6], by simp [go_sem], hbw⟩ ?_
        · rw [hq]; simp [go_sem]
        · simp [go_sem, intOf]; omega
      have n107 : ((c.toNat : Int) == 107) = false := by simp; intro e; exact c107 (UInt8.toNat_inj.1 (by show c.toNat = 107; omega))
      by_cases c98 : c = 98
      · subst c98
        rw [show fieldW m 98 = [hexV m.bytes] from rfl, appW_one] at hq
        have hdl := hexV_len m.bytes
        have hml := hf.1
        simp [go_sem, IntWalk.iteOmega, IntWalk.toNatUp, e1, e5, e6, e7, strOf_size, hlt', hidx, hX2.cell]
        refine callE_of (rhex_any m.bytes (by omega) _ wr (Sl_on hb1 hbw)) ?_
        rintro _ w3 ⟨rfl, k3⟩
        generalize hexV m.bytes = dd at *
        have z1 : ¬ 9223372036854775807 < (strOf [32]).size + (strOf dd).size := by rw [strOf_size, strOf_size]; simp; omega
        have z2 : ¬ 9223372036854775807 < (strOf cur).size + (strOf ([32] ++ dd)).size := by rw [strOf_size, strOf_size]; simp; omega
        simp [go_sem, IntWalk.iteOmega, IntWalk.toNatUp, e1, e5, e6, e7, c32, z1, z2, strOf_size, strOf_app]
        refine roundEnd.mk ⟨i + 1, by omega, by simp [go_sem, e1], ?_, by simp [go_sem, e6], by simp [go_sem], ext_trans hbw k3⟩ ?_
        · rw [hq]; simp [go_sem]
        · simp [go_sem, intOf]; omega
      have n98 : ((c.toNat : Int) == 98) = false := by simp; intro e; exact c98 (UInt8.toNat_inj.1 (by show c.toNat = 98; omega))
      obtain rfl : c = 100 := by
        rcases hcc with h | h | h | h | h
        · exact absurd h c110
        · exact absurd h c116
        · exact absurd h c107
        · exact absurd h c98
        · exact h
      rw [show fieldW m 100 = m.draws.map decDigits from rfl] at hq
      simp [go_sem, IntWalk.iteOmega, IntWalk.toNatUp, e1, e5, e6, e7, strOf_size, hlt', hidx]
      refine W_loop (fun s wq => ∃ j : Nat, j ≤ m.draws.length ∧ s 1 = .pointer (some ⟨w.heap.size, 0, none⟩) ∧ s 5 = .string (strOf (appW cur ((m.draws.take j).map decDigits))) ∧ s 6 = .string (strOf F) ∧ s 7 = .int .i64 i ∧ s 8 = .int .i64 j ∧ wq = wr) (fun s _ => m.draws.length - (intOf (s 8)).toNat) ?_ ?_
      · exact ⟨0, by omega, by simp [go_sem, e1], by simp [go_sem, appW, e5], by simp [go_sem, e6], by simp [go_sem, e7], by simp [go_sem], rfl⟩
      · clear e1 e5 e6 e7
        rintro s2 wq ⟨j, hj, e1, e5, e6, e7, e8, rfl⟩
        by_cases hjt : j < m.draws.length
        · have hjt' : (j : Int) < m.draws.length := by omega
          have hml := hf.2
          obtain ⟨A', c', e', hrd, hA, g1, g2⟩ := Sl_on hd1 hbw
          cases e'
          obtain ⟨b, o, rfl, hbl, hcell⟩ := hrd.cells (by omega)
          have x0 := hcell j (.int .u64 (m.draws[j] : Nat)) (by simp [nums, hjt])
          have hle := hok.fits _ (List.getElem_mem hjt)
          have htj : m.draws.take (j + 1) = m.draws.take j ++ [m.draws[j]] := by rw [List.take_add_one, List.getElem?_eq_getElem hjt]; rfl
          have r1 := rdigitsE m.draws[j] hle
          have hdl := dec_len m.draws[j] hle
          have hfl := flat_len ((m.draws.take j).map decDigits) 20 (fun x hx => by
            obtain ⟨d, hd, rfl⟩ := List.mem_map.1 hx
            exact dec_len d (hok.fits d (List.mem_of_mem_take hd)))
          have hcl : (appW cur ((m.draws.take j).map decDigits)).length ≤ 50000 := by
            unfold appW
            simp only [List.length_map, List.length_take] at hfl
            rw [List.length_append]; omega
          have hq2 : appW cur ((m.draws.take (j + 1)).map decDigits) = appW cur ((m.draws.take j).map decDigits) ++ ([32] ++ decDigits m.draws[j]) := by rw [htj, List.map_append, appW_app]; exact appW_one _ _
          generalize m.draws[j] = dv at *
          generalize appW cur ((m.draws.take j).map decDigits) = cj at *
          generalize decDigits dv = dd at *
          have z1 : ¬ 9223372036854775807 < (strOf [32]).size + (strOf dd).size := by rw [strOf_size, strOf_size]; simp; omega
          have z2 : ¬ 9223372036854775807 < (strOf cj).size + (strOf ([32] ++ dd)).size := by rw [strOf_size, strOf_size]; simp; omega
          simp [go_sem, IntWalk.iteOmega, IntWalk.toNatUp, e1, e5, e6, e7, e8, hjt', hX2.cell, x0, r1, c32, z1, z2, strOf_size, strOf_app]
          refine roundEnd.mk ⟨j + 1, by omega, by simp [go_sem, e1], ?_, by simp [go_sem, e6], by simp [go_sem, e7], by simp [go_sem], rfl⟩ ?_
          · rw [hq2]; simp [go_sem]
          · simp [go_sem, intOf]; omega
        · obtain rfl : j = m.draws.length := by omega
          rw [List.take_of_length_le (Nat.le_refl _)] at e5
          have hjt' : ¬ (m.draws.length : Int) < m.draws.length := by omega
          simp [go_sem, IntWalk.iteOmega, IntWalk.toNatUp, e1, e5, e6, e7, e8, hX2.cell]
          refine roundEnd.mk ?_ ?_
          · refine ⟨i + 1, by omega, by simp [go_sem, e1], ?_, by simp [go_sem, e6], by simp [go_sem, e7], hbw⟩
            rw [hq]; simp [go_sem, e5]
          · simp [go_sem, intOf]; omega
    · obtain rfl : i = F.length := by omega
      have hlt' : ¬ (F.length : Int) < F.length := by omega
      rw [List.take_of_length_le (Nat.le_refl _)] at e5
      simp [go_sem, IntWalk.iteOmega, IntWalk.toNatUp, e1, e5, e6, e7, strOf_size, hlt']
      exact ext_trans kk hbw
theorem rline_bad (k : Nat) (hk : k ≤ 11) (node to_ n : Int) (A B : Option Addr) (lb cb ld cd : Nat) (hc : checkB k node to_ n lb ld = false) (w : World) :
    callE Tryd.prog 41 #[.agg #[.int .i64 k, .int .i64 node, .int .i64 to_, .int .i64 n, .slice A lb cb, .slice B ld cd]] w fun v w' => v = .tuple #[.string (strOf []), .int .i64 270] ∧ Below w.heap.size w w' := by
  refine calls_E Tryd.func41 rfl rfl rfl (Nat.le_of_ble_eq_true rfl) ?_
  simp [go_sem, IntWalk.iteOmega, IntWalk.toNatUp]
  refine callE_of (rcheck_any k hk node to_ n A B lb cb ld cd _) ?_
  rw [hc]
  rintro _ w1 ⟨rfl, k2⟩
  simp [go_sem, IntWalk.iteOmega, IntWalk.toNatUp]
  exact ⟨rfl, ext_trans (ext_alloc w _) k2⟩
end Go.Proofs.YtpmmfabendnhiaaDoor
namespace Go.Proofs.YtpmmfabendnhiaaDoor
open Go.RowKit
open Go.Lib (strCells byteCells decDigits)
set_option linter.unusedVariables false
set_option linter.unusedSimpArgs false
set_option maxRecDepth 10000
structure RdAt (W w : World) (k : Nat) (S : RS) (vb : Value) (d : List Nat) (vd : Value) : Prop where
  res : Blk w W.heap.size 48 #[.int .i64 0, .int .i64 0, .int .i64 0, .int .i64 0, .slice none 0 0, .slice none 0 0]
  mv : Blk w (W.heap.size + 1) 48 #[.int .i64 k, .int .i64 S.a, .int .i64 S.t, .int .i64 S.n, vb, vd]
  row : w.ownsRow W.heap.size 5 1 vb S.b.length (byteCells S.b)
  rowd : w.ownsRow (W.heap.size + 2) 53 1 vd d.length (nums d)
  below : Below W.heap.size W w
variable {W w w' : World} {k : Nat} {S S' : RS} {vb vb' : Value} {d d' : List Nat} {vd vd' : Value}
theorem RdAt.keep (h : RdAt W w k S vb d vd) (hk : Below w.heap.size w w') : RdAt W w' k S vb d vd :=
  ⟨h.res.keep hk, h.mv.keep hk, row_below h.row hk, row_below h.rowd hk, h.below.trans (hk.mono h.below.size)⟩
theorem RdAt.sets (h : RdAt W w k S vb d vd) (i : Nat) (v : Value) (hc : (#[.int .i64 k, .int .i64 S.a, .int .i64 S.t, .int .i64 S.n, vb, vd] : Array Value).setIfInBounds i v = #[.int .i64 k, .int .i64 S'.a, .int .i64 S'.t, .int .i64 S'.n, vb', vd])
    (hr : w.ownsRow W.heap.size 5 1 vb' S'.b.length (byteCells S'.b)) : RdAt W (w.setCell ⟨W.heap.size + 1, i, none⟩ v) k S' vb' d vd := by
  have hk : Keeps (fun j => j ≠ W.heap.size + 1) w (w.setCell ⟨W.heap.size + 1, i, none⟩ v) := Keeps.setCell w ⟨W.heap.size + 1, i, none⟩ v (fun h => h rfl)
  exact ⟨hk.blk h.res (by omega), hc ▸ Blk_set h.mv, row_keeps hr hk fun j hj e => row_ne hr h.mv (by decide) (by rw [hj, e]), row_keeps h.rowd hk fun j hj e => row_ne h.rowd h.mv (by decide) (by rw [hj, e]), h.below.trans (hk.below h.below.size fun j hj e => by omega)⟩
theorem RdAt.app (h : RdAt W w k S vb d vd) (hg : w.grownBy w' vd.ownBlock) (ho : w'.ownsRow (W.heap.size + 2) 53 1 vd' d'.length (nums d')) : RdAt W (w'.setCell ⟨W.heap.size + 1, 5, none⟩ vd') k S vb d' vd' := by
  have hk : Keeps (fun j => vd.ownBlock ≠ some j) w w' := Keeps.grown hg fun k e h => h e
  have hlo : ∀ j, vd.ownBlock = some j → W.heap.size + 2 ≤ j := fun j e => (h.rowd.lt j e).1
  have hm : Blk w' (W.heap.size + 1) 48 #[.int .i64 k, .int .i64 S.a, .int .i64 S.t, .int .i64 S.n, vb, vd] := hk.blk h.mv fun e => by have := hlo _ e; omega
  have hr := hk.blk h.res fun e => by have := hlo _ e; omega
  have hv : w'.ownsRow W.heap.size 5 1 vb S.b.length (byteCells S.b) := row_keeps h.row hk fun j hj => rows_ne h.row h.rowd (by decide) j hj
  have hb : Below W.heap.size W w' := h.below.trans (hk.below h.below.size fun j hj e => by have := hlo _ e; omega)
  have k2 : Keeps (fun j => j ≠ W.heap.size + 1) w' (w'.setCell ⟨W.heap.size + 1, 5, none⟩ vd') := Keeps.setCell w' ⟨W.heap.size + 1, 5, none⟩ vd' (fun h => h rfl)
  exact ⟨k2.blk hr (by omega), Blk_set hm, row_keeps hv k2 fun j hj e => row_ne hv hm (by decide) (by rw [hj, e]), row_keeps ho k2 fun j hj e => row_ne ho hm (by decide) (by rw [hj, e]), hb.trans (k2.below hb.size fun j hj e => by omega)⟩
/-- What the reading of words tells: the move that they say, or one that may not be. -/
def ReadP (w' : World) (B : Nat) (k : Nat) (ws : Wds) (v : Value) : Prop :=
  (∃ m vb vd, v = .agg (mvCells m vb vd) ∧ MvO w' B m vb vd ∧ m.kind = k ∧ m.OK ∧ ∀ m', readV k ws = some m' → m'.draws.length ≤ 64 → m' = m) ∨
  (∃ (k' : Nat) (a t n : Int) (A : Option Addr) (lb cb : Nat) (B : Option Addr) (ld cd : Nat), k' ≤ 11 ∧ v = .agg #[.int .i64 k', .int .i64 a, .int .i64 t, .int .i64 n, .slice A lb cb, .slice B ld cd] ∧ checkB k' a t n lb ld = false ∧ ∀ m', readV k ws = some m' → 64 < m'.draws.length)
theorem readP_zero {w' : World} {B : Nat} {k : Nat} {ws : Wds} (h : readV k ws = none) : ReadP w' B k ws (.agg #[.int .i64 0, .int .i64 0, .int .i64 0, .int .i64 0, .slice none 0 0, .slice none 0 0]) :=
  .inr ⟨0, 0, 0, 0, none, 0, 0, none, 0, 0, by omega, rfl, by simp [checkB], fun m' h' => by rw [h] at h'; cases h'⟩
/-- What is returned where all words were read. -/
theorem readP_all {w : World} {B : Nat} {k : Nat} (hk : k ≤ 11) (h0 : k ≠ 0) {ws : Wds} {S : RS} (hS : goR (flds k) ws RS0 = some S) (hl : (0 ≤ S.a ∨ S.a = -1) ∧ (0 ≤ S.t ∨ S.t = -1) ∧ (0 ≤ S.n ∨ S.n = -1) ∧ S.a ≤ maxStake ∧ S.t ≤ maxStake ∧ S.n ≤ maxStake) (hz : (hN k = false → S.a = 0) ∧ (hT k = false → S.t = 0) ∧ (hK k = false → S.n = 0) ∧ (hB k = false → S.b = [])) {d : List Nat} (hd : if hD k then numsV (((ws.take 200).drop (flds k).length)) = some d else d = []) {vb vd : Value} (hvb : w.ownsRow B 5 1 vb S.b.length (byteCells S.b)) (hvd : w.ownsRow B 53 1 vd d.length (nums d)) : ReadP w B k ws (.agg #[.int .i64 k, .int .i64 S.a, .int .i64 S.t, .int .i64 S.n, vb, vd]) := by
  have hrd := read_go k hk h0 ws
  unfold readW at hrd
  rw [hS] at hrd
  simp only at hrd
  by_cases hok : S.ok
  · rw [if_pos hok] at hrd
    obtain ⟨o1, o2, o3⟩ := hok
    left
    refine ⟨S.mv k d, vb, vd, ?_, ⟨hvb, hvd⟩, rfl, ⟨?_, ?_, ?_, hz.2.2.2, fun h => ?_, ?_⟩, ?_⟩
    · unfold mvCells RS.mv
      simp only
      rw [Int.toNat_of_nonneg o1, Int.toNat_of_nonneg o2, Int.toNat_of_nonneg o3]
    · show if hN k then S.a.toNat ≤ maxStake else S.a.toNat = 0
      cases h : hN k with
      | true => simp; omega
      | false => simp; have := hz.1 h; omega
    · show if hT k then S.t.toNat ≤ maxStake else S.t.toNat = 0
      cases h : hT k with
      | true => simp; omega
      | false => simp; have := hz.2.1 h; omega
    · show if hK k then S.n.toNat ≤ maxStake else S.n.toNat = 0
      cases h : hK k with
      | true => simp; omega
      | false => simp; have := hz.2.2.1 h; omega
    · have h' : hD k = false := h
      rw [h'] at hd
      exact hd
    · intro x hx
      cases h : hD k with
      | true => rw [h] at hd; exact nums_le hd x hx
      | false => rw [h] at hd; simp at hd; subst hd; simp [RS.mv] at hx
    · intro m' hm' h64
      rw [hm'] at hrd
      cases h : hD k with
      | false =>
        rw [h] at hrd hd
        simp at hd
        subst hd
        cases hq : ws.drop (flds k).length with
        | nil => rw [hq] at hrd; simp only [takeDraws] at hrd; exact Option.some.inj hrd
        | cons x r => rw [hq] at hrd; simp only [takeDraws] at hrd; cases hrd
      | true =>
        rw [h] at hrd hd
        simp only [takeDraws, if_true] at hrd hd
        cases hq : numsV (ws.drop (flds k).length) with
        | none => rw [hq] at hrd; cases hrd
        | some l =>
          rw [hq] at hrd
          have e := Option.some.inj hrd
          subst e
          have hln := nums_len hq
          have h64' : l.length ≤ 64 := h64
          obtain ⟨-, -, hfl, -⟩ := shape_flds ⟨k, by omega⟩
          simp only at hfl
          rw [List.length_drop] at hln
          rw [List.take_of_length_le (by omega), hq] at hd
          rw [Option.some.inj hd]
  · rw [if_neg hok] at hrd
    right
    obtain ⟨-, A, c, rfl⟩ := own_sl hvb
    obtain ⟨-, A', c', rfl⟩ := own_sl hvd
    refine ⟨k, S.a, S.t, S.n, A, S.b.length, c, A', d.length, c', hk, rfl, ?_, fun m' h' => by rw [hrd] at h'; cases h'⟩
    have hm : (may1 S.a && (may1 S.t && may1 S.n)) = false := by
      unfold RS.ok at hok
      simp only [may1, Bool.and_eq_false_iff, decide_eq_false_iff_not]
      omega
    unfold checkB
    rw [hm]
    simp
theorem go_zero (k : Nat) (hk : k ≤ 11) {ws : Wds} {S : RS} (h : goR (flds k) ws RS0 = some S) : (hN k = false → S.a = 0) ∧ (hT k = false → S.t = 0) ∧ (hK k = false → S.n = 0) ∧ (hB k = false → S.b = []) := by
  have step : ∀ (f : List UInt8) (ws : Wds) (S0 S1 : RS), goR f ws S0 = some S1 → (110 ∉ f → S1.a = S0.a) ∧ (116 ∉ f → S1.t = S0.t) ∧ (107 ∉ f → S1.n = S0.n) ∧ ((∀ c ∈ f, c = 110 ∨ c = 116 ∨ c = 107) → S1.b = S0.b) := by
    intro f
    induction f with
    | nil => intro ws S0 S1 h; cases h; exact ⟨fun _ => rfl, fun _ => rfl, fun _ => rfl, fun _ => rfl⟩
    | cons c f ih =>
      intro ws S0 S1 h
      cases ws with
      | nil => cases h
      | cons w ws =>
        unfold goR at h
        split at h
        · rename_i S2 h2
          obtain ⟨i1, i2, i3, i4⟩ := ih ws S2 S1 h
          unfold fldR at h2
          refine ⟨fun hc => ?_, fun hc => ?_, fun hc => ?_, fun hc => ?_⟩
          · simp only [List.mem_cons, not_or] at hc
            rw [i1 hc.2]
            rw [if_neg (fun e => hc.1 e.symm)] at h2
            (repeat' split at h2) <;> (cases h2; try rfl)
          · simp only [List.mem_cons, not_or] at hc
            rw [i2 hc.2]
            split at h2
            · cases h2; rfl
            · rw [if_neg (fun e => hc.1 e.symm)] at h2
              (repeat' split at h2) <;> (cases h2; try rfl)
          · simp only [List.mem_cons, not_or] at hc
            rw [i3 hc.2]
            split at h2
            · cases h2; rfl
            · split at h2
              · cases h2; rfl
              · rw [if_neg (fun e => hc.1 e.symm)] at h2
                (repeat' split at h2) <;> (cases h2; try rfl)
          · rw [i4 fun x hx => hc x (List.mem_cons_of_mem _ hx)]
            split at h2
            · cases h2; rfl
            · split at h2
              · cases h2; rfl
              · split at h2
                · cases h2; rfl
                · rename_i g1 g2 g3
                  rcases hc c List.mem_cons_self with e | e | e
                  · exact absurd e g1
                  · exact absurd e g2
                  · exact absurd e g3
        · cases h
  obtain ⟨s1, s2, s3, s4⟩ := step _ _ _ _ h
  have q : ∀ k : Fin 12, (hN k.val = false → (110 : UInt8) ∉ flds k.val) ∧ (hT k.val = false → (116 : UInt8) ∉ flds k.val) ∧ (hK k.val = false → (107 : UInt8) ∉ flds k.val) ∧ (hB k.val = false → ∀ c ∈ flds k.val, c = 110 ∨ c = 116 ∨ c = 107) := by decide
  obtain ⟨q1, q2, q3, q4⟩ := q ⟨k, by omega⟩
  exact ⟨fun h => s1 (q1 h), fun h => s2 (q2 h), fun h => s3 (q3 h), fun h => s4 (q4 h)⟩
end Go.Proofs.YtpmmfabendnhiaaDoor
