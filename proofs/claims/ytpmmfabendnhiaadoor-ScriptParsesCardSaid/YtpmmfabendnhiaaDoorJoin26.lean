/-
  Texts joined: PRReadW, PRMove.
-/
import Derived.Test.YtpmmfabendnhiaaDoorJoin25
namespace Go.Proofs.YtpmmfabendnhiaaDoor
open Go.RowKit
open Go.Lib (strCells byteCells decDigits)
set_option linter.unusedVariables false
set_option linter.unusedSimpArgs false
set_option maxRecDepth 10000
set_option maxHeartbeats 12800000 in
theorem rread_any (k : Nat) (hk : k ≤ 11) (h0 : k ≠ 0) (ws : Wds) (A : Option Addr) (c : Nat) (w : World) (hrd : Rd w 1 A ws.length (strs ws)) (hcap : ws.length ≤ c ∧ c ≤ 9223372036854775807) (hsm : ∀ x ∈ ws, x.length ≤ 50000) (hln : ws.length ≤ 50000) :
    callE Tryd.prog 40 #[.int .i64 k, .string (strOf (shapeK k)), .slice A ws.length c] w fun v w' => ReadP w' w.heap.size k ws v ∧ Below w.heap.size w w' := by
  obtain ⟨hsh, h100, hfl3, hfc⟩ := shape_flds ⟨k, by omega⟩
  obtain ⟨hhl, -, -, -, -, hhas⟩ := shape_has ⟨k, by omega⟩
  simp only at hsh h100 hfl3 hfc hhl hhas
  have hslen : (shapeK k).length = (flds k).length + (if hD k then 1 else 0) := by rw [hsh, List.length_append]; cases hD k <;> rfl
  have r1 := fun w K => (hasE (shapeK k) hhl 100 100 rfl w K).trans (by rw [hhas])
  refine calls_E Tryd.func40 rfl rfl rfl (Nat.le_of_ble_eq_true rfl) ?_
  simp [go_sem, IntWalk.iteOmega, IntWalk.toNatUp]
  have R0 : RdAt w ((w.alloc (.cells #[.int .i64 0, .int .i64 0, .int .i64 0, .int .i64 0, .slice none 0 0, .slice none 0 0] 48)).alloc (.cells #[.int .i64 k, .int .i64 0, .int .i64 0, .int .i64 0, .slice none 0 0, .slice none 0 0] 48)) k RS0 (.slice none 0 0) [] (.slice none 0 0) :=
    ⟨(Blk.self_ rfl).more _, Blk.self_ (by simp), World.ownsRow_nil _ _ _ _, World.ownsRow_nil _ _ _ _, ext_trans (ext_alloc w _) (ext_alloc _ _)⟩
  generalize (w.alloc (.cells #[.int .i64 0, .int .i64 0, .int .i64 0, .int .i64 0, .slice none 0 0, .slice none 0 0] 48)).alloc (.cells #[.int .i64 k, .int .i64 0, .int .i64 0, .int .i64 0, .slice none 0 0, .slice none 0 0] 48) = w0 at *
  have hidxs := fun (i : Nat) (hi : i < (shapeK k).length) (w : World) => run_index_str (P := Tryd.prog) (w := w) Tryd.underlying9 (shapeK k) i hi
  have hssz : (shapeK k).length ≤ 4 := by rw [hslen]; split <;> omega
  have hcell : ∀ i x, ws[i]? = some x → ∃ b o, A = some ⟨b, o, none⟩ ∧ b < w.heap.size ∧ w.cell? ⟨b, o + i, none⟩ = some (.string (strOf x)) := by
    intro i x hx
    have hi : i < ws.length := (List.getElem?_eq_some_iff.1 hx).1
    obtain ⟨b, o, rfl, hb, hc⟩ := hrd.cells (by omega)
    exact ⟨b, o, rfl, hb, hc i _ (by simp [strs, hx])⟩
  refine W_loop (fun s wr => ∃ (i : Nat) (S : RS) (vb : Value), i ≤ (flds k).length ∧ s 0 = .int .i64 k ∧ s 1 = .string (strOf (shapeK k)) ∧ s 2 = .slice A ws.length c ∧ s 6 = .pointer (some ⟨w.heap.size, 0, none⟩) ∧ s 7 = .pointer (some ⟨w.heap.size + 1, 0, none⟩) ∧ s 8 = .int .i64 i ∧ goR (flds k) ws RS0 = goR ((flds k).drop i) (ws.drop i) S ∧ i ≤ ws.length ∧ ((0 ≤ S.a ∨ S.a = -1) ∧ (0 ≤ S.t ∨ S.t = -1) ∧ (0 ≤ S.n ∨ S.n = -1) ∧ S.a ≤ maxStake ∧ S.t ≤ maxStake ∧ S.n ≤ maxStake) ∧ RdAt w wr k S vb [] (.slice none 0 0)) (fun s _ => (flds k).length - (intOf (s 8)).toNat) ?_ ?_
  · exact ⟨0, RS0, .slice none 0 0, by omega, by simp [go_sem], by simp [go_sem], by simp [go_sem], by simp [go_sem], by simp [go_sem], by simp [go_sem], by simp, by omega, by simp [RS0], R0⟩
  clear R0
  rintro s wr ⟨i, S, vb, hi, e0, e1, e2, e6, e7, e8, hgo, hiw, hlo, M⟩
  have hz0 := Blk_setRow M.res (cs' := #[.int .i64 0, .int .i64 0, .int .i64 0, .int .i64 0, .slice none 0 0, .slice none 0 0])
  have hcw := canWrite_all M.res 6 rfl
  have hss := storeSeg_all M.res
  by_cases hlt : i < (flds k).length
  · have hlt1 : i < (shapeK k).length := by omega
    have hlt' : (i : Int) < (shapeK k).length := by omega
    have hidx := hidxs i hlt1 wr
    have hgi : (shapeK k)[i] = (flds k)[i] := by simp only [hsh]; exact List.getElem_append_left hlt
    have hc4 := hfc _ (List.getElem_mem hlt)
    have hdr : (flds k).drop i = (flds k)[i] :: (flds k).drop (i + 1) := List.drop_eq_getElem_cons hlt
    have hcn : (flds k)[i] ≠ 100 := fun e => h100 (e ▸ List.getElem_mem hlt)
    rw [hgi] at hidx
    rw [hdr] at hgo
    generalize (flds k)[i] = f at *
    have hn1 : ((f.toNat : Int) != 100) = true := by simp; intro e; exact hcn (UInt8.toNat_inj.1 (by show f.toNat = 100; omega))
    by_cases hw : ws.length ≤ i
    · have hw' : (ws.length : Int) ≤ i := by omega
      rw [List.drop_eq_nil_of_le hw] at hgo
      have hnone : readV k ws = none := by rw [read_go k hk h0]; unfold readW; rw [hgo]; rfl
      simp [go_sem, IntWalk.iteOmega, IntWalk.toNatUp, e0, e1, e2, e6, e7, e8, strOf_size, hlt', hidx, hn1, hw', hcw, hss, hz0.cell]
      exact ⟨readP_zero hnone, below_setRow M.below (Nat.le_refl _) _⟩
    have hw' : ¬ (ws.length : Int) ≤ i := by omega
    have hwl : i < ws.length := by omega
    have hdw : ws.drop i = ws[i] :: ws.drop (i + 1) := List.drop_eq_getElem_cons hwl
    have hxl := hsm _ (List.getElem_mem hwl)
    obtain ⟨b, o, hAe, hbl, hcl⟩ := hcell i ws[i] (List.getElem?_eq_getElem hwl)
    rw [hdw] at hgo
    generalize ws[i] = x at *
    have hcr := M.below.cell (p := ⟨b, o + i, none⟩) hbl
    rw [hcl] at hcr
    have hiw' : (i : Int) < ws.length := by omega
    have fin : ∀ (S' : RS), fldR f x S = some S' → goR (flds k) ws RS0 = goR ((flds k).drop (i + 1)) (ws.drop (i + 1)) S' ∧ ((0 ≤ S'.a ∨ S'.a = -1) ∧ (0 ≤ S'.t ∨ S'.t = -1) ∧ (0 ≤ S'.n ∨ S'.n = -1) ∧ S'.a ≤ maxStake ∧ S'.t ≤ maxStake ∧ S'.n ≤ maxStake) := by
      intro S' hS'
      refine ⟨?_, fld_lo hS' hlo.1 hlo.2.1 hlo.2.2.1 hlo.2.2.2.1 hlo.2.2.2.2.1 hlo.2.2.2.2.2⟩
      rw [hgo]
      show (match fldR f x S with | some S' => goR ((flds k).drop (i + 1)) (ws.drop (i + 1)) S' | none => none) = _
      rw [hS']
    subst hAe
    by_cases c110 : f = 110
    · subst c110
      obtain ⟨g1, g2⟩ := fin { S with a := smallV x } (by unfold fldR; simp)
      simp [go_sem, IntWalk.iteOmega, IntWalk.toNatUp, e0, e1, e2, e6, e7, e8, strOf_size, hlt', hidx, hn1, hw', hcr, hiw']
      refine callE_of (small_any x hxl wr) ?_
      rintro _ w2 ⟨rfl, k2⟩
      have M2 := M.keep k2
      have M3 := M2.sets (S' := { S with a := smallV x }) (vb' := vb) 1 (.int .i64 (smallV x)) rfl M2.row
      simp [go_sem, IntWalk.iteOmega, IntWalk.toNatUp, e0, e1, e2, e6, e7, e8, M2.mv.cell, M2.mv.frozen, M2.mv.lt]
      refine roundEnd.mk ⟨i + 1, { S with a := smallV x }, vb, by omega, by simp [go_sem, e0], by simp [go_sem, e1], by simp [go_sem, e2], by simp [go_sem, e6], by simp [go_sem, e7], by simp [go_sem], g1, by omega, g2, M3⟩ ?_
      simp [go_sem, intOf]; omega
    have n110 : ((f.toNat : Int) == 110) = false := by simp; intro e; exact c110 (UInt8.toNat_inj.1 (by show f.toNat = 110; omega))
    by_cases c116 : f = 116
    · subst c116
      obtain ⟨g1, g2⟩ := fin { S with t := smallV x } (by unfold fldR; simp)
      simp [go_sem, IntWalk.iteOmega, IntWalk.toNatUp, e0, e1, e2, e6, e7, e8, strOf_size, hlt', hidx, hn1, hw', hcr, hiw']
      refine callE_of (small_any x hxl wr) ?_
      rintro _ w2 ⟨rfl, k2⟩
      have M2 := M.keep k2
      have M3 := M2.sets (S' := { S with t := smallV x }) (vb' := vb) 2 (.int .i64 (smallV x)) rfl M2.row
      simp [go_sem, IntWalk.iteOmega, IntWalk.toNatUp, e0, e1, e2, e6, e7, e8, M2.mv.cell, M2.mv.frozen, M2.mv.lt]
      refine roundEnd.mk ⟨i + 1, { S with t := smallV x }, vb, by omega, by simp [go_sem, e0], by simp [go_sem, e1], by simp [go_sem, e2], by simp [go_sem, e6], by simp [go_sem, e7], by simp [go_sem], g1, by omega, g2, M3⟩ ?_
      simp [go_sem, intOf]; omega
    have n116 : ((f.toNat : Int) == 116) = false := by simp; intro e; exact c116 (UInt8.toNat_inj.1 (by show f.toNat = 116; omega))
    by_cases c107 : f = 107
    · subst c107
      obtain ⟨g1, g2⟩ := fin { S with n := smallV x } (by unfold fldR; simp)
      simp [go_sem, IntWalk.iteOmega, IntWalk.toNatUp, e0, e1, e2, e6, e7, e8, strOf_size, hlt', hidx, hn1, hw', hcr, hiw']
      refine callE_of (small_any x hxl wr) ?_
      rintro _ w2 ⟨rfl, k2⟩
      have M2 := M.keep k2
      have M3 := M2.sets (S' := { S with n := smallV x }) (vb' := vb) 3 (.int .i64 (smallV x)) rfl M2.row
      simp [go_sem, IntWalk.iteOmega, IntWalk.toNatUp, e0, e1, e2, e6, e7, e8, M2.mv.cell, M2.mv.frozen, M2.mv.lt]
      refine roundEnd.mk ⟨i + 1, { S with n := smallV x }, vb, by omega, by simp [go_sem, e0], by simp [go_sem, e1], by simp [go_sem, e2], by simp [go_sem, e6], by simp [go_sem, e7], by simp [go_sem], g1, by omega, g2, M3⟩ ?_
      simp [go_sem, intOf]; omega
    have n107 : ((f.toNat : Int) == 107) = false := by simp; intro e; exact c107 (UInt8.toNat_inj.1 (by show f.toNat = 107; omega))
    have c98 : f = 98 := by
      rcases hc4 with h | h | h | h
      · exact absurd h c110
      · exact absurd h c116
      · exact absurd h c107
      · exact h
    subst c98
    simp [go_sem, IntWalk.iteOmega, IntWalk.toNatUp, e0, e1, e2, e6, e7, e8, strOf_size, hlt', hidx, hn1, hw', hcr, hiw']
    refine callE_of (rbytes_any x hxl wr) ?_
    rintro _ w2 ⟨⟨u, rfl, hu⟩, k2⟩
    have M2 := M.keep k2
    have hz2 := Blk_setRow M2.res (cs' := #[.int .i64 0, .int .i64 0, .int .i64 0, .int .i64 0, .slice none 0 0, .slice none 0 0])
    cases hbv : bytesV x with
    | none =>
      have hE : bytesE x = 8 := by unfold bytesE; rw [hbv]; rfl
      have hnone : readV k ws = none := by
        rw [read_go k hk h0]
        unfold readW
        rw [hgo]
        have : fldR 98 x S = none := by unfold fldR; simp [hbv]
        rw [show goR (98 :: (flds k).drop (i + 1)) (x :: ws.drop (i + 1)) S = none by unfold goR; rw [this]]
      simp [go_sem, IntWalk.iteOmega, IntWalk.toNatUp, e0, e1, e2, e6, e7, e8, hE, canWrite_all M2.res 6 rfl, storeSeg_all M2.res, hz2.cell]
      exact ⟨readP_zero hnone, below_setRow M2.below (Nat.le_refl _) _⟩
    | some l =>
      have hE : bytesE x = 0 := by unfold bytesE; rw [hbv]; rfl
      have hL : bytesL x = l := by unfold bytesL; rw [hbv]; rfl
      rw [hL] at hu
      obtain ⟨g1, g2⟩ := fin { S with b := l } (by unfold fldR; simp [hbv])
      have M3 := M2.sets (S' := { S with b := l }) (vb' := u) 4 u rfl (row_low hu M.below.size)
      obtain ⟨-, A9, c9, rfl⟩ := own_sl hu
      simp [go_sem, IntWalk.iteOmega, IntWalk.toNatUp, e0, e1, e2, e6, e7, e8, hE, M2.mv.cell, M2.mv.frozen, M2.mv.lt]
      refine roundEnd.mk ⟨i + 1, { S with b := l }, _, by omega, by simp [go_sem, e0], by simp [go_sem, e1], by simp [go_sem, e2], by simp [go_sem, e6], by simp [go_sem, e7], by simp [go_sem], g1, by omega, g2, M3⟩ ?_
      simp [go_sem, intOf]; omega
  · obtain rfl : i = (flds k).length := by omega
    rw [List.drop_length] at hgo
    have hS : goR (flds k) ws RS0 = some S := by rw [hgo]; rfl
    have hz := go_zero k hk hS
    cases hDk : hD k with
    | false =>
      rw [hDk] at hslen r1
      have hge : ¬ ((flds k).length : Int) < (shapeK k).length := by simp at hslen; omega
      obtain ⟨-, Ab, cb, rfl⟩ := own_sl M.row
      have hzM := Blk_setRow M.res (cs' := #[.int .i64 k, .int .i64 S.a, .int .i64 S.t, .int .i64 S.n, .slice Ab S.b.length cb, .slice none 0 0])
      simp [go_sem, IntWalk.iteOmega, IntWalk.toNatUp, e0, e1, e2, e6, e7, e8, strOf_size, hge, r1, M.mv.cell, hcw, hss, hzM.cell]
      have kz : ∀ cs, Keeps (fun j => j ≠ w.heap.size) wr (wr.setRow w.heap.size cs) := fun cs => Keeps.setRow wr w.heap.size cs (fun h => h rfl)
      exact ⟨readP_all hk h0 hS hlo hz (d := []) (by rw [hDk]; simp) (row_keeps M.row (kz _) fun j hj e => row_ne M.row M.res (by decide) (by rw [hj, e])) (World.ownsRow_nil _ _ _ _), below_setRow M.below (Nat.le_refl _) _⟩
    | true =>
      rw [hDk] at hslen r1
      simp only [if_true] at hslen
      have hlt1 : (flds k).length < (shapeK k).length := by omega
      have hlt' : ((flds k).length : Int) < (shapeK k).length := by omega
      have hidx := hidxs _ hlt1 wr
      have hgi : (shapeK k)[(flds k).length] = 100 := by simp only [hsh, hDk]; simp
      rw [hgi] at hidx
      have fsub : IntKind.i64.wrap (((shapeK k).length : Int) - 1) = (flds k).length := by rw [IntWalk.i64_in _ (by omega)]; omega
      simp [go_sem, IntWalk.iteOmega, IntWalk.toNatUp, e0, e1, e2, e6, e7, e8, strOf_size, hlt', hidx, r1, fsub]
      have hq3 : (flds k).length ≤ 3 := hfl3
      refine W_loop (fun s wq => ∃ (j : Nat) (d : List Nat) (vd : Value), (flds k).length ≤ j ∧ j ≤ ws.length ∧ j ≤ 200 ∧ s 2 = .slice A ws.length c ∧ s 6 = .pointer (some ⟨w.heap.size, 0, none⟩) ∧ s 7 = .pointer (some ⟨w.heap.size + 1, 0, none⟩) ∧ s 11 = .int .i64 j ∧ numsV ((ws.take j).drop (flds k).length) = some d ∧ RdAt w wq k S vb d vd) (fun s _ => 200 - (intOf (s 11)).toNat) ?_ ?_
      · exact ⟨(flds k).length, [], .slice none 0 0, by omega, by omega, by omega, by simp [go_sem, e2], by simp [go_sem, e6], by simp [go_sem, e7], by simp [go_sem], by rw [List.drop_eq_nil_of_le (by simp; omega)]; rfl, M⟩
      clear M e0 e1 e2 e6 e7 e8 hidx hz0 hcw hss hlt hlt' hgi
      rintro s2 wq ⟨j, d, vd, hj1, hj2, hj3, e2, e6, e7, e11, hnum, M⟩
      have hz0 := Blk_setRow M.res (cs' := #[.int .i64 0, .int .i64 0, .int .i64 0, .int .i64 0, .slice none 0 0, .slice none 0 0])
      have hdl : d.length ≤ 200 := by have := nums_len hnum; simp at this; omega
      by_cases hlt : j < ws.length ∧ j < 200
      · obtain ⟨hjl, hj200⟩ := hlt
        have hjl' : (j : Int) < ws.length := by omega
        have hj200' : (j : Int) < 200 := by omega
        have hxl := hsm _ (List.getElem_mem hjl)
        have htk : (ws.take (j + 1)).drop (flds k).length = (ws.take j).drop (flds k).length ++ [ws[j]] := by
          rw [List.take_add_one, List.getElem?_eq_getElem hjl, List.drop_append_of_le_length (by simp; omega)]; rfl
        obtain ⟨b, o, hAe, hbl, hcl⟩ := hcell j ws[j] (List.getElem?_eq_getElem hjl)
        have hnone : numV ws[j] = none → readV k ws = none := by
          intro hn
          rw [read_go k hk h0]
          unfold readW
          rw [hS, hDk]
          simp only [takeDraws]
          have : numsV (ws.drop (flds k).length) = none := by
            cases hq : numsV (ws.drop (flds k).length) with
            | none => rfl
            | some l =>
              obtain ⟨l', hl'⟩ := nums_take hq (j + 1 - (flds k).length)
              rw [show (ws.drop (flds k).length).take (j + 1 - (flds k).length) = (ws.take (j + 1)).drop (flds k).length by rw [List.drop_take], htk, nums_snoc hnum, hn] at hl'
              cases hl'
          rw [this]
          simp
        generalize ws[j] = x at *
        have hcr := M.below.cell (p := ⟨b, o + j, none⟩) hbl
        rw [hcl] at hcr
        subst hAe
        simp [go_sem, IntWalk.iteOmega, IntWalk.toNatUp, e2, e6, e7, e11, hjl', hj200', hcr]
        refine callE_of (rnumber_any x hxl wq) ?_
        rintro _ w3 ⟨rfl, k3⟩
        have M3 := M.keep k3
        cases hn : numV x with
        | none =>
          have hR : numR x = .tuple #[.int .u64 0, .int .i64 8] := by unfold numR; rw [hn]
          have hz3 := Blk_setRow M3.res (cs' := #[.int .i64 0, .int .i64 0, .int .i64 0, .int .i64 0, .slice none 0 0, .slice none 0 0])
          simp [go_sem, IntWalk.iteOmega, IntWalk.toNatUp, e2, e6, e7, e11, hR, canWrite_all M3.res 6 rfl, storeSeg_all M3.res, hz3.cell]
          exact ⟨readP_zero (hnone hn), below_setRow M3.below (Nat.le_refl _) _⟩
        | some nv =>
          have hR : numR x = .tuple #[.int .u64 nv, .int .i64 0] := by unfold numR; rw [hn]
          have hnx : numsV ((ws.take (j + 1)).drop (flds k).length) = some (d ++ [nv]) := by rw [htk, nums_snoc hnum, hn]
          simp [go_sem, IntWalk.iteOmega, IntWalk.toNatUp, e2, e6, e7, e11, hR, M3.mv.cell]
          have hN : Blk (w3.alloc (.cells #[.int .u64 nv] 53)) w3.heap.size 53 #[.int .u64 nv] := Blk.self_ rfl
          have M4 := M3.keep (ext_alloc w3 (.cells #[.int .u64 nv] 53))
          generalize w3.alloc (.cells #[.int .u64 nv] 53) = w4 at *
          have hml := M4.mv.lt
          refine appendE (w.heap.size + 2) 53 1 8 Tryd.underlying46 el53 M4.rowd (m := 1) (news := [.int .u64 nv]) ⟨rfl, fun _ => ⟨_, 0, rfl, hN.lt, fun j u hu => by rw [hN.cell]; simpa using hu⟩⟩ rfl (by unfold maxLen; omega) (by omega) (by omega) ?_
          intro v14 w14 own14 g14 _
          have own15 : w14.ownsRow (w.heap.size + 2) 53 1 v14 (d ++ [nv]).length (nums (d ++ [nv])) := by
            rw [show nums (d ++ [nv]) = nums d ++ [.int .u64 nv] by simp [nums], show (d ++ [nv]).length = d.length + 1 by simp]; exact own14
          have M5 := M4.app g14 own15
          have hkk : Keeps (fun j => vd.ownBlock ≠ some j) w4 w14 := Keeps.grown g14 fun k e h => h e
          have hm4 := hkk.blk M4.mv fun e => by have := (M4.rowd.lt _ e).1; omega
          obtain ⟨-, A4, c4, rfl⟩ := own_sl own14
          simp [go_sem, IntWalk.iteOmega, IntWalk.toNatUp, hm4.cell, hm4.frozen, hm4.lt, e2, e6, e7, e11]
          refine roundEnd.mk ⟨j + 1, d ++ [nv], .slice A4 (d.length + 1) c4, by omega, by omega, by omega, by simp [go_sem, e2], by simp [go_sem, e6], by simp [go_sem, e7], by simp [go_sem], hnx, M5⟩ ?_
          simp [go_sem, intOf]; omega
      · have hd200 : (ws.take 200).drop (flds k).length = (ws.take j).drop (flds k).length := by
          by_cases h : j < ws.length
          · have : j = 200 := by omega
            rw [this]
          · rw [List.take_of_length_le (i := j) (by omega), List.take_of_length_le (by omega)]
        obtain ⟨-, Ab, cb, rfl⟩ := own_sl M.row
        obtain ⟨-, Ad, cd, rfl⟩ := own_sl M.rowd
        have hzM := Blk_setRow M.res (cs' := #[.int .i64 k, .int .i64 S.a, .int .i64 S.t, .int .i64 S.n, .slice Ab S.b.length cb, .slice Ad d.length cd])
        have kz : ∀ cs, Keeps (fun j => j ≠ w.heap.size) wq (wq.setRow w.heap.size cs) := fun cs => Keeps.setRow wq w.heap.size cs (fun h => h rfl)
        have post : ∀ cs, ReadP (wq.setRow w.heap.size cs) w.heap.size k ws (.agg #[.int .i64 k, .int .i64 S.a, .int .i64 S.t, .int .i64 S.n, .slice Ab S.b.length cb, .slice Ad d.length cd]) := fun cs => readP_all hk h0 hS hlo hz (d := d) (by rw [hDk]; simp; rw [hd200]; exact hnum) (row_keeps M.row (kz _) fun j hj e => row_ne M.row M.res (by decide) (by rw [hj, e])) (row_low (row_keeps M.rowd (kz _) fun j hj e => row_ne M.rowd M.res (by decide) (by rw [hj, e])) (by omega))
        by_cases h : j < ws.length
        · have h1 : (j : Int) < ws.length := by omega
          have h2 : ¬ (j : Int) < 200 := by omega
          simp [go_sem, IntWalk.iteOmega, IntWalk.toNatUp, e2, e6, e7, e11, h1, h2, M.mv.cell, canWrite_all M.res 6 rfl, storeSeg_all M.res, hzM.cell]
          exact ⟨post _, below_setRow M.below (Nat.le_refl _) _⟩
        · have h1 : ¬ (j : Int) < ws.length := by omega
          simp [go_sem, IntWalk.iteOmega, IntWalk.toNatUp, e2, e6, e7, e11, h1, M.mv.cell, canWrite_all M.res 6 rfl, storeSeg_all M.res, hzM.cell]
          exact ⟨post _, below_setRow M.below (Nat.le_refl _) _⟩
end Go.Proofs.YtpmmfabendnhiaaDoor
namespace Go.Proofs.YtpmmfabendnhiaaDoor
open Go.RowKit
open Go.Lib (strCells byteCells decDigits)
set_option linter.unusedVariables false
set_option linter.unusedSimpArgs false
set_option maxRecDepth 10000
theorem check_ok {m : Mv} (hok : m.OK) (hf : m.fits' 4009) (hk : m.kind ≠ 0) : checkB m.kind m.node m.rcv m.n m.bytes.length m.draws.length = true := by
  have c : ∀ (b : Bool) (n : Nat), (if b then n ≤ maxStake else n = 0) → may1 n = true ∧ (b || decide ((n : Int) = 0)) = true := by
    intro b n h
    cases b with
    | true => simp at h; exact ⟨may1_nat h, rfl⟩
    | false => simp at h; subst h; exact ⟨by decide, rfl⟩
  obtain ⟨a1, a2⟩ := c _ _ hok.node
  obtain ⟨b1, b2⟩ := c _ _ hok.rcv
  obtain ⟨c1, c2⟩ := c _ _ hok.n
  unfold checkB
  rw [a1, a2, b1, b2, c1, c2, decide_eq_true hk, decide_eq_true hf.1, decide_eq_true hf.2]
  have d1 : (hB m.kind || decide (m.bytes.length = 0)) = true := by
    cases h : hB m.kind with
    | true => rfl
    | false => rw [hok.bytes h]; rfl
  have d2 : (hD m.kind || decide (m.draws.length = 0)) = true := by
    cases h : hD m.kind with
    | true => rfl
    | false => rw [hok.draws h]; rfl
  rw [d1, d2]
  rfl
theorem move_none {l x : List UInt8} {ws : Wds} (hws : wordsV l = x :: ws) (h : ∀ m', readV (kindV x) ws = some m' → m'.fits' 4009 → kindV x ≠ 0 → False) : moveV 4009 l = none := by
  unfold moveV
  rw [hws]
  simp only
  split
  · rfl
  · rename_i h0
    split
    · rename_i m hm
      split
      · rename_i hf
        exact (h m hm hf h0).elim
      · rfl
    · rfl
theorem Rd_tail {w : World} {g o : Nat} {x : List UInt8} {ws : Wds} (h : Rd w 1 (some ⟨g, o, none⟩) (x :: ws).length (strs (x :: ws))) (c : Nat) (hc : ws.length + 1 ≤ c) : Rd w 1 (if c = 1 then some ⟨g, o, none⟩ else some ⟨g, o + 1, none⟩) ws.length (strs ws) := by
  obtain ⟨g', o', e, hg, hcell⟩ := h.cells (by simp)
  cases e
  refine ⟨by simp [strs], fun hp => ?_⟩
  rw [if_neg (by omega)]
  refine ⟨g, o + 1, rfl, hg, fun j u hu => ?_⟩
  have := hcell (j + 1) u (by simpa [strs] using hu)
  rwa [show o + (j + 1) = o + 1 + j by omega] at this
set_option maxHeartbeats 12800000 in
theorem rmove_any (l : List UInt8) (hl : l.length ≤ 20000) (w : World) : callE Tryd.prog 17 #[.string (strOf l)] w fun v w' => (match moveV 4009 l with | none => v = .tuple #[.agg zeroMv, .int .i64 270] | some m => ∃ vb vd, v = .tuple #[.agg (mvCells m vb vd), .int .i64 0] ∧ MvO w' w.heap.size m vb vd) ∧ Below w.heap.size w w' := by
  have hsm := fun s (h : s ∈ wordsV l) => words_small h
  have hln := words_len l
  obtain ⟨x, ws, hws⟩ : ∃ x ws, wordsV l = x :: ws := by
    cases h : wordsV l with
    | nil => exact absurd h (go_ne l [])
    | cons x ws => exact ⟨x, ws, rfl⟩
  rw [hws] at hsm hln
  simp only [List.length_cons] at hln
  refine calls_E Tryd.func17 rfl rfl rfl (Nat.le_of_ble_eq_true rfl) ?_
  simp [go_sem, IntWalk.iteOmega, IntWalk.toNatUp]
  have kR := ext_alloc w (.cells #[.int .i64 0, .int .i64 0, .int .i64 0, .int .i64 0, .slice none 0 0, .slice none 0 0] 48)
  have hR : Blk (w.alloc (.cells #[.int .i64 0, .int .i64 0, .int .i64 0, .int .i64 0, .slice none 0 0, .slice none 0 0] 48)) w.heap.size 48 #[.int .i64 0, .int .i64 0, .int .i64 0, .int .i64 0, .slice none 0 0, .slice none 0 0] := Blk.self_ rfl
  generalize w.alloc (.cells #[.int .i64 0, .int .i64 0, .int .i64 0, .int .i64 0, .slice none 0 0, .slice none 0 0] 48) = w0 at *
  refine callE_of (rwords_any l (by omega) w0) ?_
  rintro v1 w1 ⟨o1, k1⟩
  rw [hws] at o1
  have kk1 := kR.trans (k1.mono kR.size)
  have hR1 := hR.keep k1
  obtain ⟨⟨A, c, e1, hrd, hA, hc1, hc2⟩, A', c', e2⟩ := own_sl o1
  subst e1
  clear e2 o1
  obtain ⟨g, o, rfl, hg, hcell⟩ := hrd.cells (by simp)
  have hx0 := hcell 0 (.string (strOf x)) (by simp [strs])
  rw [Nat.add_zero] at hx0
  simp only [List.length_cons] at hc1
  simp [go_sem, IntWalk.iteOmega, IntWalk.toNatUp]
  refine W_loop (fun s wr => ∃ i : Nat, 1 ≤ i ∧ i ≤ 12 ∧ s 0 = .string (strOf l) ∧ s 2 = .pointer (some ⟨w.heap.size, 0, none⟩) ∧ s 4 = .slice (some ⟨g, o, none⟩) (x :: ws).length c ∧ s 5 = .int .i64 i ∧ (∀ j, 1 ≤ j → j < i → nameK j = x → moveV 4009 l = none) ∧ Below w1.heap.size w1 wr) (fun s _ => 12 - (intOf (s 5)).toNat) ?_ ?_
  · exact ⟨1, by omega, by omega, by simp [go_sem], by simp [go_sem], by simp [go_sem], by simp [go_sem], fun j h1 h2 => by omega, Below.refl _ _⟩
  rintro s wr ⟨i, hi1, hi2, e0, e2, e4, e5, hno, hbw⟩
  have hRr := hR1.keep hbw
  have kkr := kk1.trans (hbw.mono kk1.size)
  by_cases hlt : i ≤ 11
  · have hlt' : (i : Int) ≤ 11 := by omega
    have hcx := hbw.cell (p := ⟨g, o, none⟩) hg
    rw [hx0] at hcx
    by_cases hx : nameK i = x
    · have hb : ((strOf (nameK i)).toList == (strOf x).toList) = true := by rw [hx]; simp
      have hkx : kindV x = i := by rw [← hx]; exact kindV_of hlt (by omega)
      have hrt := (Rd_tail hrd c hc1).keep hbw
      have hcc : ws.length + 1 ≤ c := hc1
      have hcc' : ws.length ≤ c - 1 ∧ c - 1 ≤ 9223372036854775807 := by omega
      simp [go_sem, IntWalk.iteOmega, IntWalk.toNatUp, e0, e2, e4, e5, hlt', shapeE i hlt, hcx, hb, hcc]
      obtain ⟨A', hA'⟩ : ∃ A' : Option Addr, (if c = 1 then some ⟨g, o, none⟩ else some ⟨g, o + 1, none⟩) = A' := ⟨_, rfl⟩
      rw [hA'] at hrt ⊢
      have hsm' : ∀ y ∈ ws, y.length ≤ 50000 := fun y hy => by have := hsm y (List.mem_cons_of_mem _ hy); omega
      refine callE_of (rread_any i hlt (by omega) ws A' (c - 1) wr hrt hcc' hsm' (by omega)) ?_
      rintro v w2 ⟨hP, k2⟩
      have kk2 := kkr.trans (k2.mono kkr.size)
      have hbw2 := hbw.trans (k2.mono hbw.size)
      have hR2 := hRr.keep k2
      have next : moveV 4009 l = none → ∀ j, 1 ≤ j → j < i + 1 → nameK j = x → moveV 4009 l = none := fun h j _ _ _ => h
      rcases hP with ⟨m, vb, vd, rfl, ⟨hvb, hvd⟩, hmk, hok, huniq⟩ | ⟨k', a, t, n, A2, lb, cb, B2, ld, cd, hk', rfl, hck, hbad⟩
      · obtain ⟨hsb, A2, c2, rfl⟩ := own_sl hvb
        obtain ⟨hsd, A3, c3, rfl⟩ := own_sl hvd
        unfold mvCells
        have kA := ext_alloc w2 (.cells #[.int .i64 m.kind, .int .i64 m.node, .int .i64 m.rcv, .int .i64 m.n, .slice A2 m.bytes.length c2, .slice A3 m.draws.length c3] 48)
        have hM3 : Blk (w2.alloc (.cells #[.int .i64 m.kind, .int .i64 m.node, .int .i64 m.rcv, .int .i64 m.n, .slice A2 m.bytes.length c2, .slice A3 m.draws.length c3] 48)) w2.heap.size 48 #[.int .i64 m.kind, .int .i64 m.node, .int .i64 m.rcv, .int .i64 m.n, .slice A2 m.bytes.length c2, .slice A3 m.draws.length c3] := Blk.self_ rfl
        have hR3 := hR2.keep kA
        have hsb3 := Sl_on hsb kA
        have hsd3 := Sl_on hsd kA
        have hvb3 := row_below hvb kA
        have hvd3 := row_below hvd kA
        have kk3 := kk2.trans (kA.mono kk2.size)
        have hbw3 := hbw2.trans (kA.mono hbw2.size)
        have hMR : w.heap.size < w2.heap.size := by have := hR2.lt; omega
        have hvb4 := row_low hvb3 (b' := w.heap.size) kkr.size
        have hvd4 := row_low hvd3 (b' := w.heap.size) kkr.size
        clear hvb hvd hvb3 hvd3 hsb hsd
        simp [go_sem, IntWalk.iteOmega, IntWalk.toNatUp]
        generalize w2.alloc (.cells #[.int .i64 m.kind, .int .i64 m.node, .int .i64 m.rcv, .int .i64 m.n, .slice A2 m.bytes.length c2, .slice A3 m.draws.length c3] 48) = w3 at *
        have hmk11 : m.kind ≤ 11 := by omega
        have hmk0 : m.kind ≠ 0 := by omega
        cases hck : checkB m.kind m.node m.rcv m.n m.bytes.length m.draws.length with
        | false =>
          have hnone : moveV 4009 l = none := move_none hws fun m' hm' hf' h0' => by
            rw [hkx] at hm'
            have := huniq m' hm' hf'.2
            subst this
            rw [check_ok hok hf' hmk0] at hck
            cases hck
          refine callE_of (rline_bad m.kind hmk11 m.node m.rcv m.n A2 A3 m.bytes.length c2 m.draws.length c3 hck w3) ?_
          rintro _ w4 ⟨rfl, k4⟩
          simp [go_sem, IntWalk.iteOmega, IntWalk.toNatUp, e0, e2, e4, e5]
          refine roundEnd.mk ⟨i + 1, by omega, by omega, by simp [go_sem, e0], by simp [go_sem, e2], by simp [go_sem, e4], by simp [go_sem], next hnone, hbw3.trans (k4.mono hbw3.size)⟩ ?_
          simp [go_sem, intOf]; omega
        | true =>
          obtain ⟨hf, -⟩ := fits_of hck
          have hiff := move_iff (t := l) hok hf hmk0 hmk11
          refine callE_of (rline_good m hmk11 hok hck hsb3 hsd3) ?_
          rintro _ w4 ⟨rfl, k4⟩
          have hM4 := hM3.keep k4
          have hR4 := hR3.keep k4
          by_cases heq : lineV m = l
          · have hb2 : ((strOf (lineV m)).toList == (strOf l).toList) = true := by rw [heq]; simp
            rw [hiff.1 heq]
            have hz := Blk_setRow hR4 (cs' := #[.int .i64 m.kind, .int .i64 m.node, .int .i64 m.rcv, .int .i64 m.n, .slice A2 m.bytes.length c2, .slice A3 m.draws.length c3])
            simp [go_sem, IntWalk.iteOmega, IntWalk.toNatUp, e0, e2, e4, e5, hb2, hM4.cell, canWrite_all hR4 6 rfl, storeSeg_all hR4, hz.cell]
            have kz : ∀ cs, Keeps (fun j => j ≠ w.heap.size) w4 (w4.setRow w.heap.size cs) := fun cs => Keeps.setRow w4 w.heap.size cs (fun h => h rfl)
            have q1 := row_below hvb4 k4
            have q2 := row_below hvd4 k4
            refine ⟨⟨_, _, ⟨rfl, rfl⟩, ?_, ?_⟩, below_setRow (kk3.trans (k4.mono kk3.size)) (Nat.le_refl _) _⟩
            · exact row_keeps q1 (kz _) fun j hj e => row_ne q1 hR4 (by decide) (by rw [hj, e])
            · exact row_keeps q2 (kz _) fun j hj e => row_ne q2 hR4 (by decide) (by rw [hj, e])
          · have hb2 : ((strOf (lineV m)).toList == (strOf l).toList) = false := beq_eq_false_iff_ne.2 fun e => heq (str_ext.1 e)
            have hnone : moveV 4009 l = none := move_none hws fun m' hm' hf' h0' => by
              have hm2 := hm'
              rw [hkx] at hm2
              have := huniq m' hm2 hf'.2
              subst this
              refine heq (hiff.2 ?_)
              unfold moveV
              rw [hws]
              simp only
              rw [if_neg h0', hm', ]
              simp only
              rw [if_pos hf']
            simp [go_sem, IntWalk.iteOmega, IntWalk.toNatUp, e0, e2, e4, e5, hb2]
            refine roundEnd.mk ⟨i + 1, by omega, by omega, by simp [go_sem, e0], by simp [go_sem, e2], by simp [go_sem, e4], by simp [go_sem], next hnone, hbw3.trans (k4.mono hbw3.size)⟩ ?_
            simp [go_sem, intOf]; omega
      · have kA := ext_alloc w2 (.cells #[.int .i64 k', .int .i64 a, .int .i64 t, .int .i64 n, .slice A2 lb cb, .slice B2 ld cd] 48)
        have hM3 : Blk (w2.alloc (.cells #[.int .i64 k', .int .i64 a, .int .i64 t, .int .i64 n, .slice A2 lb cb, .slice B2 ld cd] 48)) w2.heap.size 48 #[.int .i64 k', .int .i64 a, .int .i64 t, .int .i64 n, .slice A2 lb cb, .slice B2 ld cd] := Blk.self_ rfl
        have hbw3 := hbw2.trans (kA.mono hbw2.size)
        have hnone : moveV 4009 l = none := move_none hws fun m' hm' hf' _ => by rw [hkx] at hm'; have := hbad m' hm'; have := hf'.2; omega
        simp [go_sem, IntWalk.iteOmega, IntWalk.toNatUp]
        refine callE_of (rline_bad k' hk' a t n A2 B2 lb cb ld cd hck _) ?_
        rintro _ w4 ⟨rfl, k4⟩
        simp [go_sem, IntWalk.iteOmega, IntWalk.toNatUp, e0, e2, e4, e5]
        refine roundEnd.mk ⟨i + 1, by omega, by omega, by simp [go_sem, e0], by simp [go_sem, e2], by simp [go_sem, e4], by simp [go_sem], next hnone, hbw3.trans (k4.mono hbw3.size)⟩ ?_
        simp [go_sem, intOf]; omega
    · have hb : ((strOf (nameK i)).toList == (strOf x).toList) = false := beq_eq_false_iff_ne.2 fun e => hx (str_ext.1 e)
      simp [go_sem, IntWalk.iteOmega, IntWalk.toNatUp, e0, e2, e4, e5, hlt', shapeE i hlt, hcx, hb]
      refine roundEnd.mk ⟨i + 1, by omega, by omega, by simp [go_sem, e0], by simp [go_sem, e2], by simp [go_sem, e4], by simp [go_sem], fun j h1 h2 h3 => ?_, hbw⟩ ?_
      · rcases (by omega : j < i ∨ j = i) with q | rfl
        · exact hno j h1 q h3
        · exact absurd h3 hx
      · simp [go_sem, intOf]; omega
  · have hlt' : ¬ (i : Int) ≤ 11 := by omega
    have hnone : moveV 4009 l = none := by
      rcases Nat.eq_zero_or_pos (kindV x) with h0 | h0
      · exact move_none hws fun m' _ _ h => h h0
      · obtain ⟨q1, q2⟩ := kindV_name (w := x) (by omega)
        exact hno _ h0 (by omega) q1
    rw [hnone]
    have hz := Blk_setRow hRr (cs' := #[.int .i64 0, .int .i64 0, .int .i64 0, .int .i64 0, .slice none 0 0, .slice none 0 0])
    simp [go_sem, IntWalk.iteOmega, IntWalk.toNatUp, e0, e2, e4, e5, hlt', canWrite_all hRr 6 rfl, storeSeg_all hRr, hz.cell]
    exact ⟨rfl, below_setRow kkr (Nat.le_refl _) _⟩
end Go.Proofs.YtpmmfabendnhiaaDoor
