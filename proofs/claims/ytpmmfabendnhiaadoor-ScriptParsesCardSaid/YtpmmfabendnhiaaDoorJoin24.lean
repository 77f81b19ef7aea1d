/-
  Texts joined: PRHead8, PRHeadR, PReadP, PRCheck.
-/
import Derived.Test.YtpmmfabendnhiaaDoorJoin23
namespace Go.Proofs.YtpmmfabendnhiaaDoor
open Go.RowKit
open Go.Lib (strCells byteCells decDigits)
set_option linter.unusedVariables false
set_option linter.unusedSimpArgs false
set_option maxRecDepth 10000
set_option maxHeartbeats 12800000 in
theorem rhead8 (S : PS) {vv vb vf : Value} (h1 : vv.oneCell' = true) (h2 : vb.oneCell' = true) (h3 : vf.oneCell' = true) (l : List UInt8) (hl : l.length ≤ 20000) (w : World) :
    callE Tryd.prog 15 #[.agg (planL S.c S.now vv vb vf).toArray, .int .i64 7, .string (strOf l)] w (RHeadPost w S vv vb vf 8 l) := by
  obtain ⟨P, hP⟩ : ∃ P, RHeadPost w S vv vb vf 8 l = P := ⟨_, rfl⟩
  rw [hP]
  have hsm := fun s (h : s ∈ wordsV l) => words_small h
  have hwl := words_len l
  obtain ⟨x, ws, hws⟩ : ∃ x ws, wordsV l = x :: ws := by
    cases h : wordsV l with
    | nil => exact absurd h (go_ne l [])
    | cons x ws => exact ⟨x, ws, rfl⟩
  rw [hws] at hsm hwl
  simp only [List.length_cons] at hwl
  have hone : allOne (planL S.c S.now vv vb vf) = true := planL_one h1 h2 h3
  have hlen := planL_len S.c S.now vv vb vf
  refine calls_E Tryd.func15 rfl rfl rfl (Nat.le_of_ble_eq_true rfl) ?_
  simp [go_sem, IntWalk.iteOmega, IntWalk.toNatUp]
  rw [planZ_lit]
  have hP0 : Blk ((w.alloc (.cells (planL S.c S.now vv vb vf).toArray 39)).alloc (.cells planZ.toArray 39)) w.heap.size 39 (planL S.c S.now vv vb vf).toArray := (Blk.self_ rfl).more _
  have hR0 : Blk ((w.alloc (.cells (planL S.c S.now vv vb vf).toArray 39)).alloc (.cells planZ.toArray 39)) (w.heap.size + 1) 39 planZ.toArray := Blk.self_ (by simp)
  have k0 : Below w.heap.size w ((w.alloc (.cells (planL S.c S.now vv vb vf).toArray 39)).alloc (.cells planZ.toArray 39)) := ext_trans (ext_alloc w _) (ext_alloc _ _)
  generalize (w.alloc (.cells (planL S.c S.now vv vb vf).toArray 39)).alloc (.cells planZ.toArray 39) = w0 at *
  refine callE_of (rwords_any l (by omega) w0) ?_
  rintro v1 w1 ⟨o1, k1⟩
  rw [hws] at o1
  obtain ⟨⟨A, cp, e1, hrd, hA, hc1, hc2⟩, A', c', e2⟩ := own_sl o1
  subst e1
  clear e2
  obtain ⟨g, o, rfl, hg, hcell⟩ := hrd.cells (by simp)
  have hx0 := hcell 0 (.string (strOf x)) (by simp [strs])
  rw [Nat.add_zero] at hx0
  have hP1 := hP0.keep k1
  have hR1 := hR0.keep k1
  have kk1 := ext_trans k0 k1
  clear hP0 hR0 k0 k1 hA o1
  have failP : ∀ w', Below w.heap.size w w' → headV 8 l S = none → P (.tuple #[.agg (planL S.c S.now vv vb vf).toArray, .bool false]) w' := by
    intro w' hb hn
    rw [← hP]
    refine ⟨?_, hb⟩
    rw [hn]
    exact ⟨_, rfl, hlen, hone⟩
  have hgl : (0 : Int) < (ws.length : Int) + 1 := by omega
  have cfi : (⟨#[110, 111, 119]⟩ : ByteArray) = strOf (hname 8) := rfl
  have hPd := hP1.drew
  have hRd := hR1.drew
  have rc := readCells_all hPd 32 rfl
  have cw := canWrite_all hRd 32 rfl
  have ss := storeSeg_all hRd (planL S.c S.now vv vb vf) rfl
  have rf := readCells_all (Blk_setRow hRd (cs' := (planL S.c S.now vv vb vf).toArray)) 32 rfl
  have bl := below_setRow kk1.drew (g := w.heap.size + 1) (by omega) (planL S.c S.now vv vb vf).toArray
  by_cases hw2 : ws.length = 1
  case neg =>
    have hnone : headV 8 l S = none := by
      unfold headV
      rw [hws]
      simp only
      split
      · rw [if_neg (by omega), if_neg (by omega), if_neg]
        intro h
        exact hw2 ((okN_iff 1 ws).1 h).1
      · rfl
    have fp := failP _ bl hnone
    have hb2 : (((ws.length : Int) + 1) == 2) = false := by simp; omega
    simp [go_sem, IntWalk.iteOmega, IntWalk.toNatUp, hb2]
    refine W_flow (fun _ => True) (.pure 0 (.pure 1 (.pure 2 (.pure 3 (.pure 4 (.pure 5 (.pure 7 (.one 6 (.pure 8 (.one 9 (.pure 10 (.pure 11 (.pure 12 (.pure 13 (.pure 14 (.pure 15 (.pure 17 (.one 16 (.pure 18 (.one 19 (.pure 20 (.pure 21 (.pure 22 (.pure 23 (.pure 24 (.done)))))))))))))))))))))))))) follows (by kernel_rfl) ?_
    simp [go_sem, IntWalk.iteOmega, IntWalk.toNatUp, rc, cw, ss, rf, hone, hlen]
    exact fp
  obtain ⟨y, rfl⟩ : ∃ y, ws = [y] := by
    match ws, hw2 with
    | [y], _ => exact ⟨y, rfl⟩
  have hy0 := hcell 1 (.string (strOf y)) (by simp [strs])
  have hyl : y.length ≤ 50000 := by have := hsm y (by simp); omega
  by_cases hx : x = hname 8
  case neg =>
    have hnone : headV 8 l S = none := by
      unfold headV
      rw [hws]
      simp only
      rw [if_neg hx]
    have fp := failP _ bl hnone
    have hb1 : ((strOf x).toList == (strOf (hname 8)).toList) = false := beq_eq_false_iff_ne.2 fun e => hx (str_ext.1 e)
    simp [go_sem, IntWalk.iteOmega, IntWalk.toNatUp, cfi, hx0, hb1]
    refine W_flow (fun _ => True) (.pure 0 (.pure 1 (.pure 2 (.pure 3 (.pure 4 (.pure 5 (.pure 7 (.one 6 (.pure 8 (.one 9 (.pure 10 (.pure 11 (.pure 12 (.pure 13 (.pure 14 (.pure 15 (.pure 17 (.one 16 (.pure 18 (.one 19 (.pure 20 (.pure 21 (.pure 22 (.pure 23 (.pure 24 (.done)))))))))))))))))))))))))) follows (by kernel_rfl) ?_
    simp [go_sem, IntWalk.iteOmega, IntWalk.toNatUp, rc, cw, ss, rf, hone, hlen]
    exact fp
  have hb1 : ((strOf x).toList == (strOf (hname 8)).toList) = true := by rw [hx]; simp
  clear rc cw ss rf bl hPd hRd
  simp [go_sem, IntWalk.iteOmega, IntWalk.toNatUp, cfi, hx0, hb1, hy0]
  refine callE_of (small_any y hyl w1) ?_
  rintro _ w2 ⟨rfl, k2⟩
  have hP2 := hP1.keep k2
  have hR2 := hR1.keep k2
  have kk2 : Below w.heap.size w w2 := kk1.trans (k2.mono kk1.size)
  have c31 := hP2.cell 31
  rw [pl_31] at c31
  have hf := hP2.frozen
  have hhd : headV 8 l S = if okN 1 [y] then some { S with now := nG [y] 0 } else none := by
    unfold headV
    rw [hws]
    simp only
    rw [if_pos hx, if_neg (by omega), if_neg (by omega)]
  have hRs := fun v => hR2.farCell (b := w.heap.size) (o := 31) (by omega) v
  have kks := fun v => kk2.setCell (p := ⟨w.heap.size, 31, none⟩) (Nat.le_refl _) v
  rcases small_val y with ⟨q1, q2⟩ | ⟨q1, q2⟩
  · rw [q2]
    have hok : okN 1 [y] = true := (okN_iff 1 [y]).2 ⟨rfl, by simpa using q1⟩
    rw [if_pos hok, show nG [y] 0 = (numT [y]).getD 0 from rfl] at hhd
    generalize (numT [y]).getD 0 = v at *
    have hPs := Blk_set (o := 31) (v := .int .i64 (v : Int)) hP2
    rw [pl_set31] at hPs
    have d31 := hPs.drew.cell 31
    rw [pl_31] at d31
    have rc := readCells_all hPs.drew 32 rfl
    have cw := canWrite_all (hRs (.int .i64 (v : Int))).drew 32 rfl
    have ss := storeSeg_all (hRs (.int .i64 (v : Int))).drew (planL S.c v vv vb vf) rfl
    have rf := readCells_all (Blk_setRow (hRs (.int .i64 (v : Int))).drew (cs' := (planL S.c v vv vb vf).toArray)) 32 rfl
    have bl := below_setRow (kks (.int .i64 (v : Int))).drew (g := w.heap.size + 1) (by omega) (planL S.c v vv vb vf).toArray
    have hone2 : allOne (planL S.c v vv vb vf) = true := planL_one h1 h2 h3
    have hlen2 := planL_len S.c v vv vb vf
    have hlt := hPs.lt
    have hnn : (0 : Int) ≤ v := by omega
    have hhe := (held_refl (fun g => ¬ g = w.heap.size + 1) (w2.setCell ⟨w.heap.size, 31, none⟩ (.int .i64 (v : Int))).drew).row (g := w.heap.size + 1) (planL S.c v vv vb vf).toArray (fun h => h rfl)
    simp [go_sem, IntWalk.iteOmega, IntWalk.toNatUp, c31, hf]
    generalize w2.setCell ⟨w.heap.size, 31, none⟩ (.int .i64 (v : Int)) = w3 at *
    refine W_flow (fun g => ¬ g = w.heap.size + 1) (.pure 0 (.pure 1 (.pure 2 (.pure 3 (.one 4 (.pure 5 (.done))))))) follows (by kernel_rfl) ?_
    simp [go_sem, IntWalk.iteOmega, IntWalk.toNatUp, d31, rc, cw, ss, rf, hone2, hlen2, hlt, hnn, hhe]
    rw [← hP]
    refine ⟨?_, bl⟩
    rw [hhd]
    exact ⟨_, rfl, h3, .inl ⟨rfl, rfl⟩⟩
  · rw [q2]
    have hok : okN 1 [y] = false := by
      cases h : okN 1 [y] with
      | false => rfl
      | true =>
        have := ((okN_iff 1 [y]).1 h).2 y (by simp)
        rw [q1] at this
        cases this
    rw [hok, if_neg (by simp)] at hhd
    obtain ⟨L, hL⟩ : ∃ L, cfgL S.c ++ [vv, vb, vf, .int .i64 (-1)] = L := ⟨_, rfl⟩
    have hlen2 : L.length = 32 := by rw [← hL]; rfl
    have hone2 : allOne L = true := by rw [← hL]; unfold cfgL; simp only [List.cons_append, List.nil_append, allOne, h1, h2, h3]; rfl
    have hPs : Blk (w2.setCell ⟨w.heap.size, 31, none⟩ (.int .i64 (-1))) w.heap.size 39 L.toArray := by
      have := Blk_set (o := 31) (v := .int .i64 (-1)) hP2
      rw [show (planL S.c S.now vv vb vf).toArray.setIfInBounds 31 (.int .i64 (-1)) = L.toArray by rw [← hL]; rfl] at this
      exact this
    have d31 := hPs.drew.cell 31
    rw [show L.toArray[31]? = some (.int .i64 (-1)) by rw [← hL]; rfl] at d31
    have rc := readCells_all hPs.drew 32 (by simpa using hlen2)
    have cw := canWrite_all (hRs (.int .i64 (-1))).drew 32 rfl
    have ss := storeSeg_all (hRs (.int .i64 (-1))).drew L (by rw [hlen2]; rfl)
    have rf := readCells_all (Blk_setRow (hRs (.int .i64 (-1))).drew (cs' := L.toArray)) 32 (by simpa using hlen2)
    have bl := below_setRow (kks (.int .i64 (-1))).drew (g := w.heap.size + 1) (by omega) L.toArray
    have hlt := hPs.lt
    have hhe := (held_refl (fun g => ¬ g = w.heap.size + 1) (w2.setCell ⟨w.heap.size, 31, none⟩ (.int .i64 (-1))).drew).row (g := w.heap.size + 1) L.toArray (fun h => h rfl)
    simp [go_sem, IntWalk.iteOmega, IntWalk.toNatUp, c31, hf]
    generalize w2.setCell ⟨w.heap.size, 31, none⟩ (.int .i64 (-1)) = w3 at *
    refine W_flow (fun g => ¬ g = w.heap.size + 1) (.pure 0 (.pure 1 (.pure 2 (.pure 3 (.one 4 (.pure 5 (.done))))))) follows (by kernel_rfl) ?_
    simp [go_sem, IntWalk.iteOmega, IntWalk.toNatUp, d31, rc, cw, ss, rf, hone2, hlen2, hlt, hhe]
    rw [← hP]
    refine ⟨?_, bl⟩
    rw [hhd]
    exact ⟨_, rfl, hlen2, hone2⟩
end Go.Proofs.YtpmmfabendnhiaaDoor
namespace Go.Proofs.YtpmmfabendnhiaaDoor
open Go.RowKit
open Go.Lib (strCells byteCells decDigits)
set_option linter.unusedVariables false
set_option linter.unusedSimpArgs false
theorem rhead_any {n : Nat} (hn1 : 1 ≤ n) (hn : n ≤ 8) (S : PS) {vv vb vf : Value} (h1 : vv.oneCell' = true) (h2 : vb.oneCell' = true) (h3 : vf.oneCell' = true) (l : List UInt8) (hl : l.length ≤ 20000) (w : World) :
    callE Tryd.prog 15 #[.agg (planL S.c S.now vv vb vf).toArray, .int .i64 ((n - 1 : Nat) : Int), .string (strOf l)] w (RHeadPost w S vv vb vf n l) := by
  rcases (by omega : n ≤ 6 ∨ n = 7 ∨ n = 8) with h | rfl | rfl
  · exact rhead_low hn1 h S h1 h2 h3 l hl w
  · exact rhead7 S h1 h2 h3 l hl w
  · exact rhead8 S h1 h2 h3 l hl w
end Go.Proofs.YtpmmfabendnhiaaDoor
namespace Go.Proofs.YtpmmfabendnhiaaDoor
open Go.Lib (decDigits)
set_option linter.unusedVariables false
set_option linter.unusedSimpArgs false
structure RS where
  a : Int
  t : Int
  n : Int
  b : List UInt8
def fldR (c : UInt8) (w : List UInt8) (S : RS) : Option RS :=
  if c = 110 then some { S with a := smallV w } else if c = 116 then some { S with t := smallV w } else if c = 107 then some { S with n := smallV w } else match bytesV w with | some l => some { S with b := l } | none => none
def goR : List UInt8 → Wds → RS → Option RS
  | [], _, S => some S
  | _ :: _, [], _ => none
  | c :: f, w :: ws, S => match fldR c w S with | some S' => goR f ws S' | none => none
def RS0 : RS := ⟨0, 0, 0, []⟩
def flds : Nat → List UInt8
  | 1 => [110]
  | 2 => [110]
  | 3 => [110, 107]
  | 4 => [110, 98]
  | 5 => [107]
  | 6 => [107]
  | 7 => [107]
  | 8 => [110, 116, 98]
  | 9 => [110, 107]
  | 10 => [110]
  | 11 => [110, 107]
  | _ => []
theorem shape_flds : ∀ k : Fin 12, shapeK k.val = flds k.val ++ (if hD k.val then [100] else []) ∧ (100 : UInt8) ∉ flds k.val ∧ (flds k.val).length ≤ 3 ∧ ∀ c ∈ flds k.val, c = 110 ∨ c = 116 ∨ c = 107 ∨ c = 98 := by decide
def RS.ok (S : RS) : Prop := 0 ≤ S.a ∧ 0 ≤ S.t ∧ 0 ≤ S.n
instance (S : RS) : Decidable S.ok := by unfold RS.ok; infer_instance
def RS.mv (S : RS) (k : Nat) (d : List Nat) : Mv := ⟨k, S.a.toNat, S.t.toNat, S.n.toNat, S.b, d⟩
theorem small_none {w : List UInt8} (h : numV w = none) : smallV w = -1 := by unfold smallV; rw [h]
theorem small_some {w : List UInt8} {n : Nat} (h : numV w = some n) (hn : n ≤ maxStake) : smallV w = n := by unfold smallV; rw [h]; exact if_pos hn
theorem small_great {w : List UInt8} {n : Nat} (h : numV w = some n) (hn : ¬ n ≤ maxStake) : smallV w = -1 := by unfold smallV; rw [h]; exact if_neg hn
theorem small_cases (w : List UInt8) (r : Wds) : (∃ n : Nat, smallV w = n ∧ takeNum true (w :: r) = some (n, r) ∧ n ≤ maxStake) ∨ smallV w = -1 ∧ takeNum true (w :: r) = none := by
  cases h : numV w with
  | none => exact .inr ⟨small_none h, by simp [takeNum, h]⟩
  | some n =>
    by_cases hn : n ≤ maxStake
    · exact .inl ⟨n, small_some h hn, by simp [takeNum, h, hn], hn⟩
    · exact .inr ⟨small_great h hn, by simp [takeNum, h, hn]⟩
theorem tkF (ws : Wds) : takeNum false ws = some (0, ws) := rfl
theorem tkN : takeNum true [] = none := rfl
theorem tbF (ws : Wds) : takeBytes false ws = some ([], ws) := rfl
theorem tbN : takeBytes true [] = none := rfl
theorem bytes_cases (w : List UInt8) (r : Wds) : (∃ l, bytesV w = some l ∧ takeBytes true (w :: r) = some (l, r)) ∨ bytesV w = none ∧ takeBytes true (w :: r) = none := by
  cases h : bytesV w with
  | none => exact .inr ⟨rfl, by simp [takeBytes, h]⟩
  | some l => exact .inl ⟨l, rfl, by simp [takeBytes, h]⟩
def readW (k : Nat) (ws : Wds) : Option Mv := match goR (flds k) ws RS0 with
  | none => none
  | some S => if S.ok then (match takeDraws (hD k) (ws.drop (flds k).length) with | none => none | some d => some (S.mv k d)) else none
theorem read_go (k : Nat) (hk : k ≤ 11) (h0 : k ≠ 0) (ws : Wds) : readV k ws = readW k ws := by
  unfold readV readW
  rcases (by omega : k = 1 ∨ k = 2 ∨ k = 3 ∨ k = 4 ∨ k = 5 ∨ k = 6 ∨ k = 7 ∨ k = 8 ∨ k = 9 ∨ k = 10 ∨ k = 11) with rfl | rfl | rfl | rfl | rfl | rfl | rfl | rfl | rfl | rfl | rfl
  all_goals
    simp only [show ∀ n, hN n = (n == 1 || n == 2 || n == 3 || n == 4 || n == 8 || n == 9 || n == 10 || n == 11) from fun _ => rfl, show ∀ n, hT n = (n == 8) from fun _ => rfl, show ∀ n, hK n = (n == 3 || n == 5 || n == 6 || n == 7 || n == 9 || n == 11) from fun _ => rfl, show ∀ n, hB n = (n == 4 || n == 8) from fun _ => rfl, flds]
    simp only [Nat.reduceBEq, Bool.or_false, Bool.or_true, Bool.true_or, Bool.false_or, tkF, tbF, beq_self_eq_true]
  · rcases ws with _ | ⟨x1, r⟩
    · simp [goR, fldR, RS0, RS.ok, RS.mv, tkN, tbN]
    rcases small_cases x1 r with ⟨n1, e1, t1, l1⟩ | ⟨e1, t1⟩ <;> simp [goR, fldR, RS0, RS.ok, RS.mv, tkN, tbN, e1, t1] <;> rfl
  · rcases ws with _ | ⟨x1, r⟩
    · simp [goR, fldR, RS0, RS.ok, RS.mv, tkN, tbN]
    rcases small_cases x1 r with ⟨n1, e1, t1, l1⟩ | ⟨e1, t1⟩ <;> simp [goR, fldR, RS0, RS.ok, RS.mv, tkN, tbN, e1, t1] <;> rfl
  · rcases ws with _ | ⟨x1, r⟩
    · simp [goR, fldR, RS0, RS.ok, RS.mv, tkN, tbN]
    rcases small_cases x1 r with ⟨n1, e1, t1, l1⟩ | ⟨e1, t1⟩
    · rcases r with _ | ⟨x2, r⟩
      · simp [goR, fldR, RS0, RS.ok, RS.mv, tkN, tbN, e1, t1]
      rcases small_cases x2 r with ⟨n2, e2, t2, l2⟩ | ⟨e2, t2⟩ <;> simp [goR, fldR, RS0, RS.ok, RS.mv, tkN, tbN, e1, t1, e2, t2] <;> rfl
    · rcases r with _ | ⟨x2, r⟩ <;> simp [goR, fldR, RS0, RS.ok, RS.mv, tkN, tbN, e1, t1]
  · rcases ws with _ | ⟨x1, r⟩
    · simp [goR, fldR, RS0, RS.ok, RS.mv, tkN, tbN]
    rcases small_cases x1 r with ⟨n1, e1, t1, l1⟩ | ⟨e1, t1⟩
    · rcases r with _ | ⟨x2, r⟩
      · simp [goR, fldR, RS0, RS.ok, RS.mv, tkN, tbN, e1, t1]
      rcases bytes_cases x2 r with ⟨n2, e2, t2⟩ | ⟨e2, t2⟩ <;> simp [goR, fldR, RS0, RS.ok, RS.mv, tkN, tbN, e1, t1, e2, t2] <;> rfl
    · rcases r with _ | ⟨x2, r⟩
      · simp [goR, fldR, RS0, RS.ok, RS.mv, tkN, tbN, e1, t1]
      rcases bytes_cases x2 r with ⟨n2, e2, t2⟩ | ⟨e2, t2⟩ <;> simp [goR, fldR, RS0, RS.ok, RS.mv, tkN, tbN, e1, t1, e2, t2]
  · rcases ws with _ | ⟨x1, r⟩
    · simp [goR, fldR, RS0, RS.ok, RS.mv, tkN, tbN]
    rcases small_cases x1 r with ⟨n1, e1, t1, l1⟩ | ⟨e1, t1⟩ <;> simp [goR, fldR, RS0, RS.ok, RS.mv, tkN, tbN, e1, t1] <;> rfl
  · rcases ws with _ | ⟨x1, r⟩
    · simp [goR, fldR, RS0, RS.ok, RS.mv, tkN, tbN]
    rcases small_cases x1 r with ⟨n1, e1, t1, l1⟩ | ⟨e1, t1⟩ <;> simp [goR, fldR, RS0, RS.ok, RS.mv, tkN, tbN, e1, t1] <;> rfl
  · rcases ws with _ | ⟨x1, r⟩
    · simp [goR, fldR, RS0, RS.ok, RS.mv, tkN, tbN]
    rcases small_cases x1 r with ⟨n1, e1, t1, l1⟩ | ⟨e1, t1⟩ <;> simp [goR, fldR, RS0, RS.ok, RS.mv, tkN, tbN, e1, t1] <;> rfl
  · rcases ws with _ | ⟨x1, r⟩
    · simp [goR, fldR, RS0, RS.ok, RS.mv, tkN, tbN]
    rcases r with _ | ⟨x2, r⟩
    · rcases small_cases x1 [] with ⟨n1, e1, t1, l1⟩ | ⟨e1, t1⟩ <;> simp [goR, fldR, RS0, RS.ok, RS.mv, tkN, tbN, e1, t1]
    rcases r with _ | ⟨x3, r⟩
    · rcases small_cases x1 [x2] with ⟨n1, e1, t1, l1⟩ | ⟨e1, t1⟩ <;> rcases small_cases x2 [] with ⟨n2, e2, t2, l2⟩ | ⟨e2, t2⟩ <;> simp [goR, fldR, RS0, RS.ok, RS.mv, tkN, tbN, e1, t1, e2, t2]
    rcases small_cases x1 (x2 :: x3 :: r) with ⟨n1, e1, t1, l1⟩ | ⟨e1, t1⟩ <;> rcases small_cases x2 (x3 :: r) with ⟨n2, e2, t2, l2⟩ | ⟨e2, t2⟩ <;> rcases bytes_cases x3 r with ⟨n3, e3, t3⟩ | ⟨e3, t3⟩ <;> simp [goR, fldR, RS0, RS.ok, RS.mv, tkN, tbN, e1, t1, e2, t2, e3, t3] <;> rfl
  · rcases ws with _ | ⟨x1, r⟩
    · simp [goR, fldR, RS0, RS.ok, RS.mv, tkN, tbN]
    rcases small_cases x1 r with ⟨n1, e1, t1, l1⟩ | ⟨e1, t1⟩
    · rcases r with _ | ⟨x2, r⟩
      · simp [goR, fldR, RS0, RS.ok, RS.mv, tkN, tbN, e1, t1]
      rcases small_cases x2 r with ⟨n2, e2, t2, l2⟩ | ⟨e2, t2⟩ <;> simp [goR, fldR, RS0, RS.ok, RS.mv, tkN, tbN, e1, t1, e2, t2] <;> rfl
    · rcases r with _ | ⟨x2, r⟩ <;> simp [goR, fldR, RS0, RS.ok, RS.mv, tkN, tbN, e1, t1]
  · rcases ws with _ | ⟨x1, r⟩
    · simp [goR, fldR, RS0, RS.ok, RS.mv, tkN, tbN]
    rcases small_cases x1 r with ⟨n1, e1, t1, l1⟩ | ⟨e1, t1⟩ <;> simp [goR, fldR, RS0, RS.ok, RS.mv, tkN, tbN, e1, t1] <;> rfl
  · rcases ws with _ | ⟨x1, r⟩
    · simp [goR, fldR, RS0, RS.ok, RS.mv, tkN, tbN]
    rcases small_cases x1 r with ⟨n1, e1, t1, l1⟩ | ⟨e1, t1⟩
    · rcases r with _ | ⟨x2, r⟩
      · simp [goR, fldR, RS0, RS.ok, RS.mv, tkN, tbN, e1, t1]
      rcases small_cases x2 r with ⟨n2, e2, t2, l2⟩ | ⟨e2, t2⟩ <;> simp [goR, fldR, RS0, RS.ok, RS.mv, tkN, tbN, e1, t1, e2, t2] <;> rfl
    · rcases r with _ | ⟨x2, r⟩ <;> simp [goR, fldR, RS0, RS.ok, RS.mv, tkN, tbN, e1, t1]
/-- what the reading of the draws comes to: at most so many words are read -/
theorem nums_take {ws : Wds} {l : List Nat} (h : numsV ws = some l) (n : Nat) : ∃ l', numsV (ws.take n) = some l' := by
  induction ws generalizing l n with
  | nil => exact ⟨[], by simp [numsV]⟩
  | cons w r ih =>
    cases n with
    | zero => exact ⟨[], rfl⟩
    | succ n =>
      unfold numsV at h
      split at h
      · rename_i a b h1 h2
        obtain ⟨l', hl⟩ := ih h2 n
        exact ⟨a :: l', by simp [numsV, h1, hl]⟩
      · cases h
theorem nums_len : ∀ {ws : Wds} {l : List Nat}, numsV ws = some l → l.length = ws.length
  | [], l, h => by cases h; rfl
  | w :: r, l, h => by
    unfold numsV at h
    split at h
    · rename_i a b h1 h2
      cases h
      simp [nums_len h2]
    · cases h
theorem nums_le : ∀ {ws : Wds} {l : List Nat}, numsV ws = some l → ∀ d ∈ l, d ≤ 18446744073709551615
  | [], l, h => by cases h; simp
  | w :: r, l, h => by
    unfold numsV at h
    split at h
    · rename_i a b h1 h2
      cases h
      intro d hd
      rcases List.mem_cons.1 hd with rfl | hd
      · exact numV_le h1
      · exact nums_le h2 d hd
    · cases h
theorem nums_snoc {ws : Wds} {l : List Nat} (h : numsV ws = some l) (w : List UInt8) : numsV (ws ++ [w]) = match numV w with | some n => some (l ++ [n]) | none => none := by
  induction ws generalizing l with
  | nil => cases h; simp [numsV]; cases numV w <;> rfl
  | cons x r ih =>
    unfold numsV at h
    split at h
    · rename_i a b h1 h2
      cases h
      have := ih h2
      simp only [List.cons_append, numsV, h1, this]
      cases numV w <;> rfl
    · cases h
theorem go_app : ∀ (f : List UInt8) (g : List UInt8) (ws : Wds) (S : RS), goR (f ++ g) ws S = match goR f ws S with | some S' => goR g (ws.drop f.length) S' | none => none
  | [], g, ws, S => by simp [goR]
  | c :: f, g, [], S => by simp [goR]
  | c :: f, g, w :: ws, S => by
    simp only [List.cons_append, goR, List.length_cons, List.drop_succ_cons]
    cases fldR c w S with
    | none => rfl
    | some S' => exact go_app f g ws S'
theorem fld_lo {c : UInt8} {w : List UInt8} {S S' : RS} (h : fldR c w S = some S') : (0 ≤ S.a ∨ S.a = -1) → (0 ≤ S.t ∨ S.t = -1) → (0 ≤ S.n ∨ S.n = -1) → S.a ≤ maxStake → S.t ≤ maxStake → S.n ≤ maxStake → (0 ≤ S'.a ∨ S'.a = -1) ∧ (0 ≤ S'.t ∨ S'.t = -1) ∧ (0 ≤ S'.n ∨ S'.n = -1) ∧ S'.a ≤ maxStake ∧ S'.t ≤ maxStake ∧ S'.n ≤ maxStake := by
  intro h1 h2 h3 h4 h5 h6
  have hs : (0 ≤ smallV w ∨ smallV w = -1) ∧ smallV w ≤ maxStake := by
    rcases small_cases w [] with ⟨n, e, _, l⟩ | ⟨e, _⟩
    · rw [e]; exact ⟨.inl (by omega), by omega⟩
    · rw [e]; exact ⟨.inr rfl, by unfold maxStake; omega⟩
  unfold fldR at h
  split at h
  · cases h; exact ⟨hs.1, h2, h3, hs.2, h5, h6⟩
  · split at h
    · cases h; exact ⟨h1, hs.1, h3, h4, hs.2, h6⟩
    · split at h
      · cases h; exact ⟨h1, h2, hs.1, h4, h5, hs.2⟩
      · split at h
        · cases h; exact ⟨h1, h2, h3, h4, h5, h6⟩
        · cases h
end Go.Proofs.YtpmmfabendnhiaaDoor
namespace Go.Proofs.YtpmmfabendnhiaaDoor
open Go.RowKit
open Go.Lib (strCells byteCells decDigits decDigits_one)
set_option linter.unusedVariables false
set_option linter.unusedSimpArgs false
set_option maxRecDepth 10000
set_option maxHeartbeats 12800000 in
theorem rcheck_any (k : Nat) (hk : k ≤ 11) (node to_ n : Int) (A B : Option Addr) (lb cb ld cd : Nat) (w : World) :
    callE Tryd.prog 57 #[.agg #[.int .i64 k, .int .i64 node, .int .i64 to_, .int .i64 n, .slice A lb cb, .slice B ld cd]] w fun v w' => v = .int .i64 (if checkB k node to_ n lb ld then 0 else 270) ∧ Below w.heap.size w w' := by
  rw [← check_R]
  have hem : (strOf (nameK k)).toList.isEmpty = decide (k = 0) := by
    rw [ByteArray.toList_eq]
    rcases (by omega : k = 0 ∨ k = 1 ∨ k = 2 ∨ k = 3 ∨ k = 4 ∨ k = 5 ∨ k = 6 ∨ k = 7 ∨ k = 8 ∨ k = 9 ∨ k = 10 ∨ k = 11) with rfl | rfl | rfl | rfl | rfl | rfl | rfl | rfl | rfl | rfl | rfl | rfl <;> rfl
  obtain ⟨hsl, q1, q2, q3, q4, q5⟩ := shape_has ⟨k, by omega⟩
  simp only at hsl q1 q2 q3 q4 q5
  have c1 := fun w K => (hasE (shapeK k) hsl 110 110 rfl w K).trans (by rw [q1])
  have c2 := fun w K => (hasE (shapeK k) hsl 116 116 rfl w K).trans (by rw [q2])
  have c3 := fun w K => (hasE (shapeK k) hsl 107 107 rfl w K).trans (by rw [q3])
  have c4 := fun w K => (hasE (shapeK k) hsl 98 98 rfl w K).trans (by rw [q4])
  have c5 := fun w K => (hasE (shapeK k) hsl 100 100 rfl w K).trans (by rw [q5])
  clear q1 q2 q3 q4 q5 hsl
  refine calls_E Tryd.func57 rfl rfl rfl (Nat.le_of_ble_eq_true rfl) ?_
  simp [go_sem, IntWalk.iteOmega, IntWalk.toNatUp]
  have k1 := ext_alloc w (.cells #[.int .i64 k, .int .i64 node, .int .i64 to_, .int .i64 n, .slice A lb cb, .slice B ld cd] 48)
  have hX : Blk (w.alloc (.cells #[.int .i64 k, .int .i64 node, .int .i64 to_, .int .i64 n, .slice A lb cb, .slice B ld cd] 48)) w.heap.size 48 #[.int .i64 k, .int .i64 node, .int .i64 to_, .int .i64 n, .slice A lb cb, .slice B ld cd] := Blk.self_ rfl
  generalize w.alloc (.cells #[.int .i64 k, .int .i64 node, .int .i64 to_, .int .i64 n, .slice A lb cb, .slice B ld cd] 48) = W at *
  have x := hX.cell
  simp [go_sem, IntWalk.iteOmega, IntWalk.toNatUp, x, shapeE k hk]
  have hd := hX.drew
  have x1 := hd.cell 1
  have x2 := hd.cell 2
  have x3 := hd.cell 3
  have x4 := hd.cell 4
  have x5 := hd.cell 5
  have hlt := hd.lt
  have kd := k1.drew
  have hlt2 : w.heap.size < W.heap.size := hX.lt
  have held := held_refl (fun _ => True) W.drew
  clear x hX k1
  refine W_flow (fun _ => True) (.pure 0 (.pure 1 (.pure 2 (.pure 3 (.pure 5 (.pure 6 (.one 4 (.one 7 (.pure 8 (.pure 9 (.pure 10 (.pure 11 (.pure 13 (.pure 14 (.one 12 (.one 15 (.pure 16 (.pure 17 (.pure 18 (.pure 19 (.pure 21 (.pure 22 (.one 20 (.one 23 (.pure 24 (.pure 25 (.pure 26 (.pure 27 (.pure 28 (.pure 29 (.pure 30 (.pure 31 (.pure 32 (.pure 33 (.one 34 (.pure 35 (.pure 36 (.pure 37 (.pure 38 (.pure 39 (.pure 40 (.pure 41 (.pure 42 (.pure 43 (.pure 44 (.pure 45 (.pure 46 (.pure 47 (.pure 48 (.pure 49 (.pure 50 (.one 51 (.pure 52 (.pure 53 (.pure 54 (.pure 55 (.pure 56 (.pure 57 (.pure 58 (.pure 59 (.done))))))))))))))))))))))))))))))))))))))))))))))))))))))))))))) follows (by kernel_rfl) ?_
  by_cases h0 : k = 0
  · rw [decide_eq_true h0] at hem
    have hc : checkR k node to_ n lb ld = false := by simp [checkR, h0]
    rw [hc]
    simp [go_sem, IntWalk.iteOmega, IntWalk.toNatUp, hem, hlt2, held]
    exact kd
  rw [decide_eq_false h0] at hem
  cases g1 : numB (hN k) node with
  | false =>
    have hc : checkR k node to_ n lb ld = false := by unfold checkR; rw [g1]; simp
    rw [hc]
    simp [go_sem, IntWalk.iteOmega, IntWalk.toNatUp, hem, x1, x2, x3, hlt, hlt2, held, c1, c2, c3, rnumE, g1]
    exact kd
  | true =>
  cases g2 : numB (hT k) to_ with
  | false =>
    have hc : checkR k node to_ n lb ld = false := by unfold checkR; rw [g2]; simp
    rw [hc]
    simp [go_sem, IntWalk.iteOmega, IntWalk.toNatUp, hem, g1, x1, x2, x3, hlt, hlt2, held, c1, c2, c3, rnumE, g2]
    exact kd
  | true =>
  cases g3 : numB (hK k) n with
  | false =>
    have hc : checkR k node to_ n lb ld = false := by unfold checkR; rw [g3]; simp
    rw [hc]
    simp [go_sem, IntWalk.iteOmega, IntWalk.toNatUp, hem, g1, g2, x1, x2, x3, hlt, hlt2, held, c1, c2, c3, rnumE, g3]
    exact kd
  | true =>
  by_cases l1 : lb ≤ 4009
  case neg =>
    have hc : checkR k node to_ n lb ld = false := by unfold checkR; rw [decide_eq_false l1]; simp
    have l1' : (4009 : Int) < lb := by omega
    rw [hc]
    simp [go_sem, IntWalk.iteOmega, IntWalk.toNatUp, hem, g1, g2, g3, x1, x2, x3, x4, hlt, hlt2, held, c1, c2, c3, rnumE, l1']
    exact kd
  have l1' : ¬ (4009 : Int) < lb := by omega
  have fin : ∀ {q : Bool}, (hB k || decide (lb = 0)) = true → checkR k node to_ n lb ld = (decide (ld ≤ 64) && (hD k || decide (ld = 0))) := by
    intro q h
    unfold checkR
    rw [decide_eq_true h0, g1, g2, g3, decide_eq_true l1, h]
    simp
  cases g4 : hB k with
  | true =>
    rw [g4] at c4
    by_cases l2 : ld ≤ 64
    case neg =>
      have hc : checkR k node to_ n lb ld = false := by unfold checkR; rw [decide_eq_false l2]; simp
      have l2' : (64 : Int) < ld := by omega
      rw [hc]
      simp [go_sem, IntWalk.iteOmega, IntWalk.toNatUp, hem, g1, g2, g3, x1, x2, x3, x4, x5, hlt, hlt2, held, c1, c2, c3, c4, rnumE, l1', l2']
      exact kd
    have l2' : ¬ (64 : Int) < ld := by omega
    cases g5 : hD k with
    | true =>
      have hc : checkR k node to_ n lb ld = true := by rw [fin (q := true) (by simp [g4]), g5]; simp [l2]
      rw [hc]
      rw [g5] at c5
      simp [go_sem, IntWalk.iteOmega, IntWalk.toNatUp, hem, g1, g2, g3, x1, x2, x3, x4, x5, hlt, hlt2, held, c1, c2, c3, c4, c5, rnumE, l1', l2']
      exact kd
    | false =>
      rw [g5] at c5
      by_cases z2 : ld = 0
      · have hc : checkR k node to_ n lb ld = true := by rw [fin (q := true) (by simp [g4]), g5]; simp [z2]
        rw [hc]
        have z2' : ¬ 0 < ld := by omega
        simp [go_sem, IntWalk.iteOmega, IntWalk.toNatUp, hem, g1, g2, g3, x1, x2, x3, x4, x5, hlt, hlt2, held, c1, c2, c3, c4, c5, rnumE, l1', l2', z2']
        exact kd
      · have hc : checkR k node to_ n lb ld = false := by unfold checkR; rw [g5, decide_eq_false z2]; simp
        rw [hc]
        have z2' : 0 < ld := by omega
        simp [go_sem, IntWalk.iteOmega, IntWalk.toNatUp, hem, g1, g2, g3, x1, x2, x3, x4, x5, hlt, hlt2, held, c1, c2, c3, c4, c5, rnumE, l1', l2', z2']
        exact kd
  | false =>
    rw [g4] at c4
    by_cases z1 : lb = 0
    case neg =>
      have hc : checkR k node to_ n lb ld = false := by unfold checkR; rw [g4, decide_eq_false z1]; simp
      have z1' : 0 < lb := by omega
      rw [hc]
      simp [go_sem, IntWalk.iteOmega, IntWalk.toNatUp, hem, g1, g2, g3, x1, x2, x3, x4, hlt, hlt2, held, c1, c2, c3, c4, rnumE, l1', z1']
      exact kd
    have z1' : ¬ 0 < lb := by omega
    by_cases l2 : ld ≤ 64
    case neg =>
      have hc : checkR k node to_ n lb ld = false := by unfold checkR; rw [decide_eq_false l2]; simp
      have l2' : (64 : Int) < ld := by omega
      rw [hc]
      simp [go_sem, IntWalk.iteOmega, IntWalk.toNatUp, hem, g1, g2, g3, z1', x1, x2, x3, x4, x5, hlt, hlt2, held, c1, c2, c3, c4, rnumE, l1', l2']
      exact kd
    have l2' : ¬ (64 : Int) < ld := by omega
    cases g5 : hD k with
    | true =>
      have hc : checkR k node to_ n lb ld = true := by rw [fin (q := true) (by simp [g4, z1]), g5]; simp [l2]
      rw [hc]
      rw [g5] at c5
      simp [go_sem, IntWalk.iteOmega, IntWalk.toNatUp, hem, g1, g2, g3, z1', x1, x2, x3, x4, x5, hlt, hlt2, held, c1, c2, c3, c4, c5, rnumE, l1', l2']
      exact kd
    | false =>
      rw [g5] at c5
      by_cases z2 : ld = 0
      · have hc : checkR k node to_ n lb ld = true := by rw [fin (q := true) (by simp [g4, z1]), g5]; simp [z2]
        rw [hc]
        have z2' : ¬ 0 < ld := by omega
        simp [go_sem, IntWalk.iteOmega, IntWalk.toNatUp, hem, g1, g2, g3, z1', x1, x2, x3, x4, x5, hlt, hlt2, held, c1, c2, c3, c4, c5, rnumE, l1', l2', z2']
        exact kd
      · have hc : checkR k node to_ n lb ld = false := by unfold checkR; rw [g5, decide_eq_false z2]; simp
        rw [hc]
        have z2' : 0 < ld := by omega
        simp [go_sem, IntWalk.iteOmega, IntWalk.toNatUp, hem, g1, g2, g3, z1', x1, x2, x3, x4, x5, hlt, hlt2, held, c1, c2, c3, c4, c5, rnumE, l1', l2', z2']
        exact kd
theorem noinit_rdigits : Tryd.prog.inits.idxOf? 58 = none := by kernel_rfl
theorem rdigits_runs (w : World) : ∀ n : Nat, n ≤ 18446744073709551615 → Runs Tryd.prog 58 #[.int .u64 n] w (.string (strOf (decDigits n))) w := by
  intro n
  induction n using Nat.strongRecOn with
  | _ n ih =>
    intro hn
    refine runs_of_callE ?_
    by_cases h : n < 10
    · have h' : (n : Int) < 10 := by omega
      refine calls_E Tryd.func58 rfl rfl rfl (Nat.le_of_ble_eq_true rfl) ?_
      rcases (by omega : n = 0 ∨ n = 1 ∨ n = 2 ∨ n = 3 ∨ n = 4 ∨ n = 5 ∨ n = 6 ∨ n = 7 ∨ n = 8 ∨ n = 9) with rfl | rfl | rfl | rfl | rfl | rfl | rfl | rfl | rfl | rfl
      all_goals
        simp [go_sem, IntWalk.iteOmega, IntWalk.toNatUp, h', IntWalk.u64_in]
        rw [decDigits_one (by omega)]
        rfl
    · have h' : ¬ (n : Int) < 10 := by omega
      obtain ⟨q, hq⟩ : ∃ q : Nat, (n : Int).tdiv 10 = q := ⟨n / 10, by rw [Int.tdiv_eq_ediv_of_nonneg (by omega)]; omega⟩
      obtain ⟨m, hm⟩ : ∃ m : Nat, (n : Int).tmod 10 = m := ⟨n % 10, by rw [Int.tmod_eq_emod_of_nonneg (by omega)]; omega⟩
      have hq2 : q = n / 10 := by rw [Int.tdiv_eq_ediv_of_nonneg (by omega)] at hq; omega
      have hm2 : m = n % 10 := by rw [Int.tmod_eq_emod_of_nonneg (by omega)] at hm; omega
      have f1 : IntKind.u64.wrap (q : Int) = q := IntWalk.u64_in _ (by omega)
      have f2 : IntKind.u64.wrap (m : Int) = m := IntWalk.u64_in _ (by omega)
      have r1 := fun k => callE_eq noinit_rdigits (ih q (by omega) (by omega)) k
      have r2 := fun k => callE_eq noinit_rdigits (ih m (by omega) (by omega)) k
      have e : decDigits n = decDigits q ++ decDigits m := by
        rw [show decDigits m = [UInt8.ofNat (48 + n % 10)] by rw [decDigits_one (by omega), hm2], hq2]
        conv => lhs; rw [decDigits, dif_neg h]
      rw [e]
      refine calls_E Tryd.func58 rfl rfl rfl (Nat.le_of_ble_eq_true rfl) ?_
      have l1 := Go.Lib.nDigits_le20 q (by omega)
      have l2 := Go.Lib.nDigits_le20 m (by omega)
      have hsz : ¬ 9223372036854775807 < (strOf (decDigits q)).size + (strOf (decDigits m)).size := by rw [strOf_size, strOf_size, Go.Lib.decDigits_length, Go.Lib.decDigits_length]; omega
      simp [go_sem, IntWalk.iteOmega, IntWalk.toNatUp, h', hq, hm, f1, f2, r1, r2, hsz, strOf_app]
theorem rdigitsE (n : Nat) (hn : n ≤ 18446744073709551615) (w : World) (K : Kont) : callE Tryd.prog 58 #[.int .u64 n] w K = K (.string (strOf (decDigits n))) w := callE_eq noinit_rdigits (rdigits_runs w n hn) K
end Go.Proofs.YtpmmfabendnhiaaDoor
