/-
  Texts joined: PRVdr, PRHead7.
-/
import Derived.Test.YtpmmfabendnhiaaDoorJoin22
namespace Go.Proofs.YtpmmfabendnhiaaDoor
open Go.RowKit
open Go.Lib (strCells byteCells decDigits)
set_option linter.unusedVariables false
set_option linter.unusedSimpArgs false
set_option maxRecDepth 10000
theorem held_keeps {N O : Nat → Prop} {W w w' : World} (h : heldE N W w) (hk : Keeps O w w') (hN : ∀ j, N j → O j) : heldE N W w' :=
  ⟨Nat.le_trans h.1 hk.size, fun g hg hl => (hk.block g (by have := h.1; omega) (hN g hg)).trans (h.2 g hg hl)⟩
theorem app_blk {w w' : World} {j B e size n : Nat} {t : TypeId} {v : Value} {xs : List Value} {cs : Array Value} (h : Blk w j t cs) (hrow : w.ownsRow B e size v n xs) (he : e ≠ t) (hg : w.grownBy w' v.ownBlock) : Blk w' j t cs :=
  (Keeps.grown (O := fun j => v.ownBlock ≠ some j) hg fun k e h => h e).blk h (row_ne hrow h he)
theorem app_vs {B P R G q : Nat} {W w wa : World} {S : PS} {ms : List Mv} {Av : Option Addr} {cv wt : Nat} {vb vf vm : Value} {nm : List UInt8} {gs : Array Value} (hP : Blk wa P 39 (planL S.c S.now (.slice Av S.vs.length cv) vb vf).toArray) (hR : Blk wa R 39 planZ.toArray) (hG : Blk wa G 9 gs)
    (hr : RowsAt B wa S ms (.slice Av S.vs.length cv) vb vf vm) (hN : Blk wa q 67 #[.string (strOf nm), .int .i64 (wt : Int)]) (hh : heldE (fun j => j = G) W wa) (hb : Below B w wa) (hB : B ≤ wa.heap.size) (hvl : S.vs.length < 32) {K : Kont}
    (hK : ∀ v' w', Blk w' P 39 (planL S.c S.now (.slice Av S.vs.length cv) vb vf).toArray → Blk w' R 39 planZ.toArray → RowsAt B w' { S with vs := S.vs ++ [(nm, wt)] } ms v' vb vf vm → heldE (fun j => j = G) W w' → Below B w w' → (∃ A c, v' = .slice A (S.vs.length + 1) c) → K v' w') :
    resE Tryd.prog (appendR Tryd.prog 35 35 35 (.slice Av S.vs.length cv) (.slice (some ⟨q, 0, none⟩) 1 1) wa) K := by
  refine appendE B 67 2 24 Tryd.underlying35 el67 (show wa.ownsRow B 67 2 (.slice Av S.vs.length cv) S.vs.length (vdrCells S.vs) from hr.vs) (m := 1) (news := [.string (strOf nm), .int .i64 (wt : Int)]) ⟨rfl, fun _ => ⟨_, 0, rfl, hN.lt, fun j u hu => by rw [hN.cell]; simpa using hu⟩⟩ rfl (by unfold maxLen; omega) (by omega) hB ?_
  intro v' w' own g _
  obtain ⟨-, A5, c5, e5⟩ := own_sl own
  have hk : Keeps (fun j => (Value.slice Av S.vs.length cv).ownBlock ≠ some j) wa w' := Keeps.grown g fun k e h => h e
  exact hK v' w' (app_blk hP hr.vs (by decide) g) (app_blk hR hr.vs (by decide) g) (hr.vdr _ _ g own) (held_keeps hh hk fun j hj => by subst hj; exact row_ne hr.vs hG (by decide)) (hb.grown g hB fun k hk => (hr.vs.lt k hk).1) ⟨A5, c5, e5⟩
def RVdrPost (B : Nat) (w : World) (S : PS) (ms : List Mv) (vv vb vf vm : Value) (l : List UInt8) (v : Value) (w' : World) : Prop :=
  (match vdrV l S with
    | some S' => ∃ vv' vb', v = .tuple #[.agg (planL S'.c S'.now vv' vb' vf).toArray, .bool true] ∧ RowsAt B w' S' ms vv' vb' vf vm
    | none => ∃ L : List Value, v = .tuple #[.agg L.toArray, .bool false] ∧ L.length = 32 ∧ allOne L = true ∧ RowsAt B w' S ms vv vb vf vm) ∧ Below B w w'
set_option maxHeartbeats 12800000 in
theorem rvdr_any {B : Nat} {S : PS} {ms : List Mv} {vv vb vf vm : Value} {w : World} (hr : RowsAt B w S ms vv vb vf vm) (hB : B ≤ w.heap.size) (l : List UInt8) (hl : l.length ≤ 20000) (hvl : S.vs.length ≤ 32) (hbl : S.byz.length ≤ 32) :
    callE Tryd.prog 16 #[.agg (planL S.c S.now vv vb vf).toArray, .string (strOf l)] w (RVdrPost B w S ms vv vb vf vm l) := by
  obtain ⟨P, hP⟩ : ∃ P, RVdrPost B w S ms vv vb vf vm l = P := ⟨_, rfl⟩
  rw [hP]
  obtain ⟨-, Av, cv, rfl⟩ := own_sl hr.vs
  obtain ⟨-, Ab, cb, rfl⟩ := own_sl hr.byz
  obtain ⟨-, Af, cf, rfl⟩ := own_sl hr.first
  have hsm := fun s (h : s ∈ wordsV l) => words_small h
  obtain ⟨x, ws, hws⟩ : ∃ x ws, wordsV l = x :: ws := by
    cases h : wordsV l with
    | nil => exact absurd h (go_ne l [])
    | cons x ws => exact ⟨x, ws, rfl⟩
  rw [hws] at hsm
  have hone : allOne (planL S.c S.now (.slice Av S.vs.length cv) (.slice Ab S.byz.length cb) (.slice Af S.first.length cf)) = true := planL_one rfl rfl rfl
  have hlen := planL_len S.c S.now (.slice Av S.vs.length cv) (.slice Ab S.byz.length cb) (.slice Af S.first.length cf)
  refine calls_E Tryd.func16 rfl rfl rfl (Nat.le_of_ble_eq_true rfl) ?_
  simp [go_sem, IntWalk.iteOmega, IntWalk.toNatUp]
  rw [planZ_lit]
  have hP0 : Blk ((w.alloc (.cells (planL S.c S.now (.slice Av S.vs.length cv) (.slice Ab S.byz.length cb) (.slice Af S.first.length cf)).toArray 39)).alloc (.cells planZ.toArray 39)) w.heap.size 39 (planL S.c S.now (.slice Av S.vs.length cv) (.slice Ab S.byz.length cb) (.slice Af S.first.length cf)).toArray := (Blk.self_ rfl).more _
  have hR0 : Blk ((w.alloc (.cells (planL S.c S.now (.slice Av S.vs.length cv) (.slice Ab S.byz.length cb) (.slice Af S.first.length cf)).toArray 39)).alloc (.cells planZ.toArray 39)) (w.heap.size + 1) 39 planZ.toArray := Blk.self_ (by simp)
  have k0 : Below w.heap.size w ((w.alloc (.cells (planL S.c S.now (.slice Av S.vs.length cv) (.slice Ab S.byz.length cb) (.slice Af S.first.length cf)).toArray 39)).alloc (.cells planZ.toArray 39)) := ext_trans (ext_alloc w _) (ext_alloc _ _)
  generalize (w.alloc (.cells (planL S.c S.now (.slice Av S.vs.length cv) (.slice Ab S.byz.length cb) (.slice Af S.first.length cf)).toArray 39)).alloc (.cells planZ.toArray 39) = w0 at *
  refine callE_of (rwords_any l (by omega) w0) ?_
  rintro v1 w1 ⟨o1, k1⟩
  rw [hws] at o1
  obtain ⟨⟨A, cp, e1, hrd, hA, hc1, hc2⟩, A', c', e2⟩ := own_sl o1
  subst e1
  clear e2
  obtain ⟨g, o, rfl, hg, hcell⟩ := hrd.cells (by simp)
  obtain ⟨gs, hG⟩ := row_blk o1 (j := g) rfl
  have hgs : ∀ j u, (strs (x :: ws))[j]? = some u → gs[o + j]? = some u := fun j u hu => by rw [← hG.cell]; exact hcell j u hu
  have hx0 := hcell 0 (.string (strOf x)) (by simp [strs])
  rw [Nat.add_zero] at hx0
  have hP1 := hP0.keep k1
  have hR1 := hR0.keep k1
  have kk1 := ext_trans k0 k1
  clear hP0 hR0 k0 k1 hA o1 hcell hrd
  have failP : ∀ w1, vdrV l S = none → Blk w1 w.heap.size 39 (planL S.c S.now (.slice Av S.vs.length cv) (.slice Ab S.byz.length cb) (.slice Af S.first.length cf)).toArray → Below w.heap.size w w1 → P (.tuple #[.agg (planL S.c S.now (.slice Av S.vs.length cv) (.slice Ab S.byz.length cb) (.slice Af S.first.length cf)).toArray, .bool false]) (w1.setRow (w.heap.size + 1) (planL S.c S.now (.slice Av S.vs.length cv) (.slice Ab S.byz.length cb) (.slice Af S.first.length cf)).toArray) := by
    intro w1 hn _ hb
    have hb' := below_setRow hb (g := w.heap.size + 1) (by omega) (planL S.c S.now (.slice Av S.vs.length cv) (.slice Ab S.byz.length cb) (.slice Af S.first.length cf)).toArray
    rw [← hP]
    refine ⟨?_, hb'.mono hB⟩
    rw [hn]
    exact ⟨_, rfl, hlen, hone, hr.below hb'⟩
  have fails : ∀ w2, Blk w2 w.heap.size 39 (planL S.c S.now (.slice Av S.vs.length cv) (.slice Ab S.byz.length cb) (.slice Af S.first.length cf)).toArray → Blk w2 (w.heap.size + 1) 39 planZ.toArray → readCells w2 ⟨w.heap.size, 0, none⟩ 0 32 = some (planL S.c S.now (.slice Av S.vs.length cv) (.slice Ab S.byz.length cb) (.slice Af S.first.length cf)) ∧ canWrite w2 ⟨w.heap.size + 1, 0, none⟩ 0 32 = true ∧ storeSeg w2 ⟨w.heap.size + 1, 0, none⟩ 0 (planL S.c S.now (.slice Av S.vs.length cv) (.slice Ab S.byz.length cb) (.slice Af S.first.length cf)) = w2.setRow (w.heap.size + 1) (planL S.c S.now (.slice Av S.vs.length cv) (.slice Ab S.byz.length cb) (.slice Af S.first.length cf)).toArray ∧ readCells (w2.setRow (w.heap.size + 1) (planL S.c S.now (.slice Av S.vs.length cv) (.slice Ab S.byz.length cb) (.slice Af S.first.length cf)).toArray) ⟨w.heap.size + 1, 0, none⟩ 0 32 = some (planL S.c S.now (.slice Av S.vs.length cv) (.slice Ab S.byz.length cb) (.slice Af S.first.length cf)) := fun w2 a b =>
    ⟨readCells_all a 32 rfl, canWrite_all b 32 rfl, storeSeg_all b _ rfl, readCells_all (Blk_setRow b) 32 rfl⟩
  by_cases hw3 : ws.length = 2
  case neg =>
    have hnone : vdrV l S = none := by
      unfold vdrV
      rw [hws]
      match ws, hw3 with
      | [], _ => rfl
      | [a], _ => rfl
      | [a, b], h => exact absurd rfl h
      | _ :: _ :: _ :: _, _ => rfl
    have hb2 : (((ws.length : Int) + 1) != 3) = true := by simp; omega
    obtain ⟨f1, f2, f3, f4⟩ := fails w1 hP1 hR1
    have fp := failP w1 hnone hP1 kk1
    simp [go_sem, IntWalk.iteOmega, IntWalk.toNatUp, hb2, f1, f2, f3, f4, hone, hlen]
    exact fp
  obtain ⟨nm, y, rfl⟩ : ∃ nm y, ws = [nm, y] := by
    match ws, hw3 with
    | [a, b], _ => exact ⟨a, b, rfl⟩
  have hvd : vdrV l S = if (x = vdrS ∨ x = byzS) ∧ nameE (strOf nm) = 0 ∧ (numT [y]).isSome = true ∧ S.vs.length < 32 then some { S with vs := S.vs ++ [(nm, (numT [y]).getD 0)], byz := if x = byzS then S.byz ++ [S.vs.length] else S.byz } else none := by
    unfold vdrV
    rw [hws]
  have hnl : nm.length ≤ 20000 := by have := hsm nm (by simp); omega
  have hyl : y.length ≤ 50000 := by have := hsm y (by simp); omega
  have g1 := hgs 1 (.string (strOf nm)) (by simp [strs])
  have g2 := hgs 2 (.string (strOf y)) (by simp [strs])
  have g0 := hgs 0 (.string (strOf x)) (by simp [strs])
  rw [Nat.add_zero] at g0
  have cvd : (⟨#[118, 100, 114]⟩ : ByteArray) = strOf vdrS := rfl
  have cby : (⟨#[98, 121, 122]⟩ : ByteArray) = strOf byzS := rfl
  have hn1 := hG.cell (o + 1)
  rw [g1] at hn1
  have hGl := hG.lt
  clear hgs hsm hws
  by_cases hx : x = vdrS ∨ x = byzS
  case neg =>
    have hb1 : ((strOf x).toList == (strOf vdrS).toList) = false := beq_eq_false_iff_ne.2 fun e => hx (.inl (str_ext.1 e))
    have hb2 : ((strOf x).toList == (strOf byzS).toList) = false := beq_eq_false_iff_ne.2 fun e => hx (.inr (str_ext.1 e))
    have hnone : vdrV l S = none := by rw [hvd, if_neg (fun h => hx h.1)]
    obtain ⟨f1, f2, f3, f4⟩ := fails w1 hP1 hR1
    have fp := failP w1 hnone hP1 kk1
    simp [go_sem, IntWalk.iteOmega, IntWalk.toNatUp, cvd, cby, hx0, hb1, hb2, f1, f2, f3, f4, hone, hlen]
    exact fp
  have hnmc := rname_any (strOf nm) (by rw [strOf_size]; omega) w1
  have hvx : (((strOf x).toList == (strOf vdrS).toList) = true ∧ ((strOf x).toList == (strOf byzS).toList) = false) ∨ (((strOf x).toList == (strOf vdrS).toList) = false ∧ ((strOf x).toList == (strOf byzS).toList) = true) := by
    by_cases h : x = vdrS
    · exact .inl ⟨by rw [h]; simp, by rw [h]; exact beq_eq_false_iff_ne.2 fun e => absurd (str_ext.1 e) (by decide)⟩
    · refine .inr ⟨beq_eq_false_iff_ne.2 fun e => h (str_ext.1 e), ?_⟩
      rw [hx.resolve_left h]; simp
  have hvd : vdrV l S = if nameE (strOf nm) = 0 ∧ (numT [y]).isSome = true ∧ S.vs.length < 32 then some { S with vs := S.vs ++ [(nm, (numT [y]).getD 0)], byz := if ((strOf x).toList == (strOf byzS).toList) = true then S.byz ++ [S.vs.length] else S.byz } else none := by
    rw [hvd]
    have hbe : (x = byzS) ↔ ((strOf x).toList == (strOf byzS).toList) = true := by rw [beq_iff_eq]; exact str_ext.symm
    by_cases h : nameE (strOf nm) = 0 ∧ (numT [y]).isSome = true ∧ S.vs.length < 32
    · rw [if_pos h, if_pos ⟨hx, h⟩]
      by_cases hb : x = byzS
      · rw [if_pos hb, if_pos (hbe.1 hb)]
      · rw [if_neg hb, if_neg (fun h => hb (hbe.2 h))]
    · rw [if_neg h, if_neg (fun h' => h h'.2)]
  generalize hE : nameE (strOf nm) = e at *
  have hsv := small_val y
  generalize hbz : (if ((strOf x).toList == (strOf byzS).toList) = true then S.byz ++ [S.vs.length] else S.byz) = bz at *
  rcases hvx with ⟨hb1, hb2⟩ | ⟨hb1, hb2⟩
  all_goals
    simp [go_sem, IntWalk.iteOmega, IntWalk.toNatUp, cvd, cby, hx0, hb1, hb2, hn1, hGl]
    refine callE_of hnmc ?_
    rintro _ w2 ⟨rfl, k2⟩
    have hP2 := hP1.keep k2
    have hR2 := hR1.keep k2
    have hG2 := hG.keep k2
    have kk2 : Below w.heap.size w w2 := kk1.trans (k2.mono kk1.size)
    clear hP1 hR1 hG kk1 k2 hx0 hn1 hGl hnmc
    have c2 := hG2.cell (o + 2)
    rw [g2] at c2
    have c0 := hG2.cell o
    rw [g0] at c0
    have hGl := hG2.lt
    by_cases he : e = 0
    case neg =>
      have hb3 : (e != 0) = true := by simp [he]
      have hnone : vdrV l S = none := by rw [hvd, if_neg (fun h => he h.1)]
      obtain ⟨f1, f2, f3, f4⟩ := fails w2 hP2 hR2
      have fp := failP w2 hnone hP2 kk2
      simp [go_sem, IntWalk.iteOmega, IntWalk.toNatUp, hb3, f1, f2, f3, f4, hone, hlen]
      exact fp
    subst he
    simp [go_sem, IntWalk.iteOmega, IntWalk.toNatUp, c2, hGl]
    refine callE_of (small_any y hyl w2) ?_
    rintro _ w3 ⟨rfl, k3⟩
    have hP3 := hP2.keep k3
    have hR3 := hR2.keep k3
    have hG3 := hG2.keep k3
    have kk3 : Below w.heap.size w w3 := kk2.trans (k3.mono kk2.size)
    clear hP2 hR2 hG2 kk2 k3 c2 c0 hGl
    have c0 := hG3.cell o
    rw [g0] at c0
    have hGl := hG3.lt
    have p28 := hP3.cell 28
    have p29 := hP3.cell 29
    rw [pl_28] at p28
    rw [pl_29] at p29
    obtain ⟨f1, f2, f3, f4⟩ := fails w3 hP3 hR3
    have fp := fun h => failP w3 h hP3 kk3
    rcases hsv with ⟨q1, q2⟩ | ⟨q1, q2⟩
    case inr =>
      have hnone : vdrV l S = none := by rw [hvd, if_neg (fun h => by rw [q1] at h; exact absurd h.2.1 (by simp))]
      have fp := fp hnone
      rw [q2]
      simp [go_sem, IntWalk.iteOmega, IntWalk.toNatUp, f1, f2, f3, f4, hone, hlen]
      exact fp
    rw [q2]
    generalize hwt : (numT [y]).getD 0 = wt at *
    have hneg : ¬ (wt : Int) < 0 := by omega
    by_cases h32 : S.vs.length < 32
    case neg =>
      have hnone : vdrV l S = none := by rw [hvd, if_neg (fun h => h32 h.2.2)]
      have fp := fp hnone
      have h32' : (32 : Int) ≤ S.vs.length := by omega
      simp [go_sem, IntWalk.iteOmega, IntWalk.toNatUp, hneg, p28, h32', f1, f2, f3, f4, hone, hlen]
      exact fp
    have h32' : ¬ (32 : Int) ≤ S.vs.length := by omega
    have hok : vdrV l S = some { S with vs := S.vs ++ [(nm, wt)], byz := bz } := by rw [hvd, if_pos ⟨rfl, q1, h32⟩]
    have hr3 := hr.below kk3
    have kB3 : Below B w w3 := kk3.mono hB
    clear f1 f2 f3 f4 fp fails failP hvd kk3
    clear hb1 hb2
    simp [go_sem, IntWalk.iteOmega, IntWalk.toNatUp, hneg, p28, h32', c0, cby, hGl]
    refine condC_cut (fun s w8 => s 2 = .pointer (some ⟨w.heap.size, 0, none⟩) ∧ s 4 = .pointer (some ⟨w.heap.size + 1, 0, none⟩) ∧ s 6 = .slice (some ⟨g, o, none⟩) 3 cp ∧ ∃ vb', vb'.oneCell' = true ∧ Blk w8 w.heap.size 39 (planL S.c S.now (.slice Av S.vs.length cv) vb' (.slice Af S.first.length cf)).toArray ∧ Blk w8 (w.heap.size + 1) 39 planZ.toArray ∧ Blk w8 g 9 gs ∧ RowsAt B w8 { S with byz := bz } ms (.slice Av S.vs.length cv) vb' (.slice Af S.first.length cf) vm ∧ Below B w w8) ?_ ?_
    · cases hq : ((strOf x).toList == (strOf byzS).toList) with
      | false =>
        rw [hq] at hbz
        simp only [Bool.false_eq_true, if_false] at hbz
        subst hbz
        simp [go_sem, IntWalk.iteOmega, IntWalk.toNatUp]
        exact atCut.mk ⟨by simp [go_sem], by simp [go_sem], by simp [go_sem], _, rfl, hP3, hR3, hG3, hr3, kB3⟩
      | true =>
        rw [hq] at hbz
        simp only [if_true] at hbz
        subst hbz
        have hPl := hP3.lt
        have hPf := hP3.frozen
        simp [go_sem, IntWalk.iteOmega, IntWalk.toNatUp, p28, p29, hPl, hPf]
        have hPa := hP3.more (.cells #[.int .i64 (S.vs.length : Int)] 3)
        have hRa := hR3.more (.cells #[.int .i64 (S.vs.length : Int)] 3)
        have hGa := hG3.more (.cells #[.int .i64 (S.vs.length : Int)] 3)
        have hra := hr3.below (ext_alloc w3 (.cells #[.int .i64 (S.vs.length : Int)] 3))
        have hN : Blk (w3.alloc (.cells #[.int .i64 (S.vs.length : Int)] 3)) w3.heap.size 3 #[.int .i64 (S.vs.length : Int)] := Blk.self_ rfl
        have hba : Below B w (w3.alloc (.cells #[.int .i64 (S.vs.length : Int)] 3)) := kB3.alloc (Nat.le_trans hB kB3.size) _
        generalize w3.alloc (.cells #[.int .i64 (S.vs.length : Int)] 3) = wa at *
        refine appendE B 3 1 8 Tryd.underlying36 el3 hra.byz (m := 1) (news := [.int .i64 (S.vs.length : Int)]) ⟨rfl, fun _ => ⟨_, 0, rfl, hN.lt, fun j u hu => by rw [hN.cell]; simpa using hu⟩⟩ rfl (by unfold maxLen; omega) (by omega) (by have := hba.size; omega) ?_
        intro v' w' own gr _
        obtain ⟨-, A5, c5, rfl⟩ := own_sl own
        have q1 := app_blk hPa hra.byz (by decide) gr
        have q2 := app_blk hRa hra.byz (by decide) gr
        have q3 := app_blk hGa hra.byz (by decide) gr
        have q4 := hra.bz _ gr own
        have q5 := hba.grown gr (by have := hba.size; omega) fun k hk => (hra.byz.lt k hk).1
        have q1s := Blk_set (o := 29) (v := .slice A5 (S.byz.length + 1) c5) q1
        rw [pl_set29] at q1s
        have q1f := q1.frozen
        have q1l := q1.lt
        have q1c := q1.cell 29
        rw [pl_29] at q1c
        simp [go_sem, IntWalk.iteOmega, IntWalk.toNatUp, q1f, q1l, q1c]
        exact atCut.mk ⟨by simp [go_sem], by simp [go_sem], by simp [go_sem], _, rfl, q1s, q2.farCell (by omega) _, q3.farCell (fun e => by subst e; exact absurd (Blk_ty q1 q3) (by decide)) _, q4.far q1 rowT_plan (Keeps.setCell w' ⟨w.heap.size, 29, none⟩ _ (fun h => h rfl)), q5.setCell hB _⟩
    · clear c0 p28 p29 hr3 kB3 hP3 hR3 hG3 hGl
      rintro s w8 ⟨e2, e4, e6, vb', hvb, hP8, hR8, hG8, hr8, kB8⟩
      clear hbz
      obtain ⟨SB, hSB⟩ : ∃ SB : PS, SB = { S with byz := bz } := ⟨_, rfl⟩
      have hvls : S.vs = SB.vs := by rw [hSB]
      have hfin : P = RVdrPost B w S ms (.slice Av S.vs.length cv) (.slice Ab S.byz.length cb) (.slice Af S.first.length cf) vm l := hP.symm
      have hP8d := hP8.drew
      have hR8d := hR8.drew
      have hG8d := hG8.drew
      have hr8d := hr8.below (ext_drew w8)
      have kB8d := kB8.drew
      have d28 := hP8d.cell 28
      rw [pl_28] at d28
      have hlt := hP8d.lt
      have c1 := hG8d.cell (o + 1)
      rw [g1] at c1
      have c2 := hG8d.cell (o + 2)
      rw [g2] at c2
      have hGl := hG8d.lt
      simp [go_sem, IntWalk.iteOmega, IntWalk.toNatUp, e2, e4, e6]
      refine W_flow (fun j => j = g) (.pure 0 (.pure 2 (.pure 3 (.pure 4 (.pure 5 (.pure 6 (.pure 7 (.two 1 (.one 8 (.pure 9 (.one 10 (.one 11 (.pure 12 (.one 13 (.done))))))) 8 (.pure 9 (.two 1 (.one 10 (.one 11 (.pure 12 (.one 13 (.done))))) 10 (.one 1 (.one 11 (.pure 12 (.one 13 (.done))))))))))))))) follows (by kernel_rfl) ?_
      generalize w8.drew = wd at *
      clear hP8 hR8 hG8 hr8 kB8
      have h0 := held_refl (fun j => j = g) wd
      simp [go_sem, IntWalk.iteOmega, IntWalk.toNatUp, e2, e4, e6, d28, c1, c2, hlt, hGl]
      have hsm := small_any y hyl wd
      rw [q2] at hsm
      have hne : ¬ (w.heap.size = g) := fun e => by subst e; exact absurd (Blk_ty hP8d hG8d) (by decide)
      refine ⟨⟨h0, callE_of hsm ?_⟩, callE_of hsm ?_⟩
      all_goals
        clear hsm
        rintro _ w9 ⟨rfl, k9⟩
        have h9 := h0.below k9
        have hP9 := hP8d.keep k9
        have hR9 := hR8d.keep k9
        have hG9 := hG8d.keep k9
        have hr9 := hr8d.below k9
        have kB9 := kB8d.trans (k9.mono (Nat.le_trans hB kB8d.size))
        have a9 := ext_alloc w9 (.cells #[.string (strOf nm), .int .i64 (wt : Int)] 67)
        have hPa := hP9.keep a9
        have hRa := hR9.keep a9
        have hGa := hG9.keep a9
        have hra := hr9.below a9
        have hN : Blk (w9.alloc (.cells #[.string (strOf nm), .int .i64 (wt : Int)] 67)) w9.heap.size 67 #[.string (strOf nm), .int .i64 (wt : Int)] := Blk.self_ rfl
        have hba : Below B w (w9.alloc (.cells #[.string (strOf nm), .int .i64 (wt : Int)] 67)) := kB9.alloc (Nat.le_trans hB kB9.size) _
        have hha := h9.alloc (.cells #[.string (strOf nm), .int .i64 (wt : Int)] 67)
        have d9 := hP9.cell 28
        rw [pl_28] at d9
        have da := hPa.cell 28
        rw [pl_28] at da
        have lt9 := hP9.lt
        have lta := hPa.lt
        clear k9 h0 hP8d hR8d hG8d hr8d kB8d d28 hlt c1 c2 hGl hG9 hR9 hP9 hr9 kB9 a9
        simp [go_sem, IntWalk.iteOmega, IntWalk.toNatUp, h9, hha, d9, da, lt9, lta, e2, e4, e6]
        have app := fun K hK => app_vs (S := { S with byz := bz }) (W := wd) hPa hRa hGa hra hN hha hba (by have := hba.size; omega) h32 (K := K) hK
        clear h9 hha d9 da lt9 lta hPa hRa hGa hra hN hba
        first
          | refine app _ ?_
          | refine ⟨app _ ?_, app _ ?_⟩
        all_goals
          intro v' w' r1 r2 r3 r4 r5 ⟨A5, c5, e5⟩
          subst e5
          have r1c := r1.cell 28
          rw [pl_28] at r1c
          have r1f := r1.frozen
          have r1l := r1.lt
          have r1s := Blk_set (o := 28) (v := .slice A5 (S.vs.length + 1) c5) r1
          rw [pl_set28] at r1s
          have r2s := r2.farCell (b := w.heap.size) (o := 28) (by omega) (.slice A5 (S.vs.length + 1) c5)
          have r4s := r4.set (o := 28) (.slice A5 (S.vs.length + 1) c5) hne
          have hone2 : allOne (planL S.c S.now (.slice A5 (S.vs.length + 1) c5) vb' (.slice Af S.first.length cf)) = true := planL_one rfl hvb rfl
          have hlen2 := planL_len S.c S.now (.slice A5 (S.vs.length + 1) c5) vb' (.slice Af S.first.length cf)
          have rc := readCells_all r1s 32 rfl
          have cw := canWrite_all r2s 32 rfl
          have ss := storeSeg_all r2s (planL S.c S.now (.slice A5 (S.vs.length + 1) c5) vb' (.slice Af S.first.length cf)) rfl
          have rf := readCells_all (Blk_setRow r2s (cs' := (planL S.c S.now (.slice A5 (S.vs.length + 1) c5) vb' (.slice Af S.first.length cf)).toArray)) 32 rfl
          have r3s := (r3.far r1 rowT_plan (Keeps.setCell w' ⟨w.heap.size, 28, none⟩ (.slice A5 (S.vs.length + 1) c5) (fun h => h rfl))).far r2s rowT_plan (Keeps.setRow _ (w.heap.size + 1) (planL S.c S.now (.slice A5 (S.vs.length + 1) c5) vb' (.slice Af S.first.length cf)).toArray (fun h => h rfl))
          have r5s := below_setRow (r5.setCell (p := ⟨w.heap.size, 28, none⟩) hB (.slice A5 (S.vs.length + 1) c5)) (g := w.heap.size + 1) (by omega) (planL S.c S.now (.slice A5 (S.vs.length + 1) c5) vb' (.slice Af S.first.length cf)).toArray
          clear r1 r2 r3 r5 r1s r2s
          simp [go_sem, IntWalk.iteOmega, IntWalk.toNatUp, r1c, r1f, r1l, r4, r4s, rc, cw, ss, rf, hone2, hlen2, e2, e4, e6]
          rw [← hP]
          refine ⟨?_, r5s⟩
          rw [hok]
          exact ⟨_, _, rfl, r3s⟩
end Go.Proofs.YtpmmfabendnhiaaDoor
namespace Go.Proofs.YtpmmfabendnhiaaDoor
open Go.RowKit
open Go.Lib (strCells byteCells decDigits)
set_option linter.unusedVariables false
set_option linter.unusedSimpArgs false
set_option maxRecDepth 10000
set_option maxHeartbeats 12800000 in
theorem rhead7 (S : PS) {vv vb vf : Value} (h1 : vv.oneCell' = true) (h2 : vb.oneCell' = true) (h3 : vf.oneCell' = true) (l : List UInt8) (hl : l.length ≤ 20000) (w : World) :
    callE Tryd.prog 15 #[.agg (planL S.c S.now vv vb vf).toArray, .int .i64 6, .string (strOf l)] w (RHeadPost w S vv vb vf 7 l) := by
  obtain ⟨P, hP⟩ : ∃ P, RHeadPost w S vv vb vf 7 l = P := ⟨_, rfl⟩
  rw [hP]
  have hsm := fun s (h : s ∈ wordsV l) => words_small h
  have hwl := words_len l
  obtain ⟨x, ws, hws⟩ : ∃ x ws, wordsV l = x :: ws := by
    cases h : wordsV l with
    | nil => exact absurd h (go_ne l [])
    | cons x ws => exact ⟨x, ws, rfl⟩
  rw [hws] at hsm hwl
  simp only [List.length_cons] at hwl
  have hone : allOne (planL S.c S.now vv vb vf) = true := planL_one h1 h2 h3
  have hlen := planL_len S.c S.now vv vb vf
  refine calls_E Tryd.func15 rfl rfl rfl (Nat.le_of_ble_eq_true rfl) ?_
  simp [go_sem, IntWalk.iteOmega, IntWalk.toNatUp]
  rw [planZ_lit]
  have hP0 : Blk ((w.alloc (.cells (planL S.c S.now vv vb vf).toArray 39)).alloc (.cells planZ.toArray 39)) w.heap.size 39 (planL S.c S.now vv vb vf).toArray := (Blk.self_ rfl).more _
  have hR0 : Blk ((w.alloc (.cells (planL S.c S.now vv vb vf).toArray 39)).alloc (.cells planZ.toArray 39)) (w.heap.size + 1) 39 planZ.toArray := Blk.self_ (by simp)
  have k0 : Below w.heap.size w ((w.alloc (.cells (planL S.c S.now vv vb vf).toArray 39)).alloc (.cells planZ.toArray 39)) := ext_trans (ext_alloc w _) (ext_alloc _ _)
  generalize (w.alloc (.cells (planL S.c S.now vv vb vf).toArray 39)).alloc (.cells planZ.toArray 39) = w0 at *
  refine callE_of (rwords_any l (by omega) w0) ?_
  rintro v1 w1 ⟨o1, k1⟩
  rw [hws] at o1
  obtain ⟨⟨A, cp, e1, hrd, hA, hc1, hc2⟩, A', c', e2⟩ := own_sl o1
  subst e1
  clear e2
  obtain ⟨g, o, rfl, hg, hcell⟩ := hrd.cells (by simp)
  have hx0 := hcell 0 (.string (strOf x)) (by simp [strs])
  rw [Nat.add_zero] at hx0
  have hP1 := hP0.keep k1
  have hR1 := hR0.keep k1
  have kk1 := ext_trans k0 k1
  clear hP0 hR0 k0 k1 hA o1
  have failP : ∀ w', Below w.heap.size w w' → headV 7 l S = none → P (.tuple #[.agg (planL S.c S.now vv vb vf).toArray, .bool false]) w' := by
    intro w' hb hn
    rw [← hP]
    refine ⟨?_, hb⟩
    rw [hn]
    exact ⟨_, rfl, hlen, hone⟩
  have hgl : (0 : Int) < (ws.length : Int) + 1 := by omega
  have cfi : (⟨#[102, 105, 114, 115, 116]⟩ : ByteArray) = strOf (hname 7) := rfl
  have hPd := hP1.drew
  have hRd := hR1.drew
  have rc := readCells_all hPd 32 rfl
  have cw := canWrite_all hRd 32 rfl
  have ss := storeSeg_all hRd (planL S.c S.now vv vb vf) rfl
  have rf := readCells_all (Blk_setRow hRd (cs' := (planL S.c S.now vv vb vf).toArray)) 32 rfl
  have bl := below_setRow kk1.drew (g := w.heap.size + 1) (by omega) (planL S.c S.now vv vb vf).toArray
  by_cases hw2 : ws.length = 1
  case neg =>
    have hnone : headV 7 l S = none := by
      unfold headV
      rw [hws]
      simp only
      split
      · rw [if_neg (by omega), if_pos trivial]
        match ws, hw2 with
        | [], _ => rfl
        | [a], h => exact absurd rfl h
        | _ :: _ :: _, _ => rfl
      · rfl
    have fp := failP _ bl hnone
    have hb2 : (((ws.length : Int) + 1) == 2) = false := by simp; omega
    simp [go_sem, IntWalk.iteOmega, IntWalk.toNatUp, hb2]
    refine W_flow (fun _ => True) (.pure 0 (.pure 1 (.pure 2 (.pure 3 (.pure 4 (.pure 5 (.pure 7 (.one 6 (.pure 8 (.one 9 (.pure 10 (.pure 11 (.pure 12 (.pure 13 (.pure 14 (.pure 15 (.pure 17 (.one 16 (.pure 18 (.one 19 (.pure 20 (.pure 21 (.pure 22 (.pure 23 (.pure 24 (.done)))))))))))))))))))))))))) follows (by kernel_rfl) ?_
    simp [go_sem, IntWalk.iteOmega, IntWalk.toNatUp, rc, cw, ss, rf, hone, hlen]
    exact fp
  obtain ⟨y, rfl⟩ : ∃ y, ws = [y] := by
    match ws, hw2 with
    | [y], _ => exact ⟨y, rfl⟩
  have hy0 := hcell 1 (.string (strOf y)) (by simp [strs])
  have hyl : y.length ≤ 50000 := by have := hsm y (by simp); omega
  by_cases hx : x = hname 7
  case neg =>
    have hnone : headV 7 l S = none := by
      unfold headV
      rw [hws]
      simp only
      rw [if_neg hx]
    have fp := failP _ bl hnone
    have hb1 : ((strOf x).toList == (strOf (hname 7)).toList) = false := beq_eq_false_iff_ne.2 fun e => hx (str_ext.1 e)
    simp [go_sem, IntWalk.iteOmega, IntWalk.toNatUp, cfi, hx0, hb1]
    refine W_flow (fun _ => True) (.pure 0 (.pure 1 (.pure 2 (.pure 3 (.pure 4 (.pure 5 (.pure 7 (.one 6 (.pure 8 (.one 9 (.pure 10 (.pure 11 (.pure 12 (.pure 13 (.pure 14 (.pure 15 (.pure 17 (.one 16 (.pure 18 (.one 19 (.pure 20 (.pure 21 (.pure 22 (.pure 23 (.pure 24 (.done)))))))))))))))))))))))))) follows (by kernel_rfl) ?_
    simp [go_sem, IntWalk.iteOmega, IntWalk.toNatUp, rc, cw, ss, rf, hone, hlen]
    exact fp
  have hb1 : ((strOf x).toList == (strOf (hname 7)).toList) = true := by rw [hx]; simp
  clear rc cw ss rf bl hPd hRd
  simp [go_sem, IntWalk.iteOmega, IntWalk.toNatUp, cfi, hx0, hb1, hy0]
  refine callE_of (rbytes_any y hyl w1) ?_
  rintro _ w2 ⟨⟨u, rfl, hu⟩, k2⟩
  obtain ⟨-, Au, cu, rfl⟩ := own_sl hu
  have hP2 := hP1.keep k2
  have hR2 := hR1.keep k2
  have kk2 : Below w.heap.size w w2 := kk1.trans (k2.mono kk1.size)
  have c30 := hP2.cell 30
  rw [pl_30] at c30
  have hf := hP2.frozen
  have hPs := Blk_set (o := 30) (v := .slice Au (bytesL y).length cu) hP2
  rw [pl_set30] at hPs
  have hRs := hR2.farCell (b := w.heap.size) (o := 30) (by omega) (.slice Au (bytesL y).length cu)
  have kks : Below w.heap.size w (w2.setCell ⟨w.heap.size, 30, none⟩ (.slice Au (bytesL y).length cu)) := kk2.setCell (Nat.le_refl _) _
  have rc := readCells_all hPs 32 rfl
  have cw := canWrite_all hRs 32 rfl
  have ss := storeSeg_all hRs (planL S.c S.now vv vb (.slice Au (bytesL y).length cu)) rfl
  have rf := readCells_all (Blk_setRow hRs (cs' := (planL S.c S.now vv vb (.slice Au (bytesL y).length cu)).toArray)) 32 rfl
  have bl := below_setRow kks (g := w.heap.size + 1) (by omega) (planL S.c S.now vv vb (.slice Au (bytesL y).length cu)).toArray
  have hone2 : allOne (planL S.c S.now vv vb (.slice Au (bytesL y).length cu)) = true := planL_one h1 h2 rfl
  have hlen2 := planL_len S.c S.now vv vb (.slice Au (bytesL y).length cu)
  have hhd : headV 7 l S = match bytesV y with
      | some b => if b.length ≤ 200 then some { S with first := b } else none
      | none => none := by
    unfold headV
    rw [hws]
    simp only
    rw [if_pos hx, if_neg (by omega), if_pos trivial]
    cases bytesV y <;> rfl
  have hrow : (((w2.setCell ⟨w.heap.size, 30, none⟩ (.slice Au (bytesL y).length cu))).setRow (w.heap.size + 1) (planL S.c S.now vv vb (.slice Au (bytesL y).length cu)).toArray).ownsRow w.heap.size 5 1 (.slice Au (bytesL y).length cu) (bytesL y).length (byteCells (bytesL y)) := by
    have q1 := row_keeps hu (Keeps.setCell w2 ⟨w.heap.size, 30, none⟩ (.slice Au (bytesL y).length cu) (O := fun j => j ≠ w.heap.size) (fun h => h rfl)) fun j hj e => row_ne hu hP2 (by decide) (by rw [hj, e])
    exact row_low (row_keeps q1 (Keeps.setRow _ (w.heap.size + 1) _ (O := fun j => j ≠ w.heap.size + 1) (fun h => h rfl)) fun j hj e => row_ne q1 hRs (by decide) (by rw [hj, e])) kk1.size
  cases hq : bytesV y with
  | none =>
    have hE : bytesE y = 8 := by unfold bytesE; rw [hq]; rfl
    rw [hq] at hhd
    simp [go_sem, IntWalk.iteOmega, IntWalk.toNatUp, hE, c30, hf, rc, cw, ss, rf, hone2, hlen2]
    rw [← hP]
    refine ⟨?_, bl⟩
    rw [hhd]
    exact ⟨_, rfl, hlen2, hone2⟩
  | some bb =>
    have hE : bytesE y = 0 := by unfold bytesE; rw [hq]; rfl
    have hL : bytesL y = bb := by unfold bytesL; rw [hq]; rfl
    rw [hq] at hhd
    simp only at hhd
    simp only [hL] at *
    by_cases h200 : bb.length ≤ 200
    · have h200' : (bb.length : Int) ≤ 200 := by omega
      rw [if_pos h200] at hhd
      simp [go_sem, IntWalk.iteOmega, IntWalk.toNatUp, hE, c30, hf, rc, cw, ss, rf, hone2, hlen2, h200, h200']
      rw [← hP]
      refine ⟨?_, bl⟩
      rw [hhd]
      exact ⟨_, rfl, rfl, .inr hrow⟩
    · have h200' : ¬ (bb.length : Int) ≤ 200 := by omega
      rw [if_neg h200] at hhd
      simp [go_sem, IntWalk.iteOmega, IntWalk.toNatUp, hE, c30, hf, rc, cw, ss, rf, hone2, hlen2, h200, h200']
      rw [← hP]
      refine ⟨?_, bl⟩
      rw [hhd]
      exact ⟨_, rfl, hlen2, hone2⟩
end Go.Proofs.YtpmmfabendnhiaaDoor
