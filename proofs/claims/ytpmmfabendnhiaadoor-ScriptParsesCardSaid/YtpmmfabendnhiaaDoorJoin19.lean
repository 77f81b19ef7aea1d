/-
  Texts joined: PVdrW, PTakes, TCut, PParseL.
-/
import Derived.Test.YtpmmfabendnhiaaDoorJoin18
import Derived.Lib.IndexMore
import Derived.Lib.IndexBytes
namespace Go.Proofs.YtpmmfabendnhiaaDoor
open Go.RowKit
open Go.Lib (strCells byteCells decDigits)
set_option linter.unusedVariables false
set_option linter.unusedSimpArgs false
set_option maxRecDepth 10000
def vdrS : List UInt8 := [118, 100, 114]
def byzS : List UInt8 := [98, 121, 122]
/-- A validator's line. -/
def vdrV (l : List UInt8) (S : PS) : Option PS := match wordsV l with
  | [x, nm, y] => if (x = vdrS ∨ x = byzS) ∧ nameE (strOf nm) = 0 ∧ (numT [y]).isSome = true ∧ S.vs.length < 32 then some { S with vs := S.vs ++ [(nm, (numT [y]).getD 0)], byz := if x = byzS then S.byz ++ [S.vs.length] else S.byz } else none
  | _ => none
theorem vdr_plain {l x : List UInt8} {ws : Wds} (hws : wordsV l = x :: ws) (hx : x = vdrS ∨ x = byzS) (S : PS) : vdrV l S = if (ws.isEmpty || (numT ws.tail).isNone) = false ∧ ws.tail.tail = [] ∧ nameE (strOf (ws.headD [])) = 0 ∧ S.vs.length < 32 then some { S with vs := S.vs ++ [(ws.headD [], (numT ws.tail).getD 0)], byz := if x = byzS then S.byz ++ [S.vs.length] else S.byz } else none := by
  unfold vdrV
  rw [hws]
  cases ws with
  | nil => simp
  | cons a r => cases r with
    | nil => simp [numT]
    | cons b r => cases r with
      | nil =>
        simp only [hx, true_and, List.isEmpty_cons, Bool.false_or, List.tail_cons, List.headD_cons]
        cases numT [b] <;> simp
      | cons c r => simp
theorem HdAt.word {W w : World} {rb tb : Nat} {x : Tks} {cs : Array Value} (h : HdAt W w rb tb x cs) : callE Tryd.prog 25 #[.pointer (some ⟨tb, 0, none⟩)] w fun u w' => u = .string (strOf (x.1.headD [])) ∧ HdAt W w' rb tb (x.1.tail, x.2 || x.1.isEmpty) cs :=
  callE_of (word_any h.tak) fun v w' ⟨h1, h2, h3⟩ => ⟨h1, h.took h2 h3⟩
theorem app_rd {w w' : World} {rb B e size n : Nat} {v : Value} {xs : List Value} {cs : Array Value} (h : Blk w rb 60 cs) (hrow : w.ownsRow B e size v n xs) (he : e ≠ 60) (hg : w.grownBy w' v.ownBlock) : Blk w' rb 60 cs :=
  (Keeps.grown (O := fun j => v.ownBlock ≠ some j) hg fun k e h => h e).blk h (row_ne hrow h he)
set_option maxHeartbeats 12800000 in
theorem vdr_any {B rb n : Nat} {w : World} {S : PS} {ms : List Mv} (h : RdgAt B w rb S ms n) (l : List UInt8) (hl : l.length ≤ 20000) {x : List UInt8} {ws : Wds} (hws : wordsV l = x :: ws) (hx : x = vdrS ∨ x = byzS) (hvl : S.vs.length ≤ 32) (hbl : S.byz.length ≤ 32) (hml : ms.length ≤ 5000) :
    callE Tryd.prog 31 #[.pointer (some ⟨rb, 0, none⟩), .string (strOf l)] w fun v w' => (match (if ms = [] then vdrV l S else none) with
      | some S' => v = .bool true ∧ RdgAt B w' rb S' ms n
      | none => v = .bool false ∧ RdgAt B w' rb S ms n) ∧ Below B w w' := by
  obtain ⟨vv, vb, vf, vm, hb, hr, hB⟩ := h
  have hsm := fun s (h : s ∈ wordsV l) => words_small h
  obtain ⟨res, hres⟩ : ∃ res, (if ms = [] then vdrV l S else none) = res := ⟨_, rfl⟩
  rw [hres]
  rw [vdr_plain hws hx S] at hres
  rw [hws] at hsm
  refine calls_E Tryd.func31 rfl rfl rfl (Nat.le_of_ble_eq_true rfl) ?_
  simp [go_sem, IntWalk.iteOmega, IntWalk.toNatUp]
  refine callE_of (words_any l (by omega) w) ?_
  rintro v1 w1 ⟨o1, k1⟩
  rw [hws] at o1
  obtain ⟨⟨A, cp, e1, hrd, hA, hc1, hc2⟩, A', c', e2⟩ := own_sl o1
  have hlt := o1.lt
  subst e1
  clear e2
  simp [go_sem, IntWalk.iteOmega, IntWalk.toNatUp]
  have H : HdAt w (w1.alloc (.cells #[.slice A (x :: ws).length cp, .bool false] 77)) rb w1.heap.size (x :: ws, false) (rdCells S.c S.now vv vb vf vm n) :=
    ⟨⟨A, cp, Blk.self_ rfl, hrd.keep (ext_alloc _ _), hA, hc1, hc2, fun j hj => ⟨(hlt j (atB_row o1 hj)).1, atB_lt hrd hj⟩⟩, (hb.keep k1).keep (ext_alloc _ _), keeps_then (Keeps.of_ext k1) (Keeps.of_ext (ext_alloc _ _)), hb.lt, k1.size, fun s hs => by have := hsm s hs; omega⟩
  have hr2 : RowsAt B (w1.alloc (.cells #[.slice A (x :: ws).length cp, .bool false] 77)) S ms vv vb vf vm := (hr.below k1).below (ext_alloc _ _)
  simp only [List.length_cons] at H hr2
  push_cast at H hr2 ⊢
  generalize w1.alloc (.cells #[.slice A (ws.length + 1) cp, .bool false] 77) = w2 at *
  generalize w1.heap.size = tb at *
  clear hrd hA hc1 hc2 hlt o1 k1
  obtain ⟨hx0, hb2⟩ := H.tak.blk
  refine callE_of (word_any H.tak) ?_
  rintro _ w3 ⟨rfl, h5, k5⟩
  have hr3 := hr2.far hb2 rowT_taker k5
  have H := H.took h5 k5
  simp only [List.headD_cons, List.tail_cons, List.isEmpty_cons, Bool.or_false] at H ⊢
  clear h5 k5 hb2 hr2
  simp [go_sem, IntWalk.iteOmega, IntWalk.toNatUp]
  obtain ⟨hx1, hb3⟩ := H.tak.blk
  refine callE_of (word_any H.tak) ?_
  rintro _ w4 ⟨rfl, h5, k5⟩
  have hr4 := hr3.far hb3 rowT_taker k5
  have H := H.took h5 k5
  simp only [Bool.false_or] at H ⊢
  clear h5 k5 hb3 hr3
  generalize hnm : ws.headD [] = nm at *
  simp [go_sem, IntWalk.iteOmega, IntWalk.toNatUp]
  obtain ⟨hx2, hb4⟩ := H.tak.blk
  refine callE_of (tnum_any H.tak H.small) ?_
  rintro _ w5 ⟨rfl, h5, k5⟩
  have hr5 := hr4.far hb4 rowT_taker k5
  have H := H.took h5 k5
  simp only at H ⊢
  clear h5 k5 hb4 hr4
  have hnml : nm.length ≤ 20000 := by
    rw [← hnm]
    cases ws with
    | nil => simp
    | cons y r => have := hsm y (by simp); simp; omega
  generalize hwt : (numT ws.tail).getD 0 = wt at *
  have kA := ext_alloc w5 (.cells #[.string (strOf nm), .int .i64 (wt : Int)] 67)
  have hV : Blk (w5.alloc (.cells #[.string (strOf nm), .int .i64 (wt : Int)] 67)) w5.heap.size 67 #[.string (strOf nm), .int .i64 (wt : Int)] := Blk.self_ rfl
  have H := H.more kA
  have hr6 := hr5.below kA
  clear hr5
  have hBW : B ≤ w.heap.size := by have := hb.lt; omega
  clear hws hsm hnm hwt
  generalize hbd : (ws.isEmpty || (numT ws.tail).isNone) = bd at *
  generalize ws.tail.tail = R at *
  clear hbd
  have out : ∀ {W : World}, HdAt w W rb tb (R, bd) (rdCells S.c S.now vv vb vf vm n) → RowsAt B W S ms vv vb vf vm → RdgAt B W rb S ms n ∧ Below B w W := fun H hr => ⟨⟨vv, vb, vf, vm, H.rd, hr, hB⟩, H.keep.below hBW fun j hj e => by omega⟩
  obtain ⟨A2, c2, htb, -⟩ := H.tak
  simp only at htb
  have htc := htb.cell
  have c28 := H.rd.cell 28
  have c32 := H.rd.cell 32
  rw [rd_28] at c28
  rw [rd_32] at c32
  obtain ⟨-, Av, cv, rfl⟩ := own_sl hr6.vs
  obtain ⟨Am, cm, rfl⟩ : ∃ Am cm, vm = .slice Am ms.length cm := by
    obtain ⟨xs, hm1, hm2, hm3⟩ := hr6.moves
    obtain ⟨-, Am, cm, e⟩ := own_sl hm2
    exact ⟨Am, cm, e⟩
  clear hb hr
  simp [go_sem, IntWalk.iteOmega, IntWalk.toNatUp]
  generalize w5.alloc (.cells #[.string (strOf nm), .int .i64 (wt : Int)] 67) = w6 at *
  generalize w5.heap.size = vp at *
  clear htb kA
  cases bd with
  | true =>
    obtain rfl : res = none := by rw [← hres]; simp
    simp [go_sem, IntWalk.iteOmega, IntWalk.toNatUp, htc]
    exact out H hr6
  | false =>
    by_cases hR : R = []
    case neg =>
      obtain rfl : res = none := by rw [← hres]; simp [hR]
      have hp : 0 < R.length := by cases R with | nil => exact absurd rfl hR | cons _ _ => simp
      simp [go_sem, IntWalk.iteOmega, IntWalk.toNatUp, htc, hp]
      exact out H hr6
    subst hR
    have hvn := vname_any (strOf nm) (by rw [strOf_size]; omega) w6
    have hV0 := hV.cell 0
    generalize hE : nameE (strOf nm) = e at *
    simp [go_sem, IntWalk.iteOmega, IntWalk.toNatUp, htc, hV0]
    refine callE_of hvn ?_
    rintro _ w7 ⟨rfl, k7⟩
    have H := H.more k7
    have hr7 := hr6.below k7
    have hV7 := hV.keep k7
    have c28 := H.rd.cell 28
    have c32 := H.rd.cell 32
    rw [rd_28] at c28
    rw [rd_32] at c32
    clear htc hr6 hV hV0 hvn k7
    by_cases hname : e = 0
    case neg =>
      obtain rfl : res = none := by rw [← hres]; simp [hname]
      have hb1 : (e != 0) = true := by simp [hname]
      simp [go_sem, IntWalk.iteOmega, IntWalk.toNatUp, hb1]
      exact out H hr7
    subst hname
    by_cases h32 : S.vs.length < 32
    case neg =>
      obtain rfl : res = none := by rw [← hres]; simp [h32]
      have h32' : (32 : Int) ≤ S.vs.length := by omega
      simp [go_sem, IntWalk.iteOmega, IntWalk.toNatUp, c28, h32']
      exact out H hr7
    have h32' : ¬ (32 : Int) ≤ S.vs.length := by omega
    by_cases hms : ms = []
    case neg =>
      obtain rfl : res = none := by rw [← hres]; simp [hms]
      have hp : 0 < ms.length := by cases ms with | nil => exact absurd rfl hms | cons _ _ => simp
      simp [go_sem, IntWalk.iteOmega, IntWalk.toNatUp, c28, c32, h32', hp]
      exact out H hr7
    subst hms
    obtain rfl : res = some { S with vs := S.vs ++ [(nm, wt)], byz := if x = byzS then S.byz ++ [S.vs.length] else S.byz } := by rw [← hres]; simp [h32]
    clear hres
    have cby : (⟨#[98, 121, 122]⟩ : ByteArray) = strOf byzS := rfl
    simp [go_sem, IntWalk.iteOmega, IntWalk.toNatUp, c28, c32, h32', cby]
    have H0 : HdAt w w7 rb tb ([], false) (rdCells S.c S.now (.slice Av S.vs.length cv) vb vf (.slice Am 0 cm) n) := H
    refine condC_cut (fun s w8 => s 0 = .pointer (some ⟨rb, 0, none⟩) ∧ s 7 = .pointer (some ⟨vp, 0, none⟩) ∧ ∃ vb', Blk w8 rb 60 (rdCells S.c S.now (.slice Av S.vs.length cv) vb' vf (.slice Am 0 cm) n) ∧ RowsAt B w8 { S with byz := if x = byzS then S.byz ++ [S.vs.length] else S.byz } [] (.slice Av S.vs.length cv) vb' vf (.slice Am 0 cm) ∧ Blk w8 vp 67 #[.string (strOf nm), .int .i64 (wt : Int)] ∧ Below B w w8) ?_ ?_
    · by_cases hbz : x = byzS
      · have hb1 : ((strOf x).toList == (strOf byzS).toList) = true := by rw [hbz]; simp
        simp [go_sem, IntWalk.iteOmega, IntWalk.toNatUp, hb1]
        have hd := H.rd.drew
        have hrd := hr7.below (ext_drew w7)
        have hVd := hV7.drew
        have hbld : Below B w w7.drew := (H.keep.below hBW fun j hj e => by omega).drew
        obtain ⟨-, Ab, cb, rfl⟩ := own_sl hrd.byz
        have d28 := hd.cell 28
        have d29 := hd.cell 29
        rw [rd_28] at d28
        rw [rd_29] at d29
        have hlt := hd.lt
        have d29a := fun o => (H.rd.more o).cell 29
        simp only [rd_29] at d29a
        have hda : Blk (w7.alloc (.cells #[.int .i64 (S.vs.length : Int)] 3)).drew rb 60 _ := (H.rd.more _).drew
        have hra : RowsAt B (w7.alloc (.cells #[.int .i64 (S.vs.length : Int)] 3)).drew _ _ _ _ _ _ := (hr7.below (ext_alloc w7 _)).below (ext_drew _)
        have hVa : Blk (w7.alloc (.cells #[.int .i64 (S.vs.length : Int)] 3)).drew vp 67 _ := (hV7.more _).drew
        have hN : Blk (w7.alloc (.cells #[.int .i64 (S.vs.length : Int)] 3)).drew w7.heap.size 3 #[.int .i64 (S.vs.length : Int)] := (Blk.self_ rfl).drew
        have hbla : Below B w (w7.alloc (.cells #[.int .i64 (S.vs.length : Int)] 3)).drew := ((H.keep.below hBW fun j hj e => by omega).alloc (by have := H.keep.size; omega) _).drew
        have hvpr : rb ≠ vp := fun e => by subst e; exact absurd (Blk_ty hda hVa) (by decide)
        clear H H0 c28 c32 out hr7 hV7 hd hrd hVd hbld
        refine W_tree (.pure 0 (.pure 1 (.pure 2 (.pure 3 (.pure 4 (.pure 6 (.pure 7 (.pure 8 (.pure 9 (.two 5 (.one 10 (.pure 11 (.one 12 (.one 13 (.pure 14 (.pure 15 (.pure 16 (.one 17 (.done))))))))) 10 (.pure 11 (.two 5 (.one 12 (.one 13 (.pure 14 (.pure 15 (.pure 16 (.one 17 (.done))))))) 12 (.one 5 (.one 13 (.pure 14 (.pure 15 (.pure 16 (.one 17 (.done)))))))))))))))))))  follows (by kernel_rfl) ?_
        simp [go_sem, IntWalk.iteOmega, IntWalk.toNatUp, d28, d29, d29a, hlt]
        generalize (w7.alloc (.cells #[.int .i64 (S.vs.length : Int)] 3)).drew = wa at *
        have app : ∀ (K : Kont), (∀ v' w', Blk w' rb 60 (rdCells S.c S.now (.slice Av S.vs.length cv) (.slice Ab S.byz.length cb) vf (.slice Am 0 cm) n) → RowsAt B w' { S with byz := S.byz ++ [S.vs.length] } [] (.slice Av S.vs.length cv) v' vf (.slice Am 0 cm) → Blk w' vp 67 #[.string (strOf nm), .int .i64 (wt : Int)] → Below B w w' → (∃ A c, v' = .slice A (S.byz.length + 1) c) → K v' w') → resE Tryd.prog (appendR Tryd.prog 36 36 36 (.slice Ab S.byz.length cb) (.slice (some ⟨w7.heap.size, 0, none⟩) 1 1) wa) K := by
          intro K hK
          refine appendE B 3 1 8 Tryd.underlying36 el3 hra.byz (m := 1) (news := [.int .i64 (S.vs.length : Int)]) ⟨rfl, fun _ => ⟨_, 0, rfl, hN.lt, fun j u hu => by rw [hN.cell]; simpa using hu⟩⟩ rfl (by unfold maxLen; omega) (by omega) (by have := hbla.size; omega) ?_
          intro v' w' own g _
          obtain ⟨-, A5, c5, e5⟩ := own_sl own
          exact hK v' w' (app_rd hda hra.byz (by decide) g) (hra.bz _ g own) ((Keeps.grown (O := fun j => (Value.slice Ab S.byz.length cb).ownBlock ≠ some j) g fun k e h => h e).blk hVa (row_ne hra.byz hVa (by decide))) (hbla.grown g (by have := hbla.size; omega) fun k hk => (hra.byz.lt k hk).1) ⟨A5, c5, e5⟩
        refine ⟨?_, ?_, ?_⟩
        all_goals
          refine app _ ?_
          rintro v' w' q1 q2 q3 q4 ⟨A5, c5, rfl⟩
          have q1c := q1.cell 29
          rw [rd_29] at q1c
          have q1s := Blk_set (o := 29) (v := .slice A5 (S.byz.length + 1) c5) q1
          rw [rd_set29] at q1s
          simp [go_sem, IntWalk.iteOmega, IntWalk.toNatUp, q1c, q1.frozen, q1.lt]
          refine atCut.mk ⟨by simp [go_sem], by simp [go_sem], _, q1s, ?_, q3.farCell (fun e => hvpr e.symm) _, q4.setCell (by omega) _⟩
          rw [if_pos hbz]
          exact q2.far q1 rowT_reading (Keeps.setCell w' ⟨rb, 29, none⟩ _ (fun h => h rfl))
      · have hb1 : ((strOf x).toList == (strOf byzS).toList) = false := beq_eq_false_iff_ne.2 fun e => hbz (str_ext.1 e)
        simp [go_sem, IntWalk.iteOmega, IntWalk.toNatUp, hb1]
        exact atCut.mk ⟨by simp [go_sem], by simp [go_sem], vb, H.rd, by rw [if_neg hbz]; exact hr7, hV7, H.keep.below hBW fun j hj e => by omega⟩
    · clear c28 c32 hV7 hr7 H H0 out
      rintro s w8 ⟨e0, e7, vb', hb8, hr8, hV8, hbl8⟩
      simp [go_sem, IntWalk.iteOmega, IntWalk.toNatUp, e0, e7]
      have hd := hb8.drew
      have hrd := hr8.below (ext_drew w8)
      have hVd := hV8.drew
      have hbld := hbl8.drew
      have d28 := hd.cell 28
      rw [rd_28] at d28
      have hlt := hd.lt
      have hlv := hVd.lt
      have d28a := fun o => (hb8.more o).cell 28
      simp only [rd_28] at d28a
      generalize hbz : (if x = byzS then S.byz ++ [S.vs.length] else S.byz) = bz at *
      have hda : Blk (w8.alloc (.cells #[.string (strOf nm), .int .i64 (wt : Int)] 67)).drew rb 60 _ := (hb8.more _).drew
      have hra : RowsAt B (w8.alloc (.cells #[.string (strOf nm), .int .i64 (wt : Int)] 67)).drew _ _ _ _ _ _ := (hr8.below (ext_alloc w8 _)).below (ext_drew _)
      have hN : Blk (w8.alloc (.cells #[.string (strOf nm), .int .i64 (wt : Int)] 67)).drew w8.heap.size 67 #[.string (strOf nm), .int .i64 (wt : Int)] := (Blk.self_ rfl).drew
      have hbla : Below B w (w8.alloc (.cells #[.string (strOf nm), .int .i64 (wt : Int)] 67)).drew := (hbl8.alloc (by have := hbl8.size; omega) _).drew
      clear hb8 hr8 hV8 hbl8 hrd hbld
      refine W_tree (.pure 0 (.pure 1 (.pure 2 (.pure 3 (.pure 4 (.two 5 (.one 6 (.one 7 (.one 8 (.pure 9 (.pure 10 (.pure 11 (.one 12 (.done)))))))) 6 (.two 5 (.one 7 (.one 8 (.pure 9 (.pure 10 (.pure 11 (.one 12 (.done))))))) 7 (.one 5 (.one 8 (.pure 9 (.pure 10 (.pure 11 (.one 12 (.done)))))))))))))) follows (by kernel_rfl) ?_
      simp [go_sem, IntWalk.iteOmega, IntWalk.toNatUp, e0, e7, d28, d28a, hlt, hlv, hVd.cell]
      generalize (w8.alloc (.cells #[.string (strOf nm), .int .i64 (wt : Int)] 67)).drew = wa at *
      have app : ∀ (K : Kont), (∀ v' w', Blk w' rb 60 (rdCells S.c S.now (.slice Av S.vs.length cv) vb' vf (.slice Am 0 cm) n) → RowsAt B w' { S with vs := S.vs ++ [(nm, wt)], byz := bz } [] v' vb' vf (.slice Am 0 cm) → Below B w w' → (∃ A c, v' = .slice A (S.vs.length + 1) c) → K v' w') → resE Tryd.prog (appendR Tryd.prog 35 35 35 (.slice Av S.vs.length cv) (.slice (some ⟨w8.heap.size, 0, none⟩) 1 1) wa) K := by
        intro K hK
        refine appendE B 67 2 24 Tryd.underlying35 el67 (show wa.ownsRow B 67 2 (.slice Av S.vs.length cv) S.vs.length (vdrCells S.vs) from hra.vs) (m := 1) (news := [.string (strOf nm), .int .i64 (wt : Int)]) ⟨rfl, fun _ => ⟨_, 0, rfl, hN.lt, fun j u hu => by rw [hN.cell]; simpa using hu⟩⟩ rfl (by unfold maxLen; omega) (by omega) (by have := hbla.size; omega) ?_
        intro v' w' own g _
        obtain ⟨-, A5, c5, e5⟩ := own_sl own
        exact hK v' w' (app_rd hda hra.vs (by decide) g) (hra.vdr _ _ g own) (hbla.grown g (by have := hbla.size; omega) fun k hk => (hra.vs.lt k hk).1) ⟨A5, c5, e5⟩
      refine ⟨?_, ?_, ?_⟩
      all_goals
        refine app _ ?_
        rintro v' w' q1 q2 q3 ⟨A5, c5, rfl⟩
        have q1c := q1.cell 28
        rw [rd_28] at q1c
        have q1s := Blk_set (o := 28) (v := .slice A5 (S.vs.length + 1) c5) q1
        rw [rd_set28] at q1s
        simp [go_sem, IntWalk.iteOmega, IntWalk.toNatUp, q1c, q1.frozen, q1.lt, e0, e7]
        exact ⟨⟨_, _, _, _, q1s, q2.far q1 rowT_reading (Keeps.setCell w' ⟨rb, 28, none⟩ _ (fun h => h rfl)), hB⟩, q3.setCell (by omega) _⟩
end Go.Proofs.YtpmmfabendnhiaaDoor
namespace Go.Proofs.YtpmmfabendnhiaaDoor
open Go.RowKit
open Go.Lib (strCells byteCells decDigits)
set_option linter.unusedVariables false
set_option linter.unusedSimpArgs false
set_option maxRecDepth 10000
def firstW (l : List UInt8) : List UInt8 := (wordsV l).headD []
/-- What a line does. -/
def stepV (n : Nat) (l : List UInt8) (S : PS) (ms : List Mv) : Option (PS × List Mv) :=
  if n ≤ 8 then (match headV n l S with | some S' => some (S', ms) | none => none)
  else if firstW l = vdrS ∨ firstW l = byzS then (match (if ms = [] then vdrV l S else none) with | some S' => some (S', ms) | none => none)
  else match moveV 4009 l with
    | some m => if S.vs ≠ [] ∧ ms.length < 4096 then some (S, ms ++ [m]) else none
    | none => none
def TakesPost (B : Nat) (w : World) (rb : Nat) (S : PS) (ms : List Mv) (n : Nat) (l : List UInt8) (v : Value) (w' : World) : Prop :=
  (match stepV n l S ms with
    | some (S', ms') => v = .bool true ∧ RdgAt B w' rb S' ms' n
    | none => v = .bool false ∧ ∃ c now vv vb vf vm, Blk w' rb 60 (rdCells c now vv vb vf vm n)) ∧ Below B w w'
set_option maxHeartbeats 12800000 in
theorem takes_any {B rb n : Nat} {w : World} {S : PS} {ms : List Mv} (h : RdgAt B w rb S ms n) (hn1 : 1 ≤ n) (hn2 : n ≤ 100000) (l : List UInt8) (hl : l.length ≤ 20000) (hvl : S.vs.length ≤ 32) (hbl : S.byz.length ≤ 32) (hml : ms.length ≤ 4096) :
    callE Tryd.prog 14 #[.pointer (some ⟨rb, 0, none⟩), .string (strOf l)] w (TakesPost B w rb S ms n l) := by
  obtain ⟨vv, vb, vf, vm, hb, hr, hB⟩ := id h
  have c33 := hb.cell 33
  rw [rd_33] at c33
  obtain ⟨P, hP⟩ : ∃ P, TakesPost B w rb S ms n l = P := ⟨_, rfl⟩
  rw [hP]
  refine calls_E Tryd.func14 rfl rfl rfl (Nat.le_of_ble_eq_true rfl) ?_
  by_cases h8 : n ≤ 8
  · have h8' : (n : Int) ≤ 8 := by omega
    have hh := head_any h hn1 h8 l hl
    simp [go_sem, IntWalk.iteOmega, IntWalk.toNatUp, c33, h8']
    refine callE_of hh ?_
    rintro v w2 ⟨hq, k2⟩
    simp [go_sem, IntWalk.iteOmega, IntWalk.toNatUp]
    rw [← hP]
    refine ⟨?_, k2⟩
    unfold stepV
    rw [if_pos h8]
    cases hv : headV n l S with
    | none => rw [hv] at hq; exact hq
    | some S' => rw [hv] at hq; exact hq
  have h8' : ¬ (n : Int) ≤ 8 := by omega
  have hwd := words_any l (by omega) w
  obtain ⟨x, ws, hws⟩ : ∃ x ws, wordsV l = x :: ws := by
    cases h : wordsV l with
    | nil => exact absurd h (go_ne l [])
    | cons x ws => exact ⟨x, ws, rfl⟩
  have hfw : firstW l = x := by unfold firstW; rw [hws]; rfl
  rw [hws] at hwd
  simp [go_sem, IntWalk.iteOmega, IntWalk.toNatUp, c33, h8']
  refine callE_of hwd ?_
  rintro v1 w1 ⟨o1, k1⟩
  obtain ⟨⟨A, cp, e1, hrd, hA, hc1, hc2⟩, A', c', e2⟩ := own_sl o1
  subst e1
  clear e2
  obtain ⟨g, o, rfl, hg, hcell⟩ := hrd.cells (by simp)
  have hx0 := hcell 0 (.string (strOf x)) (by simp [strs])
  rw [Nat.add_zero] at hx0
  have h1 : RdgAt B w1 rb S ms n := h.below k1
  have hBW : B ≤ w.heap.size := by have := hb.lt; omega
  have kB1 : Below B w w1 := k1.mono hBW
  have cvd : (⟨#[118, 100, 114]⟩ : ByteArray) = strOf vdrS := rfl
  have cby : (⟨#[98, 121, 122]⟩ : ByteArray) = strOf byzS := rfl
  have hlen : (0 : Int) < ((x :: ws).length : Int) := by simp only [List.length_cons]; omega
  simp only [List.length_cons] at hlen
  clear hcell hrd hA o1 hc1 hc2 hwd h
  by_cases hx : x = vdrS ∨ x = byzS
  · have hvd := vdr_any h1 l hl hws hx hvl hbl (by omega)
    have fin : ∀ v w2, ((match (if ms = [] then vdrV l S else none) with
      | some S' => v = .bool true ∧ RdgAt B w2 rb S' ms n
      | none => v = .bool false ∧ RdgAt B w2 rb S ms n) ∧ Below B w1 w2) → P v w2 := by
      rintro v w2 ⟨hq, k2⟩
      rw [← hP]
      refine ⟨?_, kB1.trans k2⟩
      unfold stepV
      rw [if_neg h8, hfw, if_pos hx]
      cases hv : (if ms = [] then vdrV l S else none) with
      | none =>
        rw [hv] at hq
        obtain ⟨q1, vv, vb, vf, vm, q2, -⟩ := hq
        exact ⟨q1, _, _, _, _, _, _, q2⟩
      | some S' => rw [hv] at hq; exact hq
    by_cases hxv : x = vdrS
    · have hb1 : ((strOf x).toList == (strOf vdrS).toList) = true := by rw [hxv]; simp
      simp [go_sem, IntWalk.iteOmega, IntWalk.toNatUp, hx0, hlen, cvd, cby, hb1]
      refine callE_of hvd ?_
      rintro v w2 hq
      have := fin v w2 hq
      simp [go_sem, IntWalk.iteOmega, IntWalk.toNatUp]
      exact this
    · have hb1 : ((strOf x).toList == (strOf vdrS).toList) = false := beq_eq_false_iff_ne.2 fun e => hxv (str_ext.1 e)
      have hb2 : ((strOf x).toList == (strOf byzS).toList) = true := by
        rcases hx with h | h
        · exact absurd h hxv
        · rw [h]; simp
      simp [go_sem, IntWalk.iteOmega, IntWalk.toNatUp, hx0, hlen, cvd, cby, hb1, hb2]
      refine callE_of hvd ?_
      rintro v w2 hq
      have := fin v w2 hq
      simp [go_sem, IntWalk.iteOmega, IntWalk.toNatUp]
      exact this
  have hxv : x ≠ vdrS := fun e => hx (.inl e)
  have hxb : x ≠ byzS := fun e => hx (.inr e)
  have hb1 : ((strOf x).toList == (strOf vdrS).toList) = false := beq_eq_false_iff_ne.2 fun e => hxv (str_ext.1 e)
  have hb2 : ((strOf x).toList == (strOf byzS).toList) = false := beq_eq_false_iff_ne.2 fun e => hxb (str_ext.1 e)
  have hmv := move_any l hl w1
  simp [go_sem, IntWalk.iteOmega, IntWalk.toNatUp, hx0, hlen, cvd, cby, hb1, hb2]
  refine callE_of hmv ?_
  rintro v w2 ⟨hq, k2⟩
  have h2 := h1.below k2
  obtain ⟨vv, vb, vf, vm, hb2', hr2, -⟩ := h2
  have kB2 : Below B w w2 := kB1.trans (k2.mono (Nat.le_trans hBW kB1.size))
  clear hb1 hb2 hx0 hlen cvd cby hg hmv h1 kB1 hb hr c33
  have hst : stepV n l S ms = (match moveV 4009 l with
    | some m => if S.vs ≠ [] ∧ ms.length < 4096 then some (S, ms ++ [m]) else none
    | none => none) := by unfold stepV; rw [if_neg h8, hfw, if_neg hx]
  have bad : ∀ {w3 : World}, stepV n l S ms = none → Blk w3 rb 60 (rdCells S.c S.now vv vb vf vm n) → Below B w w3 → P (.bool false) w3 := by
    intro w3 h1 h2 h3
    rw [← hP]
    refine ⟨?_, h3⟩
    rw [h1]
    exact ⟨rfl, _, _, _, _, _, _, h2⟩
  cases hmo : moveV 4009 l with
  | none =>
    rw [hmo] at hq hst
    simp only at hq
    subst hq
    have kA := ext_alloc w2 (.cells zeroMv 48)
    unfold zeroMv at kA ⊢
    simp [go_sem, IntWalk.iteOmega, IntWalk.toNatUp]
    exact bad hst (hb2'.keep kA) (kB2.alloc (Nat.le_trans hBW kB2.size) _)
  | some m =>
    rw [hmo] at hq hst
    simp only at hq hst
    obtain ⟨va, vd, rfl, hmO⟩ := hq
    obtain ⟨-, A1, c1, rfl⟩ := own_sl hmO.1
    obtain ⟨-, A2, c2, rfl⟩ := own_sl hmO.2
    unfold mvCells
    have kA := ext_alloc w2 (.cells #[.int .i64 m.kind, .int .i64 m.node, .int .i64 m.rcv, .int .i64 m.n, .slice A1 m.bytes.length c1, .slice A2 m.draws.length c2] 48)
    have hM3 : Blk (w2.alloc (.cells #[.int .i64 m.kind, .int .i64 m.node, .int .i64 m.rcv, .int .i64 m.n, .slice A1 m.bytes.length c1, .slice A2 m.draws.length c2] 48)) w2.heap.size 48 #[.int .i64 m.kind, .int .i64 m.node, .int .i64 m.rcv, .int .i64 m.n, .slice A1 m.bytes.length c1, .slice A2 m.draws.length c2] := Blk.self_ rfl
    have hmO3 := (hmO.below kA).low (B' := B) (by have := kB2.size; have := k1.size; omega)
    have hr3 := hr2.below kA
    have hb3 := hb2'.keep kA
    have kB3 := kB2.alloc (Nat.le_trans hBW kB2.size) (.cells #[.int .i64 m.kind, .int .i64 m.node, .int .i64 m.rcv, .int .i64 m.n, .slice A1 m.bytes.length c1, .slice A2 m.draws.length c2] 48)
    obtain ⟨-, Av, cv, rfl⟩ := own_sl hr3.vs
    obtain ⟨xs, hm1, hm2, hm3⟩ := hr3.moves
    obtain ⟨-, Am, cm, rfl⟩ := own_sl hm2
    simp [go_sem, IntWalk.iteOmega, IntWalk.toNatUp]
    generalize w2.alloc (.cells #[.int .i64 m.kind, .int .i64 m.node, .int .i64 m.rcv, .int .i64 m.n, .slice A1 m.bytes.length c1, .slice A2 m.draws.length c2] 48) = w3 at *
    generalize w2.heap.size = mb at *
    clear kA hmO hr2 hb2' kB2
    have c28 := hb3.cell 28
    have c32 := hb3.cell 32
    rw [rd_28] at c28
    rw [rd_32] at c32
    by_cases hvs : S.vs = []
    · have hz : S.vs.length = 0 := by rw [hvs]; rfl
      have hz' : ((S.vs.length : Int) == 0) = true := by rw [hz]; rfl
      simp [go_sem, IntWalk.iteOmega, IntWalk.toNatUp, c28, hz']
      exact bad (by rw [hst]; simp [hvs]) hb3 kB3
    have hz' : ((S.vs.length : Int) == 0) = false := by
      have : S.vs.length ≠ 0 := fun e => hvs (List.eq_nil_of_length_eq_zero e)
      simp
      omega
    by_cases h4 : ms.length < 4096
    case neg =>
      have h4' : (4096 : Int) ≤ ms.length := by omega
      simp [go_sem, IntWalk.iteOmega, IntWalk.toNatUp, c28, c32, hz', h4']
      exact bad (by rw [hst]; simp [h4]) hb3 kB3
    have h4' : ¬ (4096 : Int) ≤ ms.length := by omega
    rw [if_pos ⟨hvs, h4⟩] at hst
    simp [go_sem, IntWalk.iteOmega, IntWalk.toNatUp, c28, c32, hz', h4']
    have hd := hb3.drew
    have d32 := hd.cell 32
    rw [rd_32] at d32
    have hMd := hM3.drew
    have hlt := hd.lt
    have hlm := hMd.lt
    have d32a := fun o => (hb3.more o).cell 32
    simp only [rd_32] at d32a
    have hda : Blk (w3.alloc (.cells #[.int .i64 m.kind, .int .i64 m.node, .int .i64 m.rcv, .int .i64 m.n, .slice A1 m.bytes.length c1, .slice A2 m.draws.length c2] 48)).drew rb 60 _ := (hb3.more _).drew
    have hra : RowsAt B (w3.alloc (.cells #[.int .i64 m.kind, .int .i64 m.node, .int .i64 m.rcv, .int .i64 m.n, .slice A1 m.bytes.length c1, .slice A2 m.draws.length c2] 48)).drew _ _ _ _ _ _ := (hr3.below (ext_alloc w3 _)).below (ext_drew _)
    have hN : Blk (w3.alloc (.cells #[.int .i64 m.kind, .int .i64 m.node, .int .i64 m.rcv, .int .i64 m.n, .slice A1 m.bytes.length c1, .slice A2 m.draws.length c2] 48)).drew w3.heap.size 48 #[.int .i64 m.kind, .int .i64 m.node, .int .i64 m.rcv, .int .i64 m.n, .slice A1 m.bytes.length c1, .slice A2 m.draws.length c2] := (Blk.self_ rfl).drew
    have hmOa := (hmO3.below (ext_alloc w3 (.cells #[.int .i64 m.kind, .int .i64 m.node, .int .i64 m.rcv, .int .i64 m.n, .slice A1 m.bytes.length c1, .slice A2 m.draws.length c2] 48))).below (ext_drew _)
    have hm2a := row_below (row_below hm2 (ext_alloc w3 (.cells #[.int .i64 m.kind, .int .i64 m.node, .int .i64 m.rcv, .int .i64 m.n, .slice A1 m.bytes.length c1, .slice A2 m.draws.length c2] 48))) (ext_drew _)
    have hm3a := fun x hx => ((hm3 x hx).below (ext_alloc w3 (.cells #[.int .i64 m.kind, .int .i64 m.node, .int .i64 m.rcv, .int .i64 m.n, .slice A1 m.bytes.length c1, .slice A2 m.draws.length c2] 48))).below (ext_drew _)
    have hbla : Below B w (w3.alloc (.cells #[.int .i64 m.kind, .int .i64 m.node, .int .i64 m.rcv, .int .i64 m.n, .slice A1 m.bytes.length c1, .slice A2 m.draws.length c2] 48)).drew := (kB3.alloc (Nat.le_trans hBW kB3.size) _).drew
    clear hb3 hr3 hM3 hm2 hm3 hmO3 kB3 c28 c32 bad hz' h4' k1 k2
    refine W_tree (.pure 0 (.pure 1 (.pure 2 (.pure 3 (.two 4 (.one 5 (.one 6 (.one 7 (.pure 8 (.pure 9 (.one 10 (.done))))))) 5 (.two 4 (.one 6 (.one 7 (.pure 8 (.pure 9 (.one 10 (.done)))))) 6 (.one 4 (.one 7 (.pure 8 (.pure 9 (.one 10 (.done)))))))))))) follows (by kernel_rfl) ?_
    simp [go_sem, IntWalk.iteOmega, IntWalk.toNatUp, d32, d32a, hlt, hlm, hMd.cell]
    generalize (w3.alloc (.cells #[.int .i64 m.kind, .int .i64 m.node, .int .i64 m.rcv, .int .i64 m.n, .slice A1 m.bytes.length c1, .slice A2 m.draws.length c2] 48)).drew = wa at *
    have app : ∀ (K : Kont), (∀ v' w', Blk w' rb 60 (rdCells S.c S.now (.slice Av S.vs.length cv) vb vf (.slice Am ms.length cm) n) → RowsAt B w' S (ms ++ [m]) (.slice Av S.vs.length cv) vb vf v' → Below B w w' → (∃ A c, v' = .slice A (ms.length + 1) c) → K v' w') → resE Tryd.prog (appendR Tryd.prog 40 40 40 (.slice Am ms.length cm) (.slice (some ⟨w3.heap.size, 0, none⟩) 1 1) wa) K := by
      intro K hK
      refine appendE B 48 6 80 Tryd.underlying40 el48 hm2a (m := 1) (news := (mvCells m (.slice A1 m.bytes.length c1) (.slice A2 m.draws.length c2)).toList) ⟨rfl, fun _ => ⟨_, 0, rfl, hN.lt, fun j u hu => by rw [hN.cell]; simpa [mvCells] using hu⟩⟩ rfl (by unfold maxLen; omega) (by omega) (by have := hbla.size; omega) ?_
      intro v' w' own g _
      obtain ⟨-, A5, c5, e5⟩ := own_sl own
      exact hK v' w' (app_rd hda hm2a (by decide) g) (hra.mv hm1 hm2a hm3a hmOa g own) (hbla.grown g (by have := hbla.size; omega) fun k hk => (hm2a.lt k hk).1) ⟨A5, c5, e5⟩
    refine ⟨?_, ?_, ?_⟩
    all_goals
      refine app _ ?_
      rintro v' w' q1 q2 q3 ⟨A5, c5, rfl⟩
      have q1c := q1.cell 32
      rw [rd_32] at q1c
      have q1s := Blk_set (o := 32) (v := .slice A5 (ms.length + 1) c5) q1
      rw [rd_set32] at q1s
      simp [go_sem, IntWalk.iteOmega, IntWalk.toNatUp, q1c, q1.frozen, q1.lt]
      rw [← hP]
      refine ⟨?_, q3.setCell (by omega) _⟩
      rw [hst]
      exact ⟨rfl, _, _, _, _, q1s, q2.far q1 rowT_reading (Keeps.setCell w' ⟨rb, 32, none⟩ _ (fun h => h rfl)), hB⟩
end Go.Proofs.YtpmmfabendnhiaaDoor
namespace Go.Proofs.YtpmmfabendnhiaaDoor
open Go.Lib (cut index)
theorem index_cons_eq (c : UInt8) (l : List UInt8) : index (c :: l) [c] = 0 := by simp [index]
theorem index_cons_ne {b c : UInt8} (h : b ≠ c) (l : List UInt8) : index (b :: l) [c] = if index l [c] = -1 then -1 else index l [c] + 1 := by
  have h' : (c == b) = false := by simpa using fun e => h e.symm
  simp [index, List.isPrefixOf, h']
theorem cut_app : ∀ {a : List UInt8} {c : UInt8} (b : List UInt8), c ∉ a → index (a ++ c :: b) [c] = a.length
  | [], c, b, _ => index_cons_eq c b
  | x :: a, c, b, h => by
    have h1 : x ≠ c := fun e => h (by simp [e])
    have h2 := cut_app b (fun hc => h (List.mem_cons_of_mem x hc))
    rw [List.cons_append, index_cons_ne h1, h2, if_neg (by omega)]
    simp
theorem index_not : ∀ {a : List UInt8} {c : UInt8}, c ∉ a → index a [c] = -1
  | [], c, _ => by simp [index]
  | x :: a, c, h => by
    have h1 : x ≠ c := fun e => h (by simp [e])
    have h2 := index_not (fun hc => h (List.mem_cons_of_mem x hc))
    rw [index_cons_ne h1, h2, if_pos rfl]
theorem cut_is {a : List UInt8} {c : UInt8} (b : List UInt8) (h : c ∉ a) : cut (a ++ c :: b) [c] = (a, b, true) := by
  unfold cut
  rw [cut_app b h, if_pos (by omega)]
  simp
theorem cut_not {a : List UInt8} {c : UInt8} (h : c ∉ a) : cut a [c] = (a, [], false) := by
  unfold cut
  rw [index_not h, if_neg (by omega)]
theorem split_at (c : UInt8) : ∀ l : List UInt8, c ∉ l ∨ ∃ a b, l = a ++ c :: b ∧ c ∉ a
  | [] => .inl (by simp)
  | x :: l => by
    by_cases e : x = c
    · exact .inr ⟨[], l, by simp [e], by simp⟩
    · rcases split_at c l with h | ⟨a, b, h1, h2⟩
      · exact .inl (by simp [h, Ne.symm e])
      · exact .inr ⟨x :: a, b, by rw [h1]; rfl, by simp [h2, Ne.symm e]⟩
end Go.Proofs.YtpmmfabendnhiaaDoor
namespace Go.Proofs.YtpmmfabendnhiaaDoor
open Go.Lib (cut)
set_option linter.unusedVariables false
set_option linter.unusedSimpArgs false
theorem cut_rest {t : List UInt8} (h : (cut t [10]).2.2 = true) : (cut t [10]).2.1.length < t.length ∧ (cut t [10]).1.length ≤ t.length := by
  rcases split_at 10 t with h1 | ⟨a, b, rfl, h1⟩
  · rw [cut_not h1] at h; cases h
  · rw [cut_is b h1]; simp; omega
/-- The plan and the moves of a text, and 0; or its first bad line. -/
def parseV (t : List UInt8) (S : PS) (ms : List Mv) (n : Nat) : Option (PS × List Mv) × Nat :=
  if t = [] ∧ S.vs ≠ [] then (some (S, ms), 0)
  else if h : (cut t [10]).2.2 = true then
    match stepV n (cut t [10]).1 S ms with
    | some (S', ms') =>
      have : (cut t [10]).2.1.length < t.length := (cut_rest h).1
      parseV (cut t [10]).2.1 S' ms' (n + 1)
    | none => (none, n)
  else (none, n)
termination_by t.length
structure PS.Ok (S : PS) (ms : List Mv) : Prop where
  vs : S.vs.length ≤ 32
  byz : S.byz.length ≤ S.vs.length
  ms : ms.length ≤ 4096
theorem headV_same {n : Nat} {l : List UInt8} {S S' : PS} (h : headV n l S = some S') : S'.vs = S.vs ∧ S'.byz = S.byz := by
  unfold headV at h
  split at h
  · cases h
  · split at h
    · split at h
      · split at h
        · cases h; exact ⟨rfl, rfl⟩
        · cases h
      · split at h
        · split at h
          · split at h
            · split at h
              · cases h; exact ⟨rfl, rfl⟩
              · cases h
            · cases h
          · cases h
        · split at h
          · cases h; exact ⟨rfl, rfl⟩
          · cases h
    · cases h
theorem vdrV_ok {l : List UInt8} {S S' : PS} (h : vdrV l S = some S') : S'.vs.length = S.vs.length + 1 ∧ S'.byz.length ≤ S.byz.length + 1 ∧ S.vs.length < 32 := by
  unfold vdrV at h
  split at h
  · split at h
    · rename_i hc
      cases h
      refine ⟨by simp, ?_, hc.2.2.2⟩
      simp only
      split <;> simp
    · cases h
  · cases h
theorem step_ok {n : Nat} {l : List UInt8} {S S' : PS} {ms ms' : List Mv} (h : stepV n l S ms = some (S', ms')) (hok : S.Ok ms) : S'.Ok ms' := by
  unfold stepV at h
  split at h
  · split at h
    · rename_i S1 h1
      cases h
      obtain ⟨e1, e2⟩ := headV_same h1
      exact ⟨by rw [e1]; exact hok.vs, by rw [e1, e2]; exact hok.byz, hok.ms⟩
    · cases h
  · split at h
    · split at h
      · rename_i S1 h1
        cases h
        split at h1
        · obtain ⟨q1, q2, q3⟩ := vdrV_ok h1
          exact ⟨by omega, by have := hok.byz; omega, hok.ms⟩
        · cases h1
      · cases h
    · split at h
      · split at h
        · rename_i hc
          cases h
          exact ⟨hok.vs, hok.byz, by simp; omega⟩
        · cases h
      · cases h
theorem parseV_end {S : PS} {ms : List Mv} {n : Nat} (h : S.vs ≠ []) : parseV [] S ms n = (some (S, ms), 0) := by
  unfold parseV
  rw [if_pos ⟨rfl, h⟩]
theorem parseV_cut {t : List UInt8} {S : PS} {ms : List Mv} {n : Nat} (h : ¬ (t = [] ∧ S.vs ≠ [])) (hc : (cut t [10]).2.2 = false) : parseV t S ms n = (none, n) := by
  unfold parseV
  rw [if_neg h, dif_neg (by rw [hc]; simp)]
theorem parseV_bad {t : List UInt8} {S : PS} {ms : List Mv} {n : Nat} (h : ¬ (t = [] ∧ S.vs ≠ [])) (hc : (cut t [10]).2.2 = true) (hs : stepV n (cut t [10]).1 S ms = none) : parseV t S ms n = (none, n) := by
  unfold parseV
  rw [if_neg h, dif_pos hc, hs]
theorem parseV_step {t : List UInt8} {S S' : PS} {ms ms' : List Mv} {n : Nat} (h : ¬ (t = [] ∧ S.vs ≠ [])) (hc : (cut t [10]).2.2 = true) (hs : stepV n (cut t [10]).1 S ms = some (S', ms')) : parseV t S ms n = parseV (cut t [10]).2.1 S' ms' (n + 1) := by
  conv => lhs; unfold parseV
  rw [if_neg h, dif_pos hc, hs]
end Go.Proofs.YtpmmfabendnhiaaDoor
