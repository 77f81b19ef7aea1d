/-
  Texts joined: PHead1, PHead2, PHead3, PHead4.
-/
import Derived.Test.YtpmmfabendnhiaaDoorJoin16
namespace Go.Proofs.YtpmmfabendnhiaaDoor
open Go.RowKit
open Go.Lib (strCells byteCells decDigits)
set_option linter.unusedVariables false
set_option linter.unusedSimpArgs false
set_option maxRecDepth 10000
set_option maxHeartbeats 12800000 in
theorem head1 (l : List UInt8) (hl : l.length ≤ 20000) {w : World} {rb : Nat} {c : Nat → Nat} {now : Nat} {vv vb vf vm : Value} (hb : Blk w rb 60 (rdCells c now vv vb vf vm 1)) :
    callE Tryd.prog 30 #[.pointer (some ⟨rb, 0, none⟩), .string (strOf l)] w (HeadQ w rb c now vv vb vf vm 1 l) := by
  have hsm := fun s (h : s ∈ wordsV l) => words_small h
  obtain ⟨x, ws, hws⟩ : ∃ x ws, wordsV l = x :: ws := by
    cases h : wordsV l with
    | nil => exact absurd h (go_ne l [])
    | cons x ws => exact ⟨x, ws, rfl⟩
  rw [hws] at hsm
  refine calls_E Tryd.func30 rfl rfl rfl (Nat.le_of_ble_eq_true rfl) ?_
  simp [go_sem, IntWalk.iteOmega, IntWalk.toNatUp]
  refine callE_of (words_any l (by omega) w) ?_
  rintro v1 w1 ⟨o1, k1⟩
  rw [hws] at o1
  obtain ⟨⟨A, cp, e1, hrd, hA, hc1, hc2⟩, A', c', e2⟩ := own_sl o1
  have hlt := o1.lt
  subst e1
  clear e2
  simp [go_sem, IntWalk.iteOmega, IntWalk.toNatUp]
  have H : HdAt w (w1.alloc (.cells #[.slice A (x :: ws).length cp, .bool false] 77)) rb w1.heap.size (x :: ws, false) (rdCells c now vv vb vf vm 1) :=
    ⟨⟨A, cp, Blk.self_ rfl, hrd.keep (ext_alloc _ _), hA, hc1, hc2, fun j hj => ⟨(hlt j (atB_row o1 hj)).1, atB_lt hrd hj⟩⟩, (hb.keep k1).keep (ext_alloc _ _), keeps_then (Keeps.of_ext k1) (Keeps.of_ext (ext_alloc _ _)), hb.lt, k1.size, fun s hs => by have := hsm s hs; omega⟩
  simp only [List.length_cons] at H
  push_cast at H ⊢
  have hsz1 : (w1.alloc (.cells #[.slice A (ws.length + 1) cp, .bool false] 77)).heap.size = w1.heap.size + 1 := by simp
  generalize w1.alloc (.cells #[.slice A (ws.length + 1) cp, .bool false] 77) = w2 at *
  rw [← hsz1]
  have hC : ∃ cs, cs = (#[.string ⟨#[112, 97, 114, 97, 109, 115]⟩, .string ⟨#[110, 111, 100, 101]⟩, .string ⟨#[103, 97, 116, 101]⟩, .string ⟨#[112, 101, 101, 114]⟩, .string ⟨#[119, 97, 105, 116]⟩, .string ⟨#[98, 101, 110, 99, 104]⟩, .string ⟨#[102, 105, 114, 115, 116]⟩, .string ⟨#[110, 111, 119]⟩] : Array Value) := ⟨_, rfl⟩
  obtain ⟨cs, hcs⟩ := hC
  rw [← hcs]
  have hW : Blk (w2.alloc (.cells cs 9)) w2.heap.size 9 cs := Blk.self_ rfl
  have H3 := H.more (ext_alloc w2 (.cells cs 9))
  have htb : w1.heap.size < w2.heap.size := by omega
  generalize w2.alloc (.cells cs 9) = w3 at *
  generalize w2.heap.size = nb at *
  generalize w1.heap.size = tb at *
  clear H hb k1 hrd hA hc1 hc2 hlt o1 hsm
  have hrt : rb < tb := by have := H3.lt; have := H3.lo; omega
  have hcn : cs[0]? = some (.string (strOf (hname 1))) := by rw [hcs]; rfl
  have h33 := rd_33 c now vv vb vf vm 1
  have hWd := hW.drew
  have H4 : HdAt w w3.drew rb tb (x :: ws, false) (rdCells c now vv vb vf vm 1) := H3.more (ext_drew w3)
  clear H3 hW
  refine W_flow (fun g => g ≠ tb) (.pure 0 (.pure 2 (.pure 3 (.pure 4 (.pure 5 (.pure 6 (.pure 7 (.pure 8 (.pure 9 (.one 1 (.pure 10 (.done)))))))))))) follows (by kernel_rfl) ?_
  have x33 := H4.rd.cell 33
  rw [h33] at x33
  have xn := hWd.cell 0
  rw [hcn] at xn
  have hne1 : rb ≠ tb := by omega
  have hne2 : nb ≠ tb := by omega
  have hlt1 := H4.rd.lt
  have hlt2 := hWd.lt
  simp [go_sem, IntWalk.iteOmega, IntWalk.toNatUp, x33, xn, hne1, hne2, hlt1, hlt2]
  refine ⟨hlt1, hlt2, ?_⟩
  refine callE_of (word_any H4.tak) ?_
  rintro _ w4 ⟨rfl, h5, k5⟩
  have hheld : heldE (fun g => ¬ g = tb) w3.drew w4 := ⟨k5.size, fun g hg hl => k5.block g hl hg⟩
  have H := H4.took h5 k5
  simp only [List.headD_cons, List.tail_cons, List.isEmpty_cons, Bool.or_false] at H ⊢
  clear H4 h5 k5 xn x33 hWd hlt1 hlt2
  by_cases hx : x = hname 1
  case neg =>
    have hb : ((strOf x).toList == (strOf (hname 1)).toList) = false := beq_eq_false_iff_ne.2 fun e => hx (str_ext.1 e)
    simp [go_sem, IntWalk.iteOmega, IntWalk.toNatUp, hheld, hb]
    exact ⟨x, ws, c, now, vf, hws, H.rd, H.keep, fun _ => rfl, fun h => absurd h hx⟩
  subst hx
  have hb : ((strOf (hname 1)).toList == (strOf (hname 1)).toList) = true := by simp
  have x33 := H.rd.cell 33
  rw [h33] at x33
  simp [go_sem, IntWalk.iteOmega, IntWalk.toNatUp, hheld, hb, x33]
  clear x33 hheld hb hne2 hcn hcs hsz1 htb
  refine callE_of H.num ?_
  rintro _ w5 ⟨rfl, H⟩
  simp [go_sem, IntWalk.iteOmega, IntWalk.toNatUp, ]
  refine callE_of H.num ?_
  rintro _ w6 ⟨rfl, H⟩
  simp [go_sem, IntWalk.iteOmega, IntWalk.toNatUp, ]
  refine callE_of H.num ?_
  rintro _ w7 ⟨rfl, H⟩
  simp [go_sem, IntWalk.iteOmega, IntWalk.toNatUp, ]
  refine callE_of H.num ?_
  rintro _ w8 ⟨rfl, H⟩
  have hk1 : HdAt w _ rb tb (dropT 4 ws, badN 4 ws false) _ := H
  obtain ⟨A, cp, hbt, -⟩ := hk1.tak
  simp only at hbt
  have hbc := hbt.cell
  have x0 := H.rd.cell 0
  rw [rd_lo c now vv vb vf vm 1 ⟨0, by omega⟩] at x0
  have x1 := H.rd.cell 1
  rw [rd_lo c now vv vb vf vm 1 ⟨1, by omega⟩] at x1
  have x2 := H.rd.cell 2
  rw [rd_lo c now vv vb vf vm 1 ⟨2, by omega⟩] at x2
  have x3 := H.rd.cell 3
  rw [rd_lo c now vv vb vf vm 1 ⟨3, by omega⟩] at x3
  have hf := H.rd.frozen
  simp [go_sem, IntWalk.iteOmega, IntWalk.toNatUp, x0, x1, x2, x3, hf, seg4]
  have H := H.set 0 (by omega) (nG ws 0)
  have H := H.set 1 (by omega) (nG ws 1)
  have H := H.set 2 (by omega) (nG ws 2)
  have H := H.set 3 (by omega) (nG ws 3)
  have H : HdAt w _ rb tb (dropT 4 ws, badN 4 ws false) (rdCells (upd c (hoff 1) (hcnt 1) ws) now vv vb vf vm 1) := H
  have hfin := okN_bad 4 ws false
  simp only [Bool.not_false, Bool.true_and] at hfin
  have Q : ∀ v, v = .bool (okN 4 ws) → HeadQ w rb c now vv vb vf vm 1 l v _ := fun v hv => ⟨hname 1, ws, _, _, _, hws, H.rd, H.keep, fun h => absurd rfl h, fun _ => ⟨fun h => ⟨hv, rfl, rfl, rfl⟩, fun h => absurd h (by omega), fun h => absurd h (by omega)⟩⟩
  rw [hfin] at Q
  generalize badN 4 ws false = bd at *
  generalize dropT 4 ws = R at *
  clear hf
  cases bd with
  | true =>
    simp [go_sem, IntWalk.iteOmega, IntWalk.toNatUp, hbc]
    exact Q _ rfl
  | false =>
    simp [go_sem, IntWalk.iteOmega, IntWalk.toNatUp, hbc]
    refine Q _ ?_
    cases R with
    | nil => rfl
    | cons y r => simp; omega
end Go.Proofs.YtpmmfabendnhiaaDoor
namespace Go.Proofs.YtpmmfabendnhiaaDoor
open Go.RowKit
open Go.Lib (strCells byteCells decDigits)
set_option linter.unusedVariables false
set_option linter.unusedSimpArgs false
set_option maxRecDepth 10000
set_option maxHeartbeats 12800000 in
theorem head2 (l : List UInt8) (hl : l.length ≤ 20000) {w : World} {rb : Nat} {c : Nat → Nat} {now : Nat} {vv vb vf vm : Value} (hb : Blk w rb 60 (rdCells c now vv vb vf vm 2)) :
    callE Tryd.prog 30 #[.pointer (some ⟨rb, 0, none⟩), .string (strOf l)] w (HeadQ w rb c now vv vb vf vm 2 l) := by
  have hsm := fun s (h : s ∈ wordsV l) => words_small h
  obtain ⟨x, ws, hws⟩ : ∃ x ws, wordsV l = x :: ws := by
    cases h : wordsV l with
    | nil => exact absurd h (go_ne l [])
    | cons x ws => exact ⟨x, ws, rfl⟩
  rw [hws] at hsm
  refine calls_E Tryd.func30 rfl rfl rfl (Nat.le_of_ble_eq_true rfl) ?_
  simp [go_sem, IntWalk.iteOmega, IntWalk.toNatUp]
  refine callE_of (words_any l (by omega) w) ?_
  rintro v1 w1 ⟨o1, k1⟩
  rw [hws] at o1
  obtain ⟨⟨A, cp, e1, hrd, hA, hc1, hc2⟩, A', c', e2⟩ := own_sl o1
  have hlt := o1.lt
  subst e1
  clear e2
  simp [go_sem, IntWalk.iteOmega, IntWalk.toNatUp]
  have H : HdAt w (w1.alloc (.cells #[.slice A (x :: ws).length cp, .bool false] 77)) rb w1.heap.size (x :: ws, false) (rdCells c now vv vb vf vm 2) :=
    ⟨⟨A, cp, Blk.self_ rfl, hrd.keep (ext_alloc _ _), hA, hc1, hc2, fun j hj => ⟨(hlt j (atB_row o1 hj)).1, atB_lt hrd hj⟩⟩, (hb.keep k1).keep (ext_alloc _ _), keeps_then (Keeps.of_ext k1) (Keeps.of_ext (ext_alloc _ _)), hb.lt, k1.size, fun s hs => by have := hsm s hs; omega⟩
  simp only [List.length_cons] at H
  push_cast at H ⊢
  have hsz1 : (w1.alloc (.cells #[.slice A (ws.length + 1) cp, .bool false] 77)).heap.size = w1.heap.size + 1 := by simp
  generalize w1.alloc (.cells #[.slice A (ws.length + 1) cp, .bool false] 77) = w2 at *
  rw [← hsz1]
  have hC : ∃ cs, cs = (#[.string ⟨#[112, 97, 114, 97, 109, 115]⟩, .string ⟨#[110, 111, 100, 101]⟩, .string ⟨#[103, 97, 116, 101]⟩, .string ⟨#[112, 101, 101, 114]⟩, .string ⟨#[119, 97, 105, 116]⟩, .string ⟨#[98, 101, 110, 99, 104]⟩, .string ⟨#[102, 105, 114, 115, 116]⟩, .string ⟨#[110, 111, 119]⟩] : Array Value) := ⟨_, rfl⟩
  obtain ⟨cs, hcs⟩ := hC
  rw [← hcs]
  have hW : Blk (w2.alloc (.cells cs 9)) w2.heap.size 9 cs := Blk.self_ rfl
  have H3 := H.more (ext_alloc w2 (.cells cs 9))
  have htb : w1.heap.size < w2.heap.size := by omega
  generalize w2.alloc (.cells cs 9) = w3 at *
  generalize w2.heap.size = nb at *
  generalize w1.heap.size = tb at *
  clear H hb k1 hrd hA hc1 hc2 hlt o1 hsm
  have hrt : rb < tb := by have := H3.lt; have := H3.lo; omega
  have hcn : cs[1]? = some (.string (strOf (hname 2))) := by rw [hcs]; rfl
  have h33 := rd_33 c now vv vb vf vm 2
  have hWd := hW.drew
  have H4 : HdAt w w3.drew rb tb (x :: ws, false) (rdCells c now vv vb vf vm 2) := H3.more (ext_drew w3)
  clear H3 hW
  refine W_flow (fun g => g ≠ tb) (.pure 0 (.pure 2 (.pure 3 (.pure 4 (.pure 5 (.pure 6 (.pure 7 (.pure 8 (.pure 9 (.one 1 (.pure 10 (.done)))))))))))) follows (by kernel_rfl) ?_
  have x33 := H4.rd.cell 33
  rw [h33] at x33
  have xn := hWd.cell 1
  rw [hcn] at xn
  have hne1 : rb ≠ tb := by omega
  have hne2 : nb ≠ tb := by omega
  have hlt1 := H4.rd.lt
  have hlt2 := hWd.lt
  simp [go_sem, IntWalk.iteOmega, IntWalk.toNatUp, x33, xn, hne1, hne2, hlt1, hlt2]
  refine ⟨hlt1, hlt2, ?_⟩
  refine callE_of (word_any H4.tak) ?_
  rintro _ w4 ⟨rfl, h5, k5⟩
  have hheld : heldE (fun g => ¬ g = tb) w3.drew w4 := ⟨k5.size, fun g hg hl => k5.block g hl hg⟩
  have H := H4.took h5 k5
  simp only [List.headD_cons, List.tail_cons, List.isEmpty_cons, Bool.or_false] at H ⊢
  clear H4 h5 k5 xn x33 hWd hlt1 hlt2
  by_cases hx : x = hname 2
  case neg =>
    have hb : ((strOf x).toList == (strOf (hname 2)).toList) = false := beq_eq_false_iff_ne.2 fun e => hx (str_ext.1 e)
    simp [go_sem, IntWalk.iteOmega, IntWalk.toNatUp, hheld, hb]
    exact ⟨x, ws, c, now, vf, hws, H.rd, H.keep, fun _ => rfl, fun h => absurd h hx⟩
  subst hx
  have hb : ((strOf (hname 2)).toList == (strOf (hname 2)).toList) = true := by simp
  have x33 := H.rd.cell 33
  rw [h33] at x33
  simp [go_sem, IntWalk.iteOmega, IntWalk.toNatUp, hheld, hb, x33]
  clear x33 hheld hb hne2 hcn hcs hsz1 htb
  refine callE_of H.num ?_
  rintro _ w5 ⟨rfl, H⟩
  have x4 := H.rd.cell 4
  rw [rd_lo c now vv vb vf vm 2 ⟨4, by omega⟩] at x4
  have hf := H.rd.frozen
  simp [go_sem, IntWalk.iteOmega, IntWalk.toNatUp, x4, hf]
  have H := H.set 4 (by omega) (nG ws 0)
  clear x4 hf
  have H := H.more (ext_drew _)
  simp only at H
  rw [show nG ws 0 = (numT ws).getD 0 from rfl] at H
  generalize w5.setCell ⟨rb, 4, none⟩ (.int .i64 ((numT ws).getD 0 : Nat)) = w6 at *
  refine W_flow (fun _ => True) (.pure 0 (.pure 1 (.pure 2 (.pure 3 (.pure 4 (.pure 5 (.pure 6 (.pure 7 (.pure 8 (.pure 9 (.pure 10 (.pure 11 (.pure 12 (.pure 13 (.pure 14 (.pure 15 (.pure 16 (.pure 17 (.pure 20 (.one 18 (.pure 19 (.done)))))))))))))))))))))) follows (by kernel_rfl) ?_
  simp [go_sem, IntWalk.iteOmega, IntWalk.toNatUp]
  refine ⟨(held_refl (fun _ => True) w6.drew).alloc _, ?_⟩
  have hP : Blk ((w6.alloc (.cells #[.pointer (some ⟨rb, 5, none⟩), .pointer (some ⟨rb, 6, none⟩), .pointer (some ⟨rb, 7, none⟩), .pointer (some ⟨rb, 8, none⟩), .pointer (some ⟨rb, 9, none⟩), .pointer (some ⟨rb, 10, none⟩)] 110)).drew) w6.drew.heap.size 110 #[.pointer (some ⟨rb, 5, none⟩), .pointer (some ⟨rb, 6, none⟩), .pointer (some ⟨rb, 7, none⟩), .pointer (some ⟨rb, 8, none⟩), .pointer (some ⟨rb, 9, none⟩), .pointer (some ⟨rb, 10, none⟩)] := Blk.self_ rfl
  have hpt : tb < w6.drew.heap.size := by obtain ⟨v, hv⟩ := H.tak.blk; exact hv.lt
  have H := H.more (show Below w6.drew.heap.size w6.drew ((w6.alloc (.cells #[.pointer (some ⟨rb, 5, none⟩), .pointer (some ⟨rb, 6, none⟩), .pointer (some ⟨rb, 7, none⟩), .pointer (some ⟨rb, 8, none⟩), .pointer (some ⟨rb, 9, none⟩), .pointer (some ⟨rb, 10, none⟩)] 110)).drew) from ext_alloc w6.drew _)
  rw [show w6.heap.size = w6.drew.heap.size from rfl]
  generalize (w6.alloc (.cells #[.pointer (some ⟨rb, 5, none⟩), .pointer (some ⟨rb, 6, none⟩), .pointer (some ⟨rb, 7, none⟩), .pointer (some ⟨rb, 8, none⟩), .pointer (some ⟨rb, 9, none⟩), .pointer (some ⟨rb, 10, none⟩)] 110)).drew = w7 at *
  generalize w6.drew.heap.size = pb at *
  have hpb : pb ≠ tb := by omega
  have hpr : pb ≠ rb := by omega
  have hpl := hP.lt
  refine W_rounds [(), (), (), (), (), (), ()] ?_
  simp [go_sem, IntWalk.iteOmega, IntWalk.toNatUp, hP.cell, hpl]
  refine callE_of H.num2 ?_
  rintro _ w8 ⟨rfl, H, k8⟩
  have hP := k8.blk hP hpb
  have x5 := H.rd.cell 5
  rw [rd_lo _ now vv vb vf vm 2 ⟨5, by omega⟩] at x5
  have hf := H.rd.frozen
  have H := H.set 5 (by omega) (nG ws 1)
  rw [show nG ws 1 = (numT (dropT 1 ws)).getD 0 from rfl] at H
  have hP := hP.farCell hpr (o := 5) (.int .i64 ((numT (dropT 1 ws)).getD 0 : Nat))
  simp only [dropT] at H hP
  simp [go_sem, IntWalk.iteOmega, IntWalk.toNatUp, x5, hf, hP.cell]
  clear x5 hf k8
  generalize w8.setCell ⟨rb, 5, none⟩ _ = v8 at *
  refine callE_of H.num2 ?_
  rintro _ w9 ⟨rfl, H, k9⟩
  have hP := k9.blk hP hpb
  have x6 := H.rd.cell 6
  rw [rd_lo _ now vv vb vf vm 2 ⟨6, by omega⟩] at x6
  have hf := H.rd.frozen
  have H := H.set 6 (by omega) (nG ws 2)
  rw [show nG ws 2 = (numT (dropT 2 ws)).getD 0 from rfl] at H
  have hP := hP.farCell hpr (o := 6) (.int .i64 ((numT (dropT 2 ws)).getD 0 : Nat))
  simp only [dropT] at H hP
  simp [go_sem, IntWalk.iteOmega, IntWalk.toNatUp, x6, hf, hP.cell]
  clear x6 hf k9
  generalize w9.setCell ⟨rb, 6, none⟩ _ = v9 at *
  refine callE_of H.num2 ?_
  rintro _ w10 ⟨rfl, H, k10⟩
  have hP := k10.blk hP hpb
  have x7 := H.rd.cell 7
  rw [rd_lo _ now vv vb vf vm 2 ⟨7, by omega⟩] at x7
  have hf := H.rd.frozen
  have H := H.set 7 (by omega) (nG ws 3)
  rw [show nG ws 3 = (numT (dropT 3 ws)).getD 0 from rfl] at H
  have hP := hP.farCell hpr (o := 7) (.int .i64 ((numT (dropT 3 ws)).getD 0 : Nat))
  simp only [dropT] at H hP
  simp [go_sem, IntWalk.iteOmega, IntWalk.toNatUp, x7, hf, hP.cell]
  clear x7 hf k10
  generalize w10.setCell ⟨rb, 7, none⟩ _ = v10 at *
  refine callE_of H.num2 ?_
  rintro _ w11 ⟨rfl, H, k11⟩
  have hP := k11.blk hP hpb
  have x8 := H.rd.cell 8
  rw [rd_lo _ now vv vb vf vm 2 ⟨8, by omega⟩] at x8
  have hf := H.rd.frozen
  have H := H.set 8 (by omega) (nG ws 4)
  rw [show nG ws 4 = (numT (dropT 4 ws)).getD 0 from rfl] at H
  have hP := hP.farCell hpr (o := 8) (.int .i64 ((numT (dropT 4 ws)).getD 0 : Nat))
  simp only [dropT] at H hP
  simp [go_sem, IntWalk.iteOmega, IntWalk.toNatUp, x8, hf, hP.cell]
  clear x8 hf k11
  generalize w11.setCell ⟨rb, 8, none⟩ _ = v11 at *
  refine callE_of H.num2 ?_
  rintro _ w12 ⟨rfl, H, k12⟩
  have hP := k12.blk hP hpb
  have x9 := H.rd.cell 9
  rw [rd_lo _ now vv vb vf vm 2 ⟨9, by omega⟩] at x9
  have hf := H.rd.frozen
  have H := H.set 9 (by omega) (nG ws 5)
  rw [show nG ws 5 = (numT (dropT 5 ws)).getD 0 from rfl] at H
  have hP := hP.farCell hpr (o := 9) (.int .i64 ((numT (dropT 5 ws)).getD 0 : Nat))
  simp only [dropT] at H hP
  simp [go_sem, IntWalk.iteOmega, IntWalk.toNatUp, x9, hf, hP.cell]
  clear x9 hf k12
  generalize w12.setCell ⟨rb, 9, none⟩ _ = v12 at *
  refine callE_of H.num2 ?_
  rintro _ w13 ⟨rfl, H, k13⟩
  have hP := k13.blk hP hpb
  have x10 := H.rd.cell 10
  rw [rd_lo _ now vv vb vf vm 2 ⟨10, by omega⟩] at x10
  have hf := H.rd.frozen
  have H := H.set 10 (by omega) (nG ws 6)
  rw [show nG ws 6 = (numT (dropT 6 ws)).getD 0 from rfl] at H
  have hP := hP.farCell hpr (o := 10) (.int .i64 ((numT (dropT 6 ws)).getD 0 : Nat))
  simp only [dropT] at H hP
  simp [go_sem, IntWalk.iteOmega, IntWalk.toNatUp, x10, hf, hP.cell]
  clear x10 hf k13
  generalize w13.setCell ⟨rb, 10, none⟩ _ = v13 at *
  refine callE_of H.num ?_
  rintro _ w15 ⟨rfl, H⟩
  have hk1 : HdAt w _ rb tb (dropT 8 ws, badN 8 ws false) _ := H
  obtain ⟨A, cp, hbt, -⟩ := hk1.tak
  simp only at hbt
  have hbc := hbt.cell
  have x11 := H.rd.cell 11
  rw [rd_lo _ now vv vb vf vm 2 ⟨11, by omega⟩] at x11
  have hf := H.rd.frozen
  simp [go_sem, IntWalk.iteOmega, IntWalk.toNatUp, x11, hf]
  have H := H.set 11 (by omega) (nG ws 7)
  have H : HdAt w _ rb tb (dropT 8 ws, badN 8 ws false) (rdCells (upd c (hoff 2) (hcnt 2) ws) now vv vb vf vm 2) := H
  have hfin := okN_bad 8 ws false
  simp only [Bool.not_false, Bool.true_and] at hfin
  have Q : ∀ v, v = .bool (okN 8 ws) → HeadQ w rb c now vv vb vf vm 2 l v _ := fun v hv => ⟨hname 2, ws, _, _, _, hws, H.rd, H.keep, fun h => absurd rfl h, fun _ => ⟨fun h => ⟨hv, rfl, rfl, rfl⟩, fun h => absurd h (by omega), fun h => absurd h (by omega)⟩⟩
  rw [hfin] at Q
  generalize badN 8 ws false = bd at *
  generalize dropT 8 ws = R at *
  clear hf
  cases bd with
  | true =>
    simp [go_sem, IntWalk.iteOmega, IntWalk.toNatUp, hbc]
    exact Q _ rfl
  | false =>
    simp [go_sem, IntWalk.iteOmega, IntWalk.toNatUp, hbc]
    refine Q _ ?_
    cases R with
    | nil => rfl
    | cons y r => simp; omega
end Go.Proofs.YtpmmfabendnhiaaDoor
namespace Go.Proofs.YtpmmfabendnhiaaDoor
open Go.RowKit
open Go.Lib (strCells byteCells decDigits)
set_option linter.unusedVariables false
set_option linter.unusedSimpArgs false
set_option maxRecDepth 10000
set_option maxHeartbeats 12800000 in
theorem head3 (l : List UInt8) (hl : l.length ≤ 20000) {w : World} {rb : Nat} {c : Nat → Nat} {now : Nat} {vv vb vf vm : Value} (hb : Blk w rb 60 (rdCells c now vv vb vf vm 3)) :
    callE Tryd.prog 30 #[.pointer (some ⟨rb, 0, none⟩), .string (strOf l)] w (HeadQ w rb c now vv vb vf vm 3 l) := by
  have hsm := fun s (h : s ∈ wordsV l) => words_small h
  obtain ⟨x, ws, hws⟩ : ∃ x ws, wordsV l = x :: ws := by
    cases h : wordsV l with
    | nil => exact absurd h (go_ne l [])
    | cons x ws => exact ⟨x, ws, rfl⟩
  rw [hws] at hsm
  refine calls_E Tryd.func30 rfl rfl rfl (Nat.le_of_ble_eq_true rfl) ?_
  simp [go_sem, IntWalk.iteOmega, IntWalk.toNatUp]
  refine callE_of (words_any l (by omega) w) ?_
  rintro v1 w1 ⟨o1, k1⟩
  rw [hws] at o1
  obtain ⟨⟨A, cp, e1, hrd, hA, hc1, hc2⟩, A', c', e2⟩ := own_sl o1
  have hlt := o1.lt
  subst e1
  clear e2
  simp [go_sem, IntWalk.iteOmega, IntWalk.toNatUp]
  have H : HdAt w (w1.alloc (.cells #[.slice A (x :: ws).length cp, .bool false] 77)) rb w1.heap.size (x :: ws, false) (rdCells c now vv vb vf vm 3) :=
    ⟨⟨A, cp, Blk.self_ rfl, hrd.keep (ext_alloc _ _), hA, hc1, hc2, fun j hj => ⟨(hlt j (atB_row o1 hj)).1, atB_lt hrd hj⟩⟩, (hb.keep k1).keep (ext_alloc _ _), keeps_then (Keeps.of_ext k1) (Keeps.of_ext (ext_alloc _ _)), hb.lt, k1.size, fun s hs => by have := hsm s hs; omega⟩
  simp only [List.length_cons] at H
  push_cast at H ⊢
  have hsz1 : (w1.alloc (.cells #[.slice A (ws.length + 1) cp, .bool false] 77)).heap.size = w1.heap.size + 1 := by simp
  generalize w1.alloc (.cells #[.slice A (ws.length + 1) cp, .bool false] 77) = w2 at *
  rw [← hsz1]
  have hC : ∃ cs, cs = (#[.string ⟨#[112, 97, 114, 97, 109, 115]⟩, .string ⟨#[110, 111, 100, 101]⟩, .string ⟨#[103, 97, 116, 101]⟩, .string ⟨#[112, 101, 101, 114]⟩, .string ⟨#[119, 97, 105, 116]⟩, .string ⟨#[98, 101, 110, 99, 104]⟩, .string ⟨#[102, 105, 114, 115, 116]⟩, .string ⟨#[110, 111, 119]⟩] : Array Value) := ⟨_, rfl⟩
  obtain ⟨cs, hcs⟩ := hC
  rw [← hcs]
  have hW : Blk (w2.alloc (.cells cs 9)) w2.heap.size 9 cs := Blk.self_ rfl
  have H3 := H.more (ext_alloc w2 (.cells cs 9))
  have htb : w1.heap.size < w2.heap.size := by omega
  generalize w2.alloc (.cells cs 9) = w3 at *
  generalize w2.heap.size = nb at *
  generalize w1.heap.size = tb at *
  clear H hb k1 hrd hA hc1 hc2 hlt o1 hsm
  have hrt : rb < tb := by have := H3.lt; have := H3.lo; omega
  have hcn : cs[2]? = some (.string (strOf (hname 3))) := by rw [hcs]; rfl
  have h33 := rd_33 c now vv vb vf vm 3
  have hWd := hW.drew
  have H4 : HdAt w w3.drew rb tb (x :: ws, false) (rdCells c now vv vb vf vm 3) := H3.more (ext_drew w3)
  clear H3 hW
  refine W_flow (fun g => g ≠ tb) (.pure 0 (.pure 2 (.pure 3 (.pure 4 (.pure 5 (.pure 6 (.pure 7 (.pure 8 (.pure 9 (.one 1 (.pure 10 (.done)))))))))))) follows (by kernel_rfl) ?_
  have x33 := H4.rd.cell 33
  rw [h33] at x33
  have xn := hWd.cell 2
  rw [hcn] at xn
  have hne1 : rb ≠ tb := by omega
  have hne2 : nb ≠ tb := by omega
  have hlt1 := H4.rd.lt
  have hlt2 := hWd.lt
  simp [go_sem, IntWalk.iteOmega, IntWalk.toNatUp, x33, xn, hne1, hne2, hlt1, hlt2]
  refine ⟨hlt1, hlt2, ?_⟩
  refine callE_of (word_any H4.tak) ?_
  rintro _ w4 ⟨rfl, h5, k5⟩
  have hheld : heldE (fun g => ¬ g = tb) w3.drew w4 := ⟨k5.size, fun g hg hl => k5.block g hl hg⟩
  have H := H4.took h5 k5
  simp only [List.headD_cons, List.tail_cons, List.isEmpty_cons, Bool.or_false] at H ⊢
  clear H4 h5 k5 xn x33 hWd hlt1 hlt2
  by_cases hx : x = hname 3
  case neg =>
    have hb : ((strOf x).toList == (strOf (hname 3)).toList) = false := beq_eq_false_iff_ne.2 fun e => hx (str_ext.1 e)
    simp [go_sem, IntWalk.iteOmega, IntWalk.toNatUp, hheld, hb]
    exact ⟨x, ws, c, now, vf, hws, H.rd, H.keep, fun _ => rfl, fun h => absurd h hx⟩
  subst hx
  have hb : ((strOf (hname 3)).toList == (strOf (hname 3)).toList) = true := by simp
  have x33 := H.rd.cell 33
  rw [h33] at x33
  simp [go_sem, IntWalk.iteOmega, IntWalk.toNatUp, hheld, hb, x33]
  clear x33 hheld hb hne2 hcn hcs hsz1 htb
  refine callE_of H.num ?_
  rintro _ w5 ⟨rfl, H⟩
  simp [go_sem, IntWalk.iteOmega, IntWalk.toNatUp, ]
  refine callE_of H.num ?_
  rintro _ w6 ⟨rfl, H⟩
  simp [go_sem, IntWalk.iteOmega, IntWalk.toNatUp, ]
  refine callE_of H.num ?_
  rintro _ w7 ⟨rfl, H⟩
  have x12 := H.rd.cell 12
  rw [rd_lo c now vv vb vf vm 3 ⟨12, by omega⟩] at x12
  have x13 := H.rd.cell 13
  rw [rd_lo c now vv vb vf vm 3 ⟨13, by omega⟩] at x13
  have x14 := H.rd.cell 14
  rw [rd_lo c now vv vb vf vm 3 ⟨14, by omega⟩] at x14
  have hf := H.rd.frozen
  simp [go_sem, IntWalk.iteOmega, IntWalk.toNatUp, x12, x13, x14, hf]
  have H := H.set 12 (by omega) (nG ws 0)
  have H := H.set 13 (by omega) (nG ws 1)
  have H := H.set 14 (by omega) (nG ws 2)
  clear x12 x13 x14 hf
  refine callE_of H.num ?_
  rintro _ w8 ⟨rfl, H⟩
  simp [go_sem, IntWalk.iteOmega, IntWalk.toNatUp, ]
  refine callE_of H.num ?_
  rintro _ w9 ⟨rfl, H⟩
  have hk1 : HdAt w _ rb tb (dropT 5 ws, badN 5 ws false) _ := H
  obtain ⟨A, cp, hbt, -⟩ := hk1.tak
  simp only at hbt
  have hbc := hbt.cell
  have x15 := H.rd.cell 15
  rw [rd_lo _ now vv vb vf vm 3 ⟨15, by omega⟩] at x15
  have x16 := H.rd.cell 16
  rw [rd_lo _ now vv vb vf vm 3 ⟨16, by omega⟩] at x16
  have hf := H.rd.frozen
  simp [go_sem, IntWalk.iteOmega, IntWalk.toNatUp, x15, x16, hf]
  have H := H.set 15 (by omega) (nG ws 3)
  have H := H.set 16 (by omega) (nG ws 4)
  have H : HdAt w _ rb tb (dropT 5 ws, badN 5 ws false) (rdCells (upd c (hoff 3) (hcnt 3) ws) now vv vb vf vm 3) := H
  have hfin := okN_bad 5 ws false
  simp only [Bool.not_false, Bool.true_and] at hfin
  have Q : ∀ v, v = .bool (okN 5 ws) → HeadQ w rb c now vv vb vf vm 3 l v _ := fun v hv => ⟨hname 3, ws, _, _, _, hws, H.rd, H.keep, fun h => absurd rfl h, fun _ => ⟨fun h => ⟨hv, rfl, rfl, rfl⟩, fun h => absurd h (by omega), fun h => absurd h (by omega)⟩⟩
  rw [hfin] at Q
  generalize badN 5 ws false = bd at *
  generalize dropT 5 ws = R at *
  clear hf
  cases bd with
  | true =>
    simp [go_sem, IntWalk.iteOmega, IntWalk.toNatUp, hbc]
    exact Q _ rfl
  | false =>
    simp [go_sem, IntWalk.iteOmega, IntWalk.toNatUp, hbc]
    refine Q _ ?_
    cases R with
    | nil => rfl
    | cons y r => simp; omega
end Go.Proofs.YtpmmfabendnhiaaDoor
namespace Go.Proofs.YtpmmfabendnhiaaDoor
open Go.RowKit
open Go.Lib (strCells byteCells decDigits)
set_option linter.unusedVariables false
set_option linter.unusedSimpArgs false
set_option maxRecDepth 10000
set_option maxHeartbeats 12800000 in
theorem head4 (l : List UInt8) (hl : l.length ≤ 20000) {w : World} {rb : Nat} {c : Nat → Nat} {now : Nat} {vv vb vf vm : Value} (hb : Blk w rb 60 (rdCells c now vv vb vf vm 4)) :
    callE Tryd.prog 30 #[.pointer (some ⟨rb, 0, none⟩), .string (strOf l)] w (HeadQ w rb c now vv vb vf vm 4 l) := by
  have hsm := fun s (h : s ∈ wordsV l) => words_small h
  obtain ⟨x, ws, hws⟩ : ∃ x ws, wordsV l = x :: ws := by
    cases h : wordsV l with
    | nil => exact absurd h (go_ne l [])
    | cons x ws => exact ⟨x, ws, rfl⟩
  rw [hws] at hsm
  refine calls_E Tryd.func30 rfl rfl rfl (Nat.le_of_ble_eq_true rfl) ?_
  simp [go_sem, IntWalk.iteOmega, IntWalk.toNatUp]
  refine callE_of (words_any l (by omega) w) ?_
  rintro v1 w1 ⟨o1, k1⟩
  rw [hws] at o1
  obtain ⟨⟨A, cp, e1, hrd, hA, hc1, hc2⟩, A', c', e2⟩ := own_sl o1
  have hlt := o1.lt
  subst e1
  clear e2
  simp [go_sem, IntWalk.iteOmega, IntWalk.toNatUp]
  have H : HdAt w (w1.alloc (.cells #[.slice A (x :: ws).length cp, .bool false] 77)) rb w1.heap.size (x :: ws, false) (rdCells c now vv vb vf vm 4) :=
    ⟨⟨A, cp, Blk.self_ rfl, hrd.keep (ext_alloc _ _), hA, hc1, hc2, fun j hj => ⟨(hlt j (atB_row o1 hj)).1, atB_lt hrd hj⟩⟩, (hb.keep k1).keep (ext_alloc _ _), keeps_then (Keeps.of_ext k1) (Keeps.of_ext (ext_alloc _ _)), hb.lt, k1.size, fun s hs => by have := hsm s hs; omega⟩
  simp only [List.length_cons] at H
  push_cast at H ⊢
  have hsz1 : (w1.alloc (.cells #[.slice A (ws.length + 1) cp, .bool false] 77)).heap.size = w1.heap.size + 1 := by simp
  generalize w1.alloc (.cells #[.slice A (ws.length + 1) cp, .bool false] 77) = w2 at *
  rw [← hsz1]
  have hC : ∃ cs, cs = (#[.string ⟨#[112, 97, 114, 97, 109, 115]⟩, .string ⟨#[110, 111, 100, 101]⟩, .string ⟨#[103, 97, 116, 101]⟩, .string ⟨#[112, 101, 101, 114]⟩, .string ⟨#[119, 97, 105, 116]⟩, .string ⟨#[98, 101, 110, 99, 104]⟩, .string ⟨#[102, 105, 114, 115, 116]⟩, .string ⟨#[110, 111, 119]⟩] : Array Value) := ⟨_, rfl⟩
  obtain ⟨cs, hcs⟩ := hC
  rw [← hcs]
  have hW : Blk (w2.alloc (.cells cs 9)) w2.heap.size 9 cs := Blk.self_ rfl
  have H3 := H.more (ext_alloc w2 (.cells cs 9))
  have htb : w1.heap.size < w2.heap.size := by omega
  generalize w2.alloc (.cells cs 9) = w3 at *
  generalize w2.heap.size = nb at *
  generalize w1.heap.size = tb at *
  clear H hb k1 hrd hA hc1 hc2 hlt o1 hsm
  have hrt : rb < tb := by have := H3.lt; have := H3.lo; omega
  have hcn : cs[3]? = some (.string (strOf (hname 4))) := by rw [hcs]; rfl
  have h33 := rd_33 c now vv vb vf vm 4
  have hWd := hW.drew
  have H4 : HdAt w w3.drew rb tb (x :: ws, false) (rdCells c now vv vb vf vm 4) := H3.more (ext_drew w3)
  clear H3 hW
  refine W_flow (fun g => g ≠ tb) (.pure 0 (.pure 2 (.pure 3 (.pure 4 (.pure 5 (.pure 6 (.pure 7 (.pure 8 (.pure 9 (.one 1 (.pure 10 (.done)))))))))))) follows (by kernel_rfl) ?_
  have x33 := H4.rd.cell 33
  rw [h33] at x33
  have xn := hWd.cell 3
  rw [hcn] at xn
  have hne1 : rb ≠ tb := by omega
  have hne2 : nb ≠ tb := by omega
  have hlt1 := H4.rd.lt
  have hlt2 := hWd.lt
  simp [go_sem, IntWalk.iteOmega, IntWalk.toNatUp, x33, xn, hne1, hne2, hlt1, hlt2]
  refine ⟨hlt1, hlt2, ?_⟩
  refine callE_of (word_any H4.tak) ?_
  rintro _ w4 ⟨rfl, h5, k5⟩
  have hheld : heldE (fun g => ¬ g = tb) w3.drew w4 := ⟨k5.size, fun g hg hl => k5.block g hl hg⟩
  have H := H4.took h5 k5
  simp only [List.headD_cons, List.tail_cons, List.isEmpty_cons, Bool.or_false] at H ⊢
  clear H4 h5 k5 xn x33 hWd hlt1 hlt2
  by_cases hx : x = hname 4
  case neg =>
    have hb : ((strOf x).toList == (strOf (hname 4)).toList) = false := beq_eq_false_iff_ne.2 fun e => hx (str_ext.1 e)
    simp [go_sem, IntWalk.iteOmega, IntWalk.toNatUp, hheld, hb]
    exact ⟨x, ws, c, now, vf, hws, H.rd, H.keep, fun _ => rfl, fun h => absurd h hx⟩
  subst hx
  have hb : ((strOf (hname 4)).toList == (strOf (hname 4)).toList) = true := by simp
  have x33 := H.rd.cell 33
  rw [h33] at x33
  simp [go_sem, IntWalk.iteOmega, IntWalk.toNatUp, hheld, hb, x33]
  clear x33 hheld hb hne2 hcn hcs hsz1 htb
  refine callE_of H.num ?_
  rintro _ w5 ⟨rfl, H⟩
  have hk1 : HdAt w _ rb tb (dropT 1 ws, badN 1 ws false) _ := H
  obtain ⟨A, cp, hbt, -⟩ := hk1.tak
  simp only at hbt
  have hbc := hbt.cell
  have x17 := H.rd.cell 17
  rw [rd_lo c now vv vb vf vm 4 ⟨17, by omega⟩] at x17
  have hf := H.rd.frozen
  simp [go_sem, IntWalk.iteOmega, IntWalk.toNatUp, x17, hf]
  have H := H.set 17 (by omega) (nG ws 0)
  have H : HdAt w _ rb tb (dropT 1 ws, badN 1 ws false) (rdCells (upd c (hoff 4) (hcnt 4) ws) now vv vb vf vm 4) := H
  have hfin := okN_bad 1 ws false
  simp only [Bool.not_false, Bool.true_and] at hfin
  have Q : ∀ v, v = .bool (okN 1 ws) → HeadQ w rb c now vv vb vf vm 4 l v _ := fun v hv => ⟨hname 4, ws, _, _, _, hws, H.rd, H.keep, fun h => absurd rfl h, fun _ => ⟨fun h => ⟨hv, rfl, rfl, rfl⟩, fun h => absurd h (by omega), fun h => absurd h (by omega)⟩⟩
  rw [hfin] at Q
  generalize badN 1 ws false = bd at *
  generalize dropT 1 ws = R at *
  clear hf
  cases bd with
  | true =>
    simp [go_sem, IntWalk.iteOmega, IntWalk.toNatUp, hbc]
    exact Q _ rfl
  | false =>
    simp [go_sem, IntWalk.iteOmega, IntWalk.toNatUp, hbc]
    refine Q _ ?_
    cases R with
    | nil => rfl
    | cons y r => simp; omega
end Go.Proofs.YtpmmfabendnhiaaDoor
