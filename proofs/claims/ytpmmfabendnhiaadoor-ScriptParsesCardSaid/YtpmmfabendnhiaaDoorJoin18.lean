/-
  Texts joined: PHead5, PHead6, PHead7, PHead8, PHeadR.
-/
import Derived.Test.YtpmmfabendnhiaaDoorJoin17
namespace Go.Proofs.YtpmmfabendnhiaaDoor
open Go.RowKit
open Go.Lib (strCells byteCells decDigits)
set_option linter.unusedVariables false
set_option linter.unusedSimpArgs false
set_option maxRecDepth 10000
set_option maxHeartbeats 12800000 in
theorem head5 (l : List UInt8) (hl : l.length ≤ 20000) {w : World} {rb : Nat} {c : Nat → Nat} {now : Nat} {vv vb vf vm : Value} (hb : Blk w rb 60 (rdCells c now vv vb vf vm 5)) :
    callE Tryd.prog 30 #[.pointer (some ⟨rb, 0, none⟩), .string (strOf l)] w (HeadQ w rb c now vv vb vf vm 5 l) := by
  have hsm := fun s (h : s ∈ wordsV l) => words_small h
  obtain ⟨x, ws, hws⟩ : ∃ x ws, wordsV l = x :: ws := by
    cases h : wordsV l with
    | nil => exact absurd h (go_ne l [])
    | cons x ws => exact ⟨x, ws, rfl⟩
  rw [hws] at hsm
  refine calls_E Tryd.func30 rfl rfl rfl (Nat.le_of_ble_eq_true rfl) ?_
  simp [go_sem, IntWalk.iteOmega, IntWalk.toNatUp]
  refine callE_of (words_any l (by omega) w) ?_
  rintro v1 w1 ⟨o1, k1⟩
  rw [hws] at o1
  obtain ⟨⟨A, cp, e1, hrd, hA, hc1, hc2⟩, A', c', e2⟩ := own_sl o1
  have hlt := o1.lt
  subst e1
  clear e2
  simp [go_sem, IntWalk.iteOmega, IntWalk.toNatUp]
  have H : HdAt w (w1.alloc (.cells #[.slice A (x :: ws).length cp, .bool false] 77)) rb w1.heap.size (x :: ws, false) (rdCells c now vv vb vf vm 5) :=
    ⟨⟨A, cp, Blk.self_ rfl, hrd.keep (ext_alloc _ _), hA, hc1, hc2, fun j hj => ⟨(hlt j (atB_row o1 hj)).1, atB_lt hrd hj⟩⟩, (hb.keep k1).keep (ext_alloc _ _), keeps_then (Keeps.of_ext k1) (Keeps.of_ext (ext_alloc _ _)), hb.lt, k1.size, fun s hs => by have := hsm s hs; omega⟩
  simp only [List.length_cons] at H
  push_cast at H ⊢
  have hsz1 : (w1.alloc (.cells #[.slice A (ws.length + 1) cp, .bool false] 77)).heap.size = w1.heap.size + 1 := by simp
  generalize w1.alloc (.cells #[.slice A (ws.length + 1) cp, .bool false] 77) = w2 at *
  rw [← hsz1]
  have hC : ∃ cs, cs = (#[.string ⟨#[112, 97, 114, 97, 109, 115]⟩, .string ⟨#[110, 111, 100, 101]⟩, .string ⟨#[103, 97, 116, 101]⟩, .string ⟨#[112, 101, 101, 114]⟩, .string ⟨#[119, 97, 105, 116]⟩, .string ⟨#[98, 101, 110, 99, 104]⟩, .string ⟨#[102, 105, 114, 115, 116]⟩, .string ⟨#[110, 111, 119]⟩] : Array Value) := ⟨_, rfl⟩
  obtain ⟨cs, hcs⟩ := hC
  rw [← hcs]
  have hW : Blk (w2.alloc (.cells cs 9)) w2.heap.size 9 cs := Blk.self_ rfl
  have H3 := H.more (ext_alloc w2 (.cells cs 9))
  have htb : w1.heap.size < w2.heap.size := by omega
  generalize w2.alloc (.cells cs 9) = w3 at *
  generalize w2.heap.size = nb at *
  generalize w1.heap.size = tb at *
  clear H hb k1 hrd hA hc1 hc2 hlt o1 hsm
  have hrt : rb < tb := by have := H3.lt; have := H3.lo; omega
  have hcn : cs[4]? = some (.string (strOf (hname 5))) := by rw [hcs]; rfl
  have h33 := rd_33 c now vv vb vf vm 5
  have hWd := hW.drew
  have H4 : HdAt w w3.drew rb tb (x :: ws, false) (rdCells c now vv vb vf vm 5) := H3.more (ext_drew w3)
  clear H3 hW
  refine W_flow (fun g => g ≠ tb) (.pure 0 (.pure 2 (.pure 3 (.pure 4 (.pure 5 (.pure 6 (.pure 7 (.pure 8 (.pure 9 (.one 1 (.pure 10 (.done)))))))))))) follows (by kernel_rfl) ?_
  have x33 := H4.rd.cell 33
  rw [h33] at x33
  have xn := hWd.cell 4
  rw [hcn] at xn
  have hne1 : rb ≠ tb := by omega
  have hne2 : nb ≠ tb := by omega
  have hlt1 := H4.rd.lt
  have hlt2 := hWd.lt
  simp [go_sem, IntWalk.iteOmega, IntWalk.toNatUp, x33, xn, hne1, hne2, hlt1, hlt2]
  refine ⟨hlt1, hlt2, ?_⟩
  refine callE_of (word_any H4.tak) ?_
  rintro _ w4 ⟨rfl, h5, k5⟩
  have hheld : heldE (fun g => ¬ g = tb) w3.drew w4 := ⟨k5.size, fun g hg hl => k5.block g hl hg⟩
  have H := H4.took h5 k5
  simp only [List.headD_cons, List.tail_cons, List.isEmpty_cons, Bool.or_false] at H ⊢
  clear H4 h5 k5 xn x33 hWd hlt1 hlt2
  by_cases hx : x = hname 5
  case neg =>
    have hb : ((strOf x).toList == (strOf (hname 5)).toList) = false := beq_eq_false_iff_ne.2 fun e => hx (str_ext.1 e)
    simp [go_sem, IntWalk.iteOmega, IntWalk.toNatUp, hheld, hb]
    exact ⟨x, ws, c, now, vf, hws, H.rd, H.keep, fun _ => rfl, fun h => absurd h hx⟩
  subst hx
  have hb : ((strOf (hname 5)).toList == (strOf (hname 5)).toList) = true := by simp
  have x33 := H.rd.cell 33
  rw [h33] at x33
  simp [go_sem, IntWalk.iteOmega, IntWalk.toNatUp, hheld, hb, x33]
  clear x33 hheld hb hne2 hcn hcs hsz1 htb
  refine callE_of H.num ?_
  rintro _ w5 ⟨rfl, H⟩
  simp [go_sem, IntWalk.iteOmega, IntWalk.toNatUp, ]
  refine callE_of H.num ?_
  rintro _ w6 ⟨rfl, H⟩
  simp [go_sem, IntWalk.iteOmega, IntWalk.toNatUp, ]
  refine callE_of H.num ?_
  rintro _ w7 ⟨rfl, H⟩
  simp [go_sem, IntWalk.iteOmega, IntWalk.toNatUp, ]
  refine callE_of H.num ?_
  rintro _ w8 ⟨rfl, H⟩
  simp [go_sem, IntWalk.iteOmega, IntWalk.toNatUp, ]
  refine callE_of H.num ?_
  rintro _ w9 ⟨rfl, H⟩
  have hk1 : HdAt w _ rb tb (dropT 5 ws, badN 5 ws false) _ := H
  obtain ⟨A, cp, hbt, -⟩ := hk1.tak
  simp only at hbt
  have hbc := hbt.cell
  have x18 := H.rd.cell 18
  rw [rd_lo c now vv vb vf vm 5 ⟨18, by omega⟩] at x18
  have x19 := H.rd.cell 19
  rw [rd_lo c now vv vb vf vm 5 ⟨19, by omega⟩] at x19
  have x20 := H.rd.cell 20
  rw [rd_lo c now vv vb vf vm 5 ⟨20, by omega⟩] at x20
  have x21 := H.rd.cell 21
  rw [rd_lo c now vv vb vf vm 5 ⟨21, by omega⟩] at x21
  have x22 := H.rd.cell 22
  rw [rd_lo c now vv vb vf vm 5 ⟨22, by omega⟩] at x22
  have hf := H.rd.frozen
  simp [go_sem, IntWalk.iteOmega, IntWalk.toNatUp, x18, x19, x20, x21, x22, hf]
  have H := H.set 18 (by omega) (nG ws 0)
  have H := H.set 19 (by omega) (nG ws 1)
  have H := H.set 20 (by omega) (nG ws 2)
  have H := H.set 21 (by omega) (nG ws 3)
  have H := H.set 22 (by omega) (nG ws 4)
  have H : HdAt w _ rb tb (dropT 5 ws, badN 5 ws false) (rdCells (upd c (hoff 5) (hcnt 5) ws) now vv vb vf vm 5) := H
  have hfin := okN_bad 5 ws false
  simp only [Bool.not_false, Bool.true_and] at hfin
  have Q : ∀ v, v = .bool (okN 5 ws) → HeadQ w rb c now vv vb vf vm 5 l v _ := fun v hv => ⟨hname 5, ws, _, _, _, hws, H.rd, H.keep, fun h => absurd rfl h, fun _ => ⟨fun h => ⟨hv, rfl, rfl, rfl⟩, fun h => absurd h (by omega), fun h => absurd h (by omega)⟩⟩
  rw [hfin] at Q
  generalize badN 5 ws false = bd at *
  generalize dropT 5 ws = R at *
  clear hf
  cases bd with
  | true =>
    simp [go_sem, IntWalk.iteOmega, IntWalk.toNatUp, hbc]
    exact Q _ rfl
  | false =>
    simp [go_sem, IntWalk.iteOmega, IntWalk.toNatUp, hbc]
    refine Q _ ?_
    cases R with
    | nil => rfl
    | cons y r => simp; omega
end Go.Proofs.YtpmmfabendnhiaaDoor
namespace Go.Proofs.YtpmmfabendnhiaaDoor
open Go.RowKit
open Go.Lib (strCells byteCells decDigits)
set_option linter.unusedVariables false
set_option linter.unusedSimpArgs false
set_option maxRecDepth 10000
set_option maxHeartbeats 12800000 in
theorem head6 (l : List UInt8) (hl : l.length ≤ 20000) {w : World} {rb : Nat} {c : Nat → Nat} {now : Nat} {vv vb vf vm : Value} (hb : Blk w rb 60 (rdCells c now vv vb vf vm 6)) :
    callE Tryd.prog 30 #[.pointer (some ⟨rb, 0, none⟩), .string (strOf l)] w (HeadQ w rb c now vv vb vf vm 6 l) := by
  have hsm := fun s (h : s ∈ wordsV l) => words_small h
  obtain ⟨x, ws, hws⟩ : ∃ x ws, wordsV l = x :: ws := by
    cases h : wordsV l with
    | nil => exact absurd h (go_ne l [])
    | cons x ws => exact ⟨x, ws, rfl⟩
  rw [hws] at hsm
  refine calls_E Tryd.func30 rfl rfl rfl (Nat.le_of_ble_eq_true rfl) ?_
  simp [go_sem, IntWalk.iteOmega, IntWalk.toNatUp]
  refine callE_of (words_any l (by omega) w) ?_
  rintro v1 w1 ⟨o1, k1⟩
  rw [hws] at o1
  obtain ⟨⟨A, cp, e1, hrd, hA, hc1, hc2⟩, A', c', e2⟩ := own_sl o1
  have hlt := o1.lt
  subst e1
  clear e2
  simp [go_sem, IntWalk.iteOmega, IntWalk.toNatUp]
  have H : HdAt w (w1.alloc (.cells #[.slice A (x :: ws).length cp, .bool false] 77)) rb w1.heap.size (x :: ws, false) (rdCells c now vv vb vf vm 6) :=
    ⟨⟨A, cp, Blk.self_ rfl, hrd.keep (ext_alloc _ _), hA, hc1, hc2, fun j hj => ⟨(hlt j (atB_row o1 hj)).1, atB_lt hrd hj⟩⟩, (hb.keep k1).keep (ext_alloc _ _), keeps_then (Keeps.of_ext k1) (Keeps.of_ext (ext_alloc _ _)), hb.lt, k1.size, fun s hs => by have := hsm s hs; omega⟩
  simp only [List.length_cons] at H
  push_cast at H ⊢
  have hsz1 : (w1.alloc (.cells #[.slice A (ws.length + 1) cp, .bool false] 77)).heap.size = w1.heap.size + 1 := by simp
  generalize w1.alloc (.cells #[.slice A (ws.length + 1) cp, .bool false] 77) = w2 at *
  rw [← hsz1]
  have hC : ∃ cs, cs = (#[.string ⟨#[112, 97, 114, 97, 109, 115]⟩, .string ⟨#[110, 111, 100, 101]⟩, .string ⟨#[103, 97, 116, 101]⟩, .string ⟨#[112, 101, 101, 114]⟩, .string ⟨#[119, 97, 105, 116]⟩, .string ⟨#[98, 101, 110, 99, 104]⟩, .string ⟨#[102, 105, 114, 115, 116]⟩, .string ⟨#[110, 111, 119]⟩] : Array Value) := ⟨_, rfl⟩
  obtain ⟨cs, hcs⟩ := hC
  rw [← hcs]
  have hW : Blk (w2.alloc (.cells cs 9)) w2.heap.size 9 cs := Blk.self_ rfl
  have H3 := H.more (ext_alloc w2 (.cells cs 9))
  have htb : w1.heap.size < w2.heap.size := by omega
  generalize w2.alloc (.cells cs 9) = w3 at *
  generalize w2.heap.size = nb at *
  generalize w1.heap.size = tb at *
  clear H hb k1 hrd hA hc1 hc2 hlt o1 hsm
  have hrt : rb < tb := by have := H3.lt; have := H3.lo; omega
  have hcn : cs[5]? = some (.string (strOf (hname 6))) := by rw [hcs]; rfl
  have h33 := rd_33 c now vv vb vf vm 6
  have hWd := hW.drew
  have H4 : HdAt w w3.drew rb tb (x :: ws, false) (rdCells c now vv vb vf vm 6) := H3.more (ext_drew w3)
  clear H3 hW
  refine W_flow (fun g => g ≠ tb) (.pure 0 (.pure 2 (.pure 3 (.pure 4 (.pure 5 (.pure 6 (.pure 7 (.pure 8 (.pure 9 (.one 1 (.pure 10 (.done)))))))))))) follows (by kernel_rfl) ?_
  have x33 := H4.rd.cell 33
  rw [h33] at x33
  have xn := hWd.cell 5
  rw [hcn] at xn
  have hne1 : rb ≠ tb := by omega
  have hne2 : nb ≠ tb := by omega
  have hlt1 := H4.rd.lt
  have hlt2 := hWd.lt
  simp [go_sem, IntWalk.iteOmega, IntWalk.toNatUp, x33, xn, hne1, hne2, hlt1, hlt2]
  refine ⟨hlt1, hlt2, ?_⟩
  refine callE_of (word_any H4.tak) ?_
  rintro _ w4 ⟨rfl, h5, k5⟩
  have hheld : heldE (fun g => ¬ g = tb) w3.drew w4 := ⟨k5.size, fun g hg hl => k5.block g hl hg⟩
  have H := H4.took h5 k5
  simp only [List.headD_cons, List.tail_cons, List.isEmpty_cons, Bool.or_false] at H ⊢
  clear H4 h5 k5 xn x33 hWd hlt1 hlt2
  by_cases hx : x = hname 6
  case neg =>
    have hb : ((strOf x).toList == (strOf (hname 6)).toList) = false := beq_eq_false_iff_ne.2 fun e => hx (str_ext.1 e)
    simp [go_sem, IntWalk.iteOmega, IntWalk.toNatUp, hheld, hb]
    exact ⟨x, ws, c, now, vf, hws, H.rd, H.keep, fun _ => rfl, fun h => absurd h hx⟩
  subst hx
  have hb : ((strOf (hname 6)).toList == (strOf (hname 6)).toList) = true := by simp
  have x33 := H.rd.cell 33
  rw [h33] at x33
  simp [go_sem, IntWalk.iteOmega, IntWalk.toNatUp, hheld, hb, x33]
  clear x33 hheld hb hne2 hcn hcs hsz1 htb
  refine callE_of H.num ?_
  rintro _ w5 ⟨rfl, H⟩
  simp [go_sem, IntWalk.iteOmega, IntWalk.toNatUp, ]
  refine callE_of H.num ?_
  rintro _ w6 ⟨rfl, H⟩
  simp [go_sem, IntWalk.iteOmega, IntWalk.toNatUp, ]
  refine callE_of H.num ?_
  rintro _ w7 ⟨rfl, H⟩
  simp [go_sem, IntWalk.iteOmega, IntWalk.toNatUp, ]
  refine callE_of H.num ?_
  rintro _ w8 ⟨rfl, H⟩
  simp [go_sem, IntWalk.iteOmega, IntWalk.toNatUp, ]
  refine callE_of H.num ?_
  rintro _ w9 ⟨rfl, H⟩
  have hk1 : HdAt w _ rb tb (dropT 5 ws, badN 5 ws false) _ := H
  obtain ⟨A, cp, hbt, -⟩ := hk1.tak
  simp only at hbt
  have hbc := hbt.cell
  have x23 := H.rd.cell 23
  rw [rd_lo c now vv vb vf vm 6 ⟨23, by omega⟩] at x23
  have x24 := H.rd.cell 24
  rw [rd_lo c now vv vb vf vm 6 ⟨24, by omega⟩] at x24
  have x25 := H.rd.cell 25
  rw [rd_lo c now vv vb vf vm 6 ⟨25, by omega⟩] at x25
  have x26 := H.rd.cell 26
  rw [rd_lo c now vv vb vf vm 6 ⟨26, by omega⟩] at x26
  have x27 := H.rd.cell 27
  rw [rd_lo c now vv vb vf vm 6 ⟨27, by omega⟩] at x27
  have hf := H.rd.frozen
  simp [go_sem, IntWalk.iteOmega, IntWalk.toNatUp, x23, x24, x25, x26, x27, hf]
  have H := H.set 23 (by omega) (nG ws 0)
  have H := H.set 24 (by omega) (nG ws 1)
  have H := H.set 25 (by omega) (nG ws 2)
  have H := H.set 26 (by omega) (nG ws 3)
  have H := H.set 27 (by omega) (nG ws 4)
  have H : HdAt w _ rb tb (dropT 5 ws, badN 5 ws false) (rdCells (upd c (hoff 6) (hcnt 6) ws) now vv vb vf vm 6) := H
  have hfin := okN_bad 5 ws false
  simp only [Bool.not_false, Bool.true_and] at hfin
  have Q : ∀ v, v = .bool (okN 5 ws) → HeadQ w rb c now vv vb vf vm 6 l v _ := fun v hv => ⟨hname 6, ws, _, _, _, hws, H.rd, H.keep, fun h => absurd rfl h, fun _ => ⟨fun h => ⟨hv, rfl, rfl, rfl⟩, fun h => absurd h (by omega), fun h => absurd h (by omega)⟩⟩
  rw [hfin] at Q
  generalize badN 5 ws false = bd at *
  generalize dropT 5 ws = R at *
  clear hf
  cases bd with
  | true =>
    simp [go_sem, IntWalk.iteOmega, IntWalk.toNatUp, hbc]
    exact Q _ rfl
  | false =>
    simp [go_sem, IntWalk.iteOmega, IntWalk.toNatUp, hbc]
    refine Q _ ?_
    cases R with
    | nil => rfl
    | cons y r => simp; omega
end Go.Proofs.YtpmmfabendnhiaaDoor
namespace Go.Proofs.YtpmmfabendnhiaaDoor
open Go.RowKit
open Go.Lib (strCells byteCells decDigits)
set_option linter.unusedVariables false
set_option linter.unusedSimpArgs false
set_option maxRecDepth 10000
set_option maxHeartbeats 12800000 in
theorem head7 (l : List UInt8) (hl : l.length ≤ 20000) {w : World} {rb : Nat} {c : Nat → Nat} {now : Nat} {vv vb vf vm : Value} (hb : Blk w rb 60 (rdCells c now vv vb vf vm 7)) :
    callE Tryd.prog 30 #[.pointer (some ⟨rb, 0, none⟩), .string (strOf l)] w (HeadQ w rb c now vv vb vf vm 7 l) := by
  have hsm := fun s (h : s ∈ wordsV l) => words_small h
  obtain ⟨x, ws, hws⟩ : ∃ x ws, wordsV l = x :: ws := by
    cases h : wordsV l with
    | nil => exact absurd h (go_ne l [])
    | cons x ws => exact ⟨x, ws, rfl⟩
  rw [hws] at hsm
  refine calls_E Tryd.func30 rfl rfl rfl (Nat.le_of_ble_eq_true rfl) ?_
  simp [go_sem, IntWalk.iteOmega, IntWalk.toNatUp]
  refine callE_of (words_any l (by omega) w) ?_
  rintro v1 w1 ⟨o1, k1⟩
  rw [hws] at o1
  obtain ⟨⟨A, cp, e1, hrd, hA, hc1, hc2⟩, A', c', e2⟩ := own_sl o1
  have hlt := o1.lt
  subst e1
  clear e2
  simp [go_sem, IntWalk.iteOmega, IntWalk.toNatUp]
  have H : HdAt w (w1.alloc (.cells #[.slice A (x :: ws).length cp, .bool false] 77)) rb w1.heap.size (x :: ws, false) (rdCells c now vv vb vf vm 7) :=
    ⟨⟨A, cp, Blk.self_ rfl, hrd.keep (ext_alloc _ _), hA, hc1, hc2, fun j hj => ⟨(hlt j (atB_row o1 hj)).1, atB_lt hrd hj⟩⟩, (hb.keep k1).keep (ext_alloc _ _), keeps_then (Keeps.of_ext k1) (Keeps.of_ext (ext_alloc _ _)), hb.lt, k1.size, fun s hs => by have := hsm s hs; omega⟩
  simp only [List.length_cons] at H
  push_cast at H ⊢
  have hsz1 : (w1.alloc (.cells #[.slice A (ws.length + 1) cp, .bool false] 77)).heap.size = w1.heap.size + 1 := by simp
  generalize w1.alloc (.cells #[.slice A (ws.length + 1) cp, .bool false] 77) = w2 at *
  rw [← hsz1]
  have hC : ∃ cs, cs = (#[.string ⟨#[112, 97, 114, 97, 109, 115]⟩, .string ⟨#[110, 111, 100, 101]⟩, .string ⟨#[103, 97, 116, 101]⟩, .string ⟨#[112, 101, 101, 114]⟩, .string ⟨#[119, 97, 105, 116]⟩, .string ⟨#[98, 101, 110, 99, 104]⟩, .string ⟨#[102, 105, 114, 115, 116]⟩, .string ⟨#[110, 111, 119]⟩] : Array Value) := ⟨_, rfl⟩
  obtain ⟨cs, hcs⟩ := hC
  rw [← hcs]
  have hW : Blk (w2.alloc (.cells cs 9)) w2.heap.size 9 cs := Blk.self_ rfl
  have H3 := H.more (ext_alloc w2 (.cells cs 9))
  have htb : w1.heap.size < w2.heap.size := by omega
  generalize w2.alloc (.cells cs 9) = w3 at *
  generalize w2.heap.size = nb at *
  generalize w1.heap.size = tb at *
  clear H hb k1 hrd hA hc1 hc2 hlt o1 hsm
  have hrt : rb < tb := by have := H3.lt; have := H3.lo; omega
  have hcn : cs[6]? = some (.string (strOf (hname 7))) := by rw [hcs]; rfl
  have h33 := rd_33 c now vv vb vf vm 7
  have hWd := hW.drew
  have H4 : HdAt w w3.drew rb tb (x :: ws, false) (rdCells c now vv vb vf vm 7) := H3.more (ext_drew w3)
  clear H3 hW
  refine W_flow (fun g => g ≠ tb) (.pure 0 (.pure 2 (.pure 3 (.pure 4 (.pure 5 (.pure 6 (.pure 7 (.pure 8 (.pure 9 (.one 1 (.pure 10 (.done)))))))))))) follows (by kernel_rfl) ?_
  have x33 := H4.rd.cell 33
  rw [h33] at x33
  have xn := hWd.cell 6
  rw [hcn] at xn
  have hne1 : rb ≠ tb := by omega
  have hne2 : nb ≠ tb := by omega
  have hlt1 := H4.rd.lt
  have hlt2 := hWd.lt
  simp [go_sem, IntWalk.iteOmega, IntWalk.toNatUp, x33, xn, hne1, hne2, hlt1, hlt2]
  refine ⟨hlt1, hlt2, ?_⟩
  refine callE_of (word_any H4.tak) ?_
  rintro _ w4 ⟨rfl, h5, k5⟩
  have hheld : heldE (fun g => ¬ g = tb) w3.drew w4 := ⟨k5.size, fun g hg hl => k5.block g hl hg⟩
  have H := H4.took h5 k5
  simp only [List.headD_cons, List.tail_cons, List.isEmpty_cons, Bool.or_false] at H ⊢
  clear H4 h5 k5 xn x33 hWd hlt1 hlt2
  by_cases hx : x = hname 7
  case neg =>
    have hb : ((strOf x).toList == (strOf (hname 7)).toList) = false := beq_eq_false_iff_ne.2 fun e => hx (str_ext.1 e)
    simp [go_sem, IntWalk.iteOmega, IntWalk.toNatUp, hheld, hb]
    exact ⟨x, ws, c, now, vf, hws, H.rd, H.keep, fun _ => rfl, fun h => absurd h hx⟩
  subst hx
  have hb : ((strOf (hname 7)).toList == (strOf (hname 7)).toList) = true := by simp
  have x33 := H.rd.cell 33
  rw [h33] at x33
  simp [go_sem, IntWalk.iteOmega, IntWalk.toNatUp, hheld, hb, x33]
  clear x33 hheld hb hne2 hcn hcs hsz1 htb
  have hsz4 := H.keep.size
  refine callE_of H.bytes ?_
  rintro u w5 ⟨hu, H⟩
  have x30 := H.rd.cell 30
  rw [rd_30] at x30
  have hf := H.rd.frozen
  have hlo := H.lo
  have hrl := H.lt
  have hu4 := row_low hu (b' := w.heap.size) hsz4
  simp only at hu4 H
  generalize hyd : ws.headD [] = y at *
  obtain ⟨A, cp, hbt, -⟩ := H.tak
  simp only [Bool.false_or] at hbt
  obtain ⟨-, Au, cu, rfl⟩ := own_sl hu4
  have hrd5 := H.rd
  have H := H.sets 30 (.slice Au (bytesL y).length cu)
  rw [rd_set30] at H
  simp only [Bool.false_or] at H
  have xs30 := H.rd.cell 30
  rw [rd_30] at xs30
  have hbt6 := hbt.farCell (b := rb) (o := 30) (fun e => hne1 e.symm) (.slice Au (bytesL y).length cu)
  have hu6 : (w5.setCell ⟨rb, 30, none⟩ (.slice Au (bytesL y).length cu)).ownsRow w.heap.size 5 1 (.slice Au (bytesL y).length cu) (bytesL y).length (byteCells (bytesL y)) :=
    row_keeps hu4 (Keeps.setCell w5 ⟨rb, 30, none⟩ _ (O := fun j => j ≠ rb) (fun h => h rfl)) fun j hj e => row_ne hu4 hrd5 (by decide) (by rw [hj, e])
  have fin : ∀ (bv : Value) (v : Value), v = .bool ((bytesV y).isSome && decide ((bytesL y).length ≤ 200) && ws.tail.isEmpty) → HeadQ w rb c now vv vb vf vm 7 l v ((w5.setCell ⟨rb, 30, none⟩ (.slice Au (bytesL y).length cu)).setCell ⟨tb, 1, none⟩ bv) := by
    intro bv v hv
    obtain ⟨q1, q2⟩ := H.tset bv
    refine ⟨hname 7, ws, _, _, _, hws, q1, q2, fun h => absurd rfl h, fun _ => ⟨fun h => absurd h (by omega), fun _ => ?_, fun h => absurd h (by omega)⟩⟩
    rw [hyd]
    exact ⟨hv, rfl, rfl, row_keeps hu6 (Keeps.setCell _ ⟨tb, 1, none⟩ _ (O := fun j => j ≠ tb) (fun h => h rfl)) fun j hj e => row_ne hu6 hbt6 (by decide) (by rw [hj, e])⟩
  have hbs := fun bv => Blk_set (o := 1) (v := bv) hbt6
  have hbc := hbt.cell
  have hbf := hbt.frozen
  cases hq : bytesV y with
  | none =>
    rw [hq] at hbc fin hbs
    simp [go_sem, IntWalk.iteOmega, IntWalk.toNatUp, x30, hf, hbc, hbf, fun bv => (hbs bv).cell]
    exact fin _ _ rfl
  | some bl =>
    rw [hq] at hbc fin hbs
    have hL : bytesL y = bl := by unfold bytesL; rw [hq]; rfl
    by_cases h2 : (bytesL y).length ≤ 200
    · have h2' : ¬ (200 : Int) < (bytesL y).length := by omega
      simp [go_sem, IntWalk.iteOmega, IntWalk.toNatUp, x30, hf, hbc, hbf, xs30, h2', fun bv => (hbs bv).cell]
      refine fin _ _ ?_
      rw [decide_eq_true h2]
      have e : (((ws.length - 1 : Nat) : Int) == 0) = ws.tail.isEmpty := by rw [← List.length_tail]; cases ws.tail <;> simp; omega
      simp [e]
    · have h2' : (200 : Int) < (bytesL y).length := by omega
      simp [go_sem, IntWalk.iteOmega, IntWalk.toNatUp, x30, hf, hbc, hbf, xs30, h2', fun bv => (hbs bv).cell]
      refine fin _ _ ?_
      rw [decide_eq_false h2]
      simp
end Go.Proofs.YtpmmfabendnhiaaDoor
namespace Go.Proofs.YtpmmfabendnhiaaDoor
open Go.RowKit
open Go.Lib (strCells byteCells decDigits)
set_option linter.unusedVariables false
set_option linter.unusedSimpArgs false
set_option maxRecDepth 10000
set_option maxHeartbeats 12800000 in
theorem head8 (l : List UInt8) (hl : l.length ≤ 20000) {w : World} {rb : Nat} {c : Nat → Nat} {now : Nat} {vv vb vf vm : Value} (hb : Blk w rb 60 (rdCells c now vv vb vf vm 8)) :
    callE Tryd.prog 30 #[.pointer (some ⟨rb, 0, none⟩), .string (strOf l)] w (HeadQ w rb c now vv vb vf vm 8 l) := by
  have hsm := fun s (h : s ∈ wordsV l) => words_small h
  obtain ⟨x, ws, hws⟩ : ∃ x ws, wordsV l = x :: ws := by
    cases h : wordsV l with
    | nil => exact absurd h (go_ne l [])
    | cons x ws => exact ⟨x, ws, rfl⟩
  rw [hws] at hsm
  refine calls_E Tryd.func30 rfl rfl rfl (Nat.le_of_ble_eq_true rfl) ?_
  simp [go_sem, IntWalk.iteOmega, IntWalk.toNatUp]
  refine callE_of (words_any l (by omega) w) ?_
  rintro v1 w1 ⟨o1, k1⟩
  rw [hws] at o1
  obtain ⟨⟨A, cp, e1, hrd, hA, hc1, hc2⟩, A', c', e2⟩ := own_sl o1
  have hlt := o1.lt
  subst e1
  clear e2
  simp [go_sem, IntWalk.iteOmega, IntWalk.toNatUp]
  have H : HdAt w (w1.alloc (.cells #[.slice A (x :: ws).length cp, .bool false] 77)) rb w1.heap.size (x :: ws, false) (rdCells c now vv vb vf vm 8) :=
    ⟨⟨A, cp, Blk.self_ rfl, hrd.keep (ext_alloc _ _), hA, hc1, hc2, fun j hj => ⟨(hlt j (atB_row o1 hj)).1, atB_lt hrd hj⟩⟩, (hb.keep k1).keep (ext_alloc _ _), keeps_then (Keeps.of_ext k1) (Keeps.of_ext (ext_alloc _ _)), hb.lt, k1.size, fun s hs => by have := hsm s hs; omega⟩
  simp only [List.length_cons] at H
  push_cast at H ⊢
  have hsz1 : (w1.alloc (.cells #[.slice A (ws.length + 1) cp, .bool false] 77)).heap.size = w1.heap.size + 1 := by simp
  generalize w1.alloc (.cells #[.slice A (ws.length + 1) cp, .bool false] 77) = w2 at *
  rw [← hsz1]
  have hC : ∃ cs, cs = (#[.string ⟨#[112, 97, 114, 97, 109, 115]⟩, .string ⟨#[110, 111, 100, 101]⟩, .string ⟨#[103, 97, 116, 101]⟩, .string ⟨#[112, 101, 101, 114]⟩, .string ⟨#[119, 97, 105, 116]⟩, .string ⟨#[98, 101, 110, 99, 104]⟩, .string ⟨#[102, 105, 114, 115, 116]⟩, .string ⟨#[110, 111, 119]⟩] : Array Value) := ⟨_, rfl⟩
  obtain ⟨cs, hcs⟩ := hC
  rw [← hcs]
  have hW : Blk (w2.alloc (.cells cs 9)) w2.heap.size 9 cs := Blk.self_ rfl
  have H3 := H.more (ext_alloc w2 (.cells cs 9))
  have htb : w1.heap.size < w2.heap.size := by omega
  generalize w2.alloc (.cells cs 9) = w3 at *
  generalize w2.heap.size = nb at *
  generalize w1.heap.size = tb at *
  clear H hb k1 hrd hA hc1 hc2 hlt o1 hsm
  have hrt : rb < tb := by have := H3.lt; have := H3.lo; omega
  have hcn : cs[7]? = some (.string (strOf (hname 8))) := by rw [hcs]; rfl
  have h33 := rd_33 c now vv vb vf vm 8
  have hWd := hW.drew
  have H4 : HdAt w w3.drew rb tb (x :: ws, false) (rdCells c now vv vb vf vm 8) := H3.more (ext_drew w3)
  clear H3 hW
  refine W_flow (fun g => g ≠ tb) (.pure 0 (.pure 2 (.pure 3 (.pure 4 (.pure 5 (.pure 6 (.pure 7 (.pure 8 (.pure 9 (.one 1 (.pure 10 (.done)))))))))))) follows (by kernel_rfl) ?_
  have x33 := H4.rd.cell 33
  rw [h33] at x33
  have xn := hWd.cell 7
  rw [hcn] at xn
  have hne1 : rb ≠ tb := by omega
  have hne2 : nb ≠ tb := by omega
  have hlt1 := H4.rd.lt
  have hlt2 := hWd.lt
  simp [go_sem, IntWalk.iteOmega, IntWalk.toNatUp, x33, xn, hne1, hne2, hlt1, hlt2]
  refine ⟨hlt1, hlt2, ?_⟩
  refine callE_of (word_any H4.tak) ?_
  rintro _ w4 ⟨rfl, h5, k5⟩
  have hheld : heldE (fun g => ¬ g = tb) w3.drew w4 := ⟨k5.size, fun g hg hl => k5.block g hl hg⟩
  have H := H4.took h5 k5
  simp only [List.headD_cons, List.tail_cons, List.isEmpty_cons, Bool.or_false] at H ⊢
  clear H4 h5 k5 xn x33 hWd hlt1 hlt2
  by_cases hx : x = hname 8
  case neg =>
    have hb : ((strOf x).toList == (strOf (hname 8)).toList) = false := beq_eq_false_iff_ne.2 fun e => hx (str_ext.1 e)
    simp [go_sem, IntWalk.iteOmega, IntWalk.toNatUp, hheld, hb]
    exact ⟨x, ws, c, now, vf, hws, H.rd, H.keep, fun _ => rfl, fun h => absurd h hx⟩
  subst hx
  have hb : ((strOf (hname 8)).toList == (strOf (hname 8)).toList) = true := by simp
  have x33 := H.rd.cell 33
  rw [h33] at x33
  simp [go_sem, IntWalk.iteOmega, IntWalk.toNatUp, hheld, hb, x33]
  clear x33 hheld hb hne2 hcn hcs hsz1 htb
  refine callE_of H.num ?_
  rintro _ w5 ⟨rfl, H⟩
  have hk1 : HdAt w _ rb tb (dropT 1 ws, badN 1 ws false) _ := H
  obtain ⟨A, cp, hbt, -⟩ := hk1.tak
  simp only at hbt
  have hbc := hbt.cell
  have x31 := H.rd.cell 31
  rw [rd_31] at x31
  have hf := H.rd.frozen
  simp [go_sem, IntWalk.iteOmega, IntWalk.toNatUp, x31, hf]
  have H := H.sets 31 (.int .i64 (nG ws 0 : Nat))
  rw [rd_set31] at H
  have H : HdAt w _ rb tb (dropT 1 ws, badN 1 ws false) (rdCells c (nG ws 0) vv vb vf vm 8) := H
  have hfin := okN_bad 1 ws false
  simp only [Bool.not_false, Bool.true_and] at hfin
  have Q : ∀ v, v = .bool (okN 1 ws) → HeadQ w rb c now vv vb vf vm 8 l v _ := fun v hv => ⟨hname 8, ws, _, _, _, hws, H.rd, H.keep, fun h => absurd rfl h, fun _ => ⟨fun h => absurd h (by omega), fun h => absurd h (by omega), fun h => ⟨hv, rfl, rfl, rfl⟩⟩⟩
  rw [hfin] at Q
  generalize badN 1 ws false = bd at *
  generalize dropT 1 ws = R at *
  clear hf
  cases bd with
  | true =>
    simp [go_sem, IntWalk.iteOmega, IntWalk.toNatUp, hbc]
    exact Q _ rfl
  | false =>
    simp [go_sem, IntWalk.iteOmega, IntWalk.toNatUp, hbc]
    refine Q _ ?_
    cases R with
    | nil => rfl
    | cons y r => simp; omega
end Go.Proofs.YtpmmfabendnhiaaDoor
namespace Go.Proofs.YtpmmfabendnhiaaDoor
open Go.RowKit
open Go.Lib (strCells byteCells decDigits)
set_option linter.unusedVariables false
set_option linter.unusedSimpArgs false
set_option maxRecDepth 10000
def HeadPost (B : Nat) (w : World) (rb : Nat) (S : PS) (ms : List Mv) (n : Nat) (l : List UInt8) (v : Value) (w' : World) : Prop :=
  (match headV n l S with
    | some S' => v = .bool true ∧ RdgAt B w' rb S' ms n
    | none => v = .bool false ∧ ∃ c now vv vb vf vm, Blk w' rb 60 (rdCells c now vv vb vf vm n)) ∧ Below B w w'
theorem head_post {B rb n : Nat} {w w' : World} {S : PS} {ms : List Mv} {vv vb vf vm v : Value} {l : List UInt8} (hn1 : 1 ≤ n) (hn : n ≤ 8) (hr : RowsAt B w S ms vv vb vf vm) (hb : Blk w rb 60 (rdCells S.c S.now vv vb vf vm n)) (hB : B ≤ rb) (h : HeadQ w rb S.c S.now vv vb vf vm n l v w') : HeadPost B w rb S ms n l v w' := by
  obtain ⟨x, ws, c', now', vf', hws, hb', hk, h1, h2⟩ := h
  have hbl : Below B w w' := hk.below (by have := hb.lt; omega) fun j hj e => by omega
  have hrows : ∀ {S' : PS}, S'.vs = S.vs → S'.byz = S.byz → S'.first = S.first → RowsAt B w' S' ms vv vb vf vm := by
    intro S' e1 e2 e3
    obtain ⟨a1, a2, a3, a4⟩ := hr.far hb rowT_reading hk
    exact ⟨by rw [e1]; exact a1, by rw [e2]; exact a2, by rw [e3]; exact a3, a4⟩
  refine ⟨?_, hbl⟩
  unfold headV
  rw [hws]
  simp only
  by_cases hx : x = hname n
  · rw [if_pos hx]
    obtain ⟨q1, q2, q3⟩ := h2 hx
    by_cases h6 : n ≤ 6
    · obtain ⟨rfl, rfl, rfl, rfl⟩ := q1 h6
      rw [if_pos h6]
      cases hok : okN (hcnt n) ws with
      | true => exact ⟨rfl, vv, vb, _, vm, hb', hrows rfl rfl rfl, hB⟩
      | false => exact ⟨rfl, _, _, _, _, _, _, hb'⟩
    · rw [if_neg h6]
      by_cases h7 : n = 7
      · obtain ⟨rfl, rfl, rfl, hv⟩ := q2 h7
        rw [if_pos h7]
        cases ws with
        | nil => exact ⟨rfl, _, _, _, _, _, _, hb'⟩
        | cons y r =>
          simp only [List.headD_cons, List.tail_cons] at hv ⊢
          cases r with
          | cons z r =>
            refine ⟨?_, _, _, _, _, _, _, hb'⟩
            simp
          | nil =>
            simp only
            cases hq : bytesV y with
            | none => exact ⟨by simp, _, _, _, _, _, _, hb'⟩
            | some bl =>
              have hL : bytesL y = bl := by unfold bytesL; rw [hq]; rfl
              simp only [hL] at hv ⊢
              by_cases h200 : bl.length ≤ 200
              · simp only [if_pos h200]
                refine ⟨by simp [h200], vv, vb, _, vm, hb', ?_, hB⟩
                obtain ⟨a1, a2, a3, a4⟩ := hr.far hb rowT_reading hk
                exact ⟨a1, a2, row_low hv (by have := hb.lt; omega), a4⟩
              · simp only [if_neg h200]
                exact ⟨by simp [h200], _, _, _, _, _, _, hb'⟩
      · obtain ⟨rfl, rfl, rfl, rfl⟩ := q3 (by omega)
        rw [if_neg h7]
        cases hok : okN 1 ws with
        | true => exact ⟨rfl, vv, vb, _, vm, hb', hrows rfl rfl rfl, hB⟩
        | false => exact ⟨rfl, _, _, _, _, _, _, hb'⟩
  · rw [if_neg hx]
    exact ⟨h1 hx, _, _, _, _, _, _, hb'⟩
theorem head_any {B rb n : Nat} {w : World} {S : PS} {ms : List Mv} (h : RdgAt B w rb S ms n) (hn1 : 1 ≤ n) (hn : n ≤ 8) (l : List UInt8) (hl : l.length ≤ 20000) :
    callE Tryd.prog 30 #[.pointer (some ⟨rb, 0, none⟩), .string (strOf l)] w (HeadPost B w rb S ms n l) := by
  obtain ⟨vv, vb, vf, vm, hb, hr, hB⟩ := h
  have key : callE Tryd.prog 30 #[.pointer (some ⟨rb, 0, none⟩), .string (strOf l)] w (HeadQ w rb S.c S.now vv vb vf vm n l) := by
    rcases (by omega : n = 1 ∨ n = 2 ∨ n = 3 ∨ n = 4 ∨ n = 5 ∨ n = 6 ∨ n = 7 ∨ n = 8) with rfl | rfl | rfl | rfl | rfl | rfl | rfl | rfl
    · exact head1 l hl hb
    · exact head2 l hl hb
    · exact head3 l hl hb
    · exact head4 l hl hb
    · exact head5 l hl hb
    · exact head6 l hl hb
    · exact head7 l hl hb
    · exact head8 l hl hb
  exact callE_of key fun v w' hq => head_post hn1 hn hr hb hB hq
end Go.Proofs.YtpmmfabendnhiaaDoor
