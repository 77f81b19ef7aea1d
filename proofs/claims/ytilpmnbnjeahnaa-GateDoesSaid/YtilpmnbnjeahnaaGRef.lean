/-
  The reference's gate: as it lies in the heap; what is left, what one has.
-/
import Derived.Test.YtilpmnbnjeahnaaFreePlain
import Derived.Test.YtilpmnbnjeahnaaCut
namespace Go.Proofs.Ytilpmnbnjeahnaa
open Go.RowKit
set_option linter.unusedVariables false
set_option linter.unusedSimpArgs false
set_option maxRecDepth 10000
def msgC (x : Int × GIn) : List Value := [.int .i64 x.1, .int .i64 x.2.v, .int .i64 x.2.large, .int .i64 x.2.own]
def msgs (l : List (Int × GIn)) : List Value := l.flatMap msgC
theorem msgs_cons (x : Int × GIn) (l : List (Int × GIn)) : msgs (x :: l) = msgC x ++ msgs l := rfl
theorem msgs_app (a b : List (Int × GIn)) : msgs (a ++ b) = msgs a ++ msgs b := by unfold msgs; rw [List.flatMap_append]
theorem msgs_length : ∀ l : List (Int × GIn), (msgs l).length = l.length * 4
  | [] => rfl
  | x :: l => by rw [msgs_cons, List.length_append, msgs_length l]; simp [msgC]; omega
theorem msgs_at : ∀ (l : List (Int × GIn)) (i : Nat) (h : i < l.length), (msgs l)[i * 4]? = some (.int .i64 (l[i]).1) ∧ (msgs l)[i * 4 + 1]? = some (.int .i64 (l[i]).2.v) ∧ (msgs l)[i * 4 + 2]? = some (.int .i64 (l[i]).2.large) ∧ (msgs l)[i * 4 + 3]? = some (.int .i64 (l[i]).2.own)
  | x :: l, 0, h => ⟨rfl, rfl, rfl, rfl⟩
  | x :: l, i + 1, h => by
    have := msgs_at l i (by simpa using h)
    have e : ∀ j, (msgs (x :: l))[(i + 1) * 4 + j]? = (msgs l)[i * 4 + j]? := fun j => by
      rw [msgs_cons, List.getElem?_append_right (by simp [msgC]; omega)]
      congr 1
      simp [msgC]; omega
    have e0 := e 0
    simp only [Nat.add_zero] at e0
    rw [e0, e 1, e 2, e 3]
    simpa using this
theorem sumG_take (f : GIn → Int) {l : List (Int × GIn)} {i : Nat} (h : i < l.length) : sumG f (l.take (i + 1)) = sumG f (l.take i) + f (l[i]).2 := by
  rw [List.take_add_one, List.getElem?_eq_getElem h]
  exact sumG_app f _ _
theorem sumG_part (f : GIn → Int) : ∀ {l : List (Int × GIn)}, (∀ x ∈ l, 0 ≤ f x.2) → ∀ i, 0 ≤ sumG f (l.take i) ∧ sumG f (l.take i) ≤ sumG f l
  | [], _, i => by simp [sumG]
  | x :: l, h, 0 => ⟨by simp [sumG], by have := sumG_nn f h; simpa [sumG] using this⟩
  | x :: l, h, i + 1 => by
    have h1 := sumG_part f (l := l) (fun y hy => h y (List.mem_cons_of_mem _ hy)) i
    have h2 := h x (List.mem_cons_self ..)
    simp only [List.take_succ_cons, sumG]
    omega
def rcells (S : GS) (wv Lv : Value) (d n : Nat) : Array Value :=
  #[.int .i64 S.cfg.large, .int .i64 S.cfg.each, .int .i64 S.cfg.own, .int .i64 S.cfg.many, .int .i64 S.cfg.size, wv, Lv, .int .i64 S.last, .slice (some ⟨d, 0, none⟩) n n]
/-- the reference's gate r lies in w, from n0 on, apart from B -/
def RefIn (w : World) (B : Nat → Prop) (n0 r : Nat) (l : List Int) (S : GS) : Prop := ∃ wv Lv d, n0 ≤ r ∧ n0 ≤ d ∧ ¬ B r ∧ ¬ B d ∧ Blk w r 92 (rcells S wv Lv d l.length) ∧
  w.ownsRow n0 2 1 wv l.length (ints .i64 l) ∧ (∀ j, wv.ownBlock = some j → ¬ B j) ∧ w.ownsRow n0 94 4 Lv S.l.length (msgs S.l) ∧ (∀ j, Lv.ownBlock = some j → ¬ B j) ∧ Blk w d 2 (iblk (dropsOf S l.length)) ∧ wv.ownBlock ≠ some d
theorem RefIn.keeps {w w' : World} {B : Nat → Prop} {n0 r : Nat} {l : List Int} {S : GS} (h : RefIn w B n0 r l S) (hk : Keeps (fun j => ¬ B j) w w') : RefIn w' B n0 r l S := by
  obtain ⟨wv, Lv, d, h1, h2, h3, h4, hr, hw, hwB, hL, hLB, hd, hne⟩ := h
  exact ⟨wv, Lv, d, h1, h2, h3, h4, hk.blk hr h3, row_keeps hw hk hwB, hwB, row_keeps hL hk hLB, hLB, hk.blk hd h4, hne⟩
theorem RefIn.grow {w w' : World} {B : Nat → Prop} {n0 r : Nat} {l : List Int} {S : GS} (h : RefIn w B n0 r l S) (hk : Below w.heap.size w w') : RefIn w' B n0 r l S := h.keeps (Keeps.of_ext hk)
/-- apart from other blocks, newer than all -/
theorem RefIn.other {w : World} {B B' : Nat → Prop} {n0 r : Nat} {l : List Int} {S : GS} (h : RefIn w B n0 r l S) (hB : ∀ j, B' j → w.heap.size ≤ j) : RefIn w B' n0 r l S := by
  obtain ⟨wv, Lv, d, h1, h2, h3, h4, hr, hw, hwB, hL, hLB, hd, hne⟩ := h
  exact ⟨wv, Lv, d, h1, h2, fun h => by have := hB _ h; have := hr.lt; omega, fun h => by have := hB _ h; have := hd.lt; omega, hr, hw, fun j hj h => by have := hB _ h; have := (hw.lt j hj).2; omega, hL, fun j hj h => by have := hB _ h; have := (hL.lt j hj).2; omega, hd, hne⟩
variable {c : GCfg} {sh : List Int} {k : Nat} {S : GS}
theorem rLarge_runs (B : Nat → Prop) (n0 r : Nat) (l : List Int) (w : World) (h : RefIn w B n0 r l S) (hI : IF c sh l.length k S) (hc : cfgOk c) (hk : k ≤ 1000) : Runs Try.prog 41 #[.pointer (some ⟨r, 0, none⟩)] w (.int .i64 S.free) w := by
  obtain ⟨wv, Lv, d, h1, h2, h3, h4, hr, hw, hwB, hL, hLB, hd, hne⟩ := h
  have hcell := hr.cell
  simp only [rcells] at hcell
  have hcfg := hI.cfg
  have hlen := hI.len
  have hcc := hc
  unfold cfgOk at hcc
  have hfree := hI.free
  have hfree0 := hI.free0
  have hpart := sumG_part (·.large) (fun x hx => (hI.ent x hx).2.1)
  obtain ⟨_, A, cp, rfl⟩ := own_sl hL
  have hrd := Rd.of_own hL
  refine runs_of_callE ?_
  refine calls_E Try.func41 rfl rfl rfl (Nat.le_of_ble_eq_true rfl) ?_
  simp [go_sem, IntWalk.iteOmega, IntWalk.toNatUp, hcell]
  refine W_loop (fun s wr => ∃ i : Nat, i ≤ S.l.length ∧ s 0 = .pointer (some ⟨r, 0, none⟩) ∧ s 3 = .int .i64 (c.large - sumG (·.large) (S.l.take i)) ∧ s 4 = .int .i64 i ∧ wr = w) (fun s _ => S.l.length - (intOf (s 4)).toNat) ?_ ?_
  · exact ⟨0, by omega, by simp [go_sem], by simp [go_sem, hcfg, sumG], by simp [go_sem], rfl⟩
  · rintro s _ ⟨i, hi, e0, e3, e4, rfl⟩
    by_cases hlt : i < S.l.length
    · have hlt' : (i : Int) < S.l.length := by omega
      obtain ⟨b, o, rfl, hb, hcs⟩ := hrd.cells (by omega)
      have x2 := hcs _ _ (msgs_at S.l i hlt).2.2.1
      rw [← Nat.add_assoc] at x2
      have hst := sumG_take (·.large) hlt
      have hp1 := hpart (i + 1)
      have hp0 := hpart i
      rw [hst] at hp1
      have hx := (hI.ent _ (List.getElem_mem hlt)).2.1
      generalize S.l[i] = x at *
      generalize hs0 : sumG (·.large) (S.l.take i) = s0 at *
      simp [go_sem, IntWalk.iteOmega, IntWalk.toNatUp, hcell, e0, e3, e4, hlt, hlt', x2]
      refine roundEnd.mk ⟨i + 1, by omega, by simp [go_sem, e0], ?_, by simp [go_sem], rfl⟩ ?_
      · rw [hst]; simp [go_sem]; omega
      · simp [go_sem, intOf]; omega
    · obtain rfl : i = S.l.length := by omega
      rw [List.take_of_length_le (Nat.le_refl _)] at e3
      simp [go_sem, IntWalk.iteOmega, IntWalk.toNatUp, hcell, e0, e3, e4]
      omega
theorem noinit_rlarge : Try.prog.inits.idxOf? 41 = none := by kernel_rfl
def sblk (a b c d : Int) : Array Value := #[.int .i64 a, .int .i64 b, .int .i64 c, .int .i64 d]
set_option maxHeartbeats 6400000 in
theorem rOf_any (B : Nat → Prop) (n0 r : Nat) (l : List Int) (w : World) (h : RefIn w B n0 r l S) (hI : IF c sh l.length k S) (hc : cfgOk c) (hk : k ≤ 1000) (hsh : ∀ u, u < l.length → sh.getD u 0 ≤ 1073741824) (v : Int) :
    callE Try.prog 40 #[.pointer (some ⟨r, 0, none⟩), .int .i64 v] w fun u w' => u = .tuple #[(S.ofV v).1.val, .int .i64 (S.ofV v).2] ∧ Below w.heap.size w w' := by
  have kA := ext_alloc w (.cells #[.int .i64 0, .int .i64 0, .int .i64 0, .int .i64 0] 44)
  have hR1 := h.grow kA
  obtain ⟨wv, Lv, d, h1, h2, h3, h4, hr, hw, hwB, hL, hLB, hd, hne⟩ := hR1
  have hcell := hr.cell
  simp only [rcells] at hcell
  have hnn := hI.nn
  have hlen := hI.len
  obtain ⟨_, Aw, cw, rfl⟩ := own_sl hw
  by_cases c1 : v < 0
  · have e : S.ofV v = (GSt.zero, 1) := by rw [GS.ofV, if_neg (by omega)]
    rw [e]
    refine calls_E Try.func40 rfl rfl rfl (Nat.le_of_ble_eq_true rfl) ?_
    simp [go_sem, IntWalk.iteOmega, IntWalk.toNatUp, hcell, c1, GSt.val, GSt.zero]
    exact ext_alloc _ _
  by_cases c2 : (l.length : Int) ≤ v
  · have e : S.ofV v = (GSt.zero, 1) := by rw [GS.ofV, if_neg (by omega)]
    rw [e]
    refine calls_E Try.func40 rfl rfl rfl (Nat.le_of_ble_eq_true rfl) ?_
    simp [go_sem, IntWalk.iteOmega, IntWalk.toNatUp, hcell, c1, c2, GSt.val, GSt.zero]
    exact ext_alloc _ _
  obtain ⟨u, rfl⟩ : ∃ u : Nat, v = u := ⟨v.toNat, by omega⟩
  have hu : u < l.length := by omega
  have e : S.ofV u = (S.st u, 0) := by rw [GS.ofV, if_pos (by omega)]; simp
  rw [e]
  have x0 := iblk_at (l := dropsOf S l.length) (i := u) (by rw [dropsOf_length]; omega)
  rw [dropsOf_at hu] at x0
  have hdc := hd.cell
  have hdl := hd.lt
  have kB := ext_alloc (w.alloc (.cells #[.int .i64 0, .int .i64 0, .int .i64 0, .int .i64 0] 44)) (.cells #[.int .i64 0, .int .i64 0, .int .i64 0, .int .i64 (S.st u).drops] 44)
  have hr2 := hr.keep kB
  have hL2 := row_below hL kB
  have hS2 : Blk ((w.alloc (.cells #[.int .i64 0, .int .i64 0, .int .i64 0, .int .i64 0] 44)).alloc (.cells #[.int .i64 0, .int .i64 0, .int .i64 0, .int .i64 (S.st u).drops] 44)) (w.heap.size + 1) 44 (sblk 0 0 0 (S.st u).drops) := Blk.self_ (by simp)
  have hR2 : Blk ((w.alloc (.cells #[.int .i64 0, .int .i64 0, .int .i64 0, .int .i64 0] 44)).alloc (.cells #[.int .i64 0, .int .i64 0, .int .i64 0, .int .i64 (S.st u).drops] 44)) w.heap.size 44 (sblk 0 0 0 0) := (Blk.self_ rfl).more _
  have kk := ext_trans kA kB
  refine calls_E Try.func40 rfl rfl rfl (Nat.le_of_ble_eq_true rfl) ?_
  simp [go_sem, IntWalk.iteOmega, IntWalk.toNatUp, hcell, c1, c2, hdc, x0, hu]
  generalize (w.alloc (.cells #[.int .i64 0, .int .i64 0, .int .i64 0, .int .i64 0] 44)).alloc (.cells #[.int .i64 0, .int .i64 0, .int .i64 0, .int .i64 (S.st u).drops] 44) = W2 at *
  clear hcell hr hw hL hd hwB hLB hne hdc hdl x0 hr2 hL2 kA kB h1 h2 h3 h4
  obtain ⟨q1, q2, q3⟩ := hI.st u hu
  obtain ⟨m1, m2, m3⟩ := hI.max u hu
  have m4 := hsh u hu
  have hcc := hc
  unfold cfgOk at hcc
  have p1 := sumG_part (onU u fun _ => 1) (l := S.l) (fun x hx => onU_nn (by simp))
  have p2 := sumG_part (onU u (·.large)) (fun x hx => onU_nn (hI.ent x hx).2.1)
  have p3 := sumG_part (onU u (·.own)) (fun x hx => onU_nn (hI.ent x hx).2.2.1)
  refine W_loop (fun s wr => ∃ i : Nat, i ≤ S.l.length ∧ s 0 = .pointer (some ⟨r, 0, none⟩) ∧ s 1 = .int .i64 u ∧ s 4 = .pointer (some ⟨w.heap.size, 0, none⟩) ∧ s 6 = .pointer (some ⟨w.heap.size + 1, 0, none⟩) ∧ s 7 = .int .i64 i ∧
    Blk wr (w.heap.size + 1) 44 (sblk (sumG (onU u fun _ => 1) (S.l.take i)) (sumG (onU u (·.large)) (S.l.take i)) (sumG (onU u (·.own)) (S.l.take i)) (S.st u).drops) ∧ Blk wr w.heap.size 44 (sblk 0 0 0 0) ∧ Below w.heap.size w wr) (fun s _ => S.l.length - (intOf (s 7)).toNat) ?_ ?_
  · exact ⟨0, by omega, by simp [go_sem], by simp [go_sem], by simp [go_sem], by simp [go_sem], by simp [go_sem], hS2, hR2, kk⟩
  · clear hS2 hR2 kk
    rintro s wr ⟨i, hi, e0, e1, e4, e6, e7, hS, hR, hbw⟩
    obtain ⟨wv4, Lv4, d4, _, _, _, _, hr4, _, _, hL4, _, _, _⟩ := h.grow hbw
    have hc4 := hr4.cell
    simp only [rcells] at hc4
    obtain ⟨_, A4, cp4, rfl⟩ := own_sl hL4
    by_cases hlt : i < S.l.length
    · have hlt' : (i : Int) < S.l.length := by omega
      obtain ⟨b, o, rfl, hb, hcs⟩ := (Rd.of_own hL4).cells (by omega)
      have x1 := hcs _ _ (msgs_at S.l i hlt).2.1
      rw [← Nat.add_assoc] at x1
      have t1 := sumG_take (onU u fun _ => 1) hlt
      have t2 := sumG_take (onU u (·.large)) hlt
      have t3 := sumG_take (onU u (·.own)) hlt
      have r1 := p1 (i + 1)
      have r2 := p2 (i + 1)
      have r3 := p3 (i + 1)
      have r1' := p1 i
      have r2' := p2 i
      have r3' := p3 i
      rw [t1] at r1
      rw [t2] at r2
      rw [t3] at r3
      obtain ⟨_, g2, g3, _, _⟩ := hI.ent _ (List.getElem_mem hlt)
      have hmsg := msgs_at S.l i hlt
      generalize S.l[i] = x at *
      generalize sumG (onU u fun _ => 1) (S.l.take i) = M at *
      generalize sumG (onU u (·.large)) (S.l.take i) = La at *
      generalize sumG (onU u (·.own)) (S.l.take i) = Ow at *
      have hSc := hS.cell
      have hSf := hS.frozen
      simp only [sblk] at hSc
      by_cases hx : x.2.v = u
      · have hxe : ((x.2.v : Int) == (u : Int)) = true := by simp [hx]
        have o1 : ∀ f, onU u f x.2 = f x.2 := fun f => if_pos hx
        rw [o1] at t1 t2 t3 r1 r2 r3
        have hS5 : Blk (wr.setCell ⟨w.heap.size + 1, 0, none⟩ (.int .i64 (M + 1))) (w.heap.size + 1) 44 (sblk (M + 1) La Ow (S.st u).drops) := Blk_set hS
        have hR5 := hR.farCell (b := w.heap.size + 1) (o := 0) (by omega) (.int .i64 (M + 1))
        have k5 : Below w.heap.size w (wr.setCell ⟨w.heap.size + 1, 0, none⟩ (.int .i64 (M + 1))) := hbw.setCell (by simp) _
        simp [go_sem, IntWalk.iteOmega, IntWalk.toNatUp, hc4, e0, e1, e4, e6, e7, hlt, hlt', x1, hxe, hSc, hSf]
        generalize wr.setCell ⟨w.heap.size + 1, 0, none⟩ (.int .i64 (M + 1)) = w5 at *
        refine W_cutE (fun s w6 => s 0 = .pointer (some ⟨r, 0, none⟩) ∧ s 1 = .int .i64 u ∧ s 4 = .pointer (some ⟨w.heap.size, 0, none⟩) ∧ s 6 = .pointer (some ⟨w.heap.size + 1, 0, none⟩) ∧ s 7 = .int .i64 i ∧
          Blk w6 (w.heap.size + 1) 44 (sblk (M + 1) (La + x.2.large) Ow (S.st u).drops) ∧ Blk w6 w.heap.size 44 (sblk 0 0 0 0) ∧ Below w.heap.size w w6) ?_ ?_
        · clear hr4 hL4 hc4 hcs
          obtain ⟨wv4, Lv4, d4, _, _, _, _, hr4, _, _, hL4, _, _, _⟩ := h.grow k5.drew
          have hc4 := hr4.cell
          simp only [rcells] at hc4
          obtain ⟨_, A4, cp4, rfl⟩ := own_sl hL4
          obtain ⟨b, o, rfl, hb, hcs⟩ := (Rd.of_own hL4).cells (by omega)
          have x2 := hcs _ _ hmsg.2.2.1
          rw [← Nat.add_assoc] at x2
          have hSd := hS5.drew
          have hSc := hSd.cell
          have hSf := hSd.frozen
          simp only [sblk] at hSc
          refine W_tree (.pure 0 (.pure 2 (.pure 3 (.pure 4 (.pure 6 (.two 1 (.one 5 (.pure 7 (.pure 8 (.one 9 (.pure 10 (.pure 11 (.one 12 (.done)))))))) 5 (.pure 7 (.pure 8 (.two 1 (.one 9 (.pure 10 (.pure 11 (.one 12 (.done))))) 9 (.one 1 (.pure 10 (.pure 11 (.one 12 (.done)))))))))))))) follows (by kernel_rfl) ?_
          simp [go_sem, IntWalk.iteOmega, IntWalk.toNatUp, hc4, e0, e1, e4, e6, e7, hlt, hlt', x2, hSc, hSf]
          refine ⟨?_, ?_, ?_⟩ <;>
          exact atCut.mk ⟨by simp [go_sem, e0], by simp [go_sem, e1], by simp [go_sem, e4], by simp [go_sem, e6], by simp [go_sem, e7], Blk_set (o := 1) hSd, hR5.drew.farCell (by omega) _, k5.drew.setCell (by simp) _⟩
        · clear hS hR hbw hr4 hL4 hc4 hcs hSc hSf hS5 hR5 k5
          rintro s6 w6 ⟨e0, e1, e4, e6, e7, hS6, hR6, k6⟩
          simp [go_sem, IntWalk.iteOmega, IntWalk.toNatUp, e0, e1, e4, e6, e7]
          obtain ⟨wv4, Lv4, d4, _, _, _, _, hr4, _, _, hL4, _, _, _⟩ := h.grow k6.drew
          have hc4 := hr4.cell
          simp only [rcells] at hc4
          obtain ⟨_, A4, cp4, rfl⟩ := own_sl hL4
          obtain ⟨b, o, rfl, hb, hcs⟩ := (Rd.of_own hL4).cells (by omega)
          have x3 := hcs _ _ hmsg.2.2.2
          rw [← Nat.add_assoc] at x3
          have hSd := hS6.drew
          have hSc := hSd.cell
          have hSf := hSd.frozen
          simp only [sblk] at hSc
          refine W_tree (.pure 0 (.pure 2 (.pure 3 (.pure 4 (.pure 6 (.two 1 (.one 5 (.pure 7 (.pure 8 (.one 9 (.pure 10 (.pure 11 (.one 12 (.done)))))))) 5 (.pure 7 (.pure 8 (.two 1 (.one 9 (.pure 10 (.pure 11 (.one 12 (.done))))) 9 (.one 1 (.pure 10 (.pure 11 (.one 12 (.done)))))))))))))) follows (by kernel_rfl) ?_
          simp [go_sem, IntWalk.iteOmega, IntWalk.toNatUp, hc4, e0, e1, e4, e6, e7, hlt, hlt', x3, hSc, hSf]
          refine ⟨?_, ?_, ?_⟩ <;>
          · refine roundEnd.mk ⟨i + 1, by omega, by simp [go_sem, e0], by simp [go_sem, e1], by simp [go_sem, e4], by simp [go_sem, e6], by simp [go_sem], ?_, hR6.drew.farCell (by omega) _, k6.drew.setCell (by simp) _⟩ ?_
            · rw [t1, t2, t3]; exact Blk_set (o := 2) hSd
            · simp [go_sem, intOf]; omega
      · have hxe : ((x.2.v : Int) == (u : Int)) = false := beq_eq_false_iff_ne.2 (by omega)
        have o1 : ∀ f, onU u f x.2 = 0 := fun f => if_neg hx
        rw [o1, Int.add_zero] at t1 t2 t3
        simp [go_sem, IntWalk.iteOmega, IntWalk.toNatUp, hc4, e0, e1, e4, e6, e7, hlt, hlt', x1, hxe]
        refine roundEnd.mk ⟨i + 1, by omega, by simp [go_sem, e0], by simp [go_sem, e1], by simp [go_sem, e4], by simp [go_sem, e6], by simp [go_sem], by rw [t1, t2, t3]; exact hS, hR, hbw⟩ ?_
        simp [go_sem, intOf]; omega
    · obtain rfl : i = S.l.length := by omega
      rw [List.take_of_length_le (Nat.le_refl _), ← q1, ← q2, ← q3] at hS
      have hSc := hS.cell
      have hRc := hR.cell
      have hRf := hR.frozen
      simp only [sblk] at hSc hRc
      have hss := storeSeg_all (t := 44) hR [.int .i64 (S.st u).many, .int .i64 (S.st u).large, .int .i64 (S.st u).own, .int .i64 (S.st u).drops] rfl
      have hR7 := Blk_setRow (cs' := #[.int .i64 (S.st u).many, .int .i64 (S.st u).large, .int .i64 (S.st u).own, .int .i64 (S.st u).drops]) hR
      have hR7c := hR7.cell
      have k7 : Below w.heap.size w (wr.setRow w.heap.size #[.int .i64 (S.st u).many, .int .i64 (S.st u).large, .int .i64 (S.st u).own, .int .i64 (S.st u).drops]) := hbw.trans ((Keeps.setRow (O := fun j => j < w.heap.size) wr w.heap.size _ (by omega)).below hbw.size fun k hk => hk)
      simp [go_sem, IntWalk.iteOmega, IntWalk.toNatUp, hc4, e0, e1, e4, e6, e7, hSc, hRc, hRf, hss, hR7c, GSt.val]
      exact k7
theorem noinit_rof : Try.prog.inits.idxOf? 40 = none := by kernel_rfl
end Go.Proofs.Ytilpmnbnjeahnaa
