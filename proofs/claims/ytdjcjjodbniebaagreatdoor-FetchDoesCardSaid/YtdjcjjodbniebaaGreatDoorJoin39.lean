/-
  Texts joined: FRAsk.
-/
import Derived.Test.YtdjcjjodbniebaaGreatDoorJoin38
namespace Go.Proofs.YtdjcjjodbniebaaGreatDoor
open Go.RowKit
set_option linter.unusedVariables false
set_option linter.unusedSimpArgs false
set_option maxRecDepth 10000
open Classical in
noncomputable def fromStepR (R : RF) (id : List UInt8) (from_ : List Int) (t : List UInt8 × List Int) : List Int := if (endR R t.1).2.2 = 0 ∧ (endR R t.1).2.1 = id then joinL from_ t.2 else from_
noncomputable def fromR (R : RF) (id : List UInt8) : List Int := R.T.foldl (fromStepR R id) []
def askA (R : RF) (id : List UInt8) (y : Int × Bool) : List (List UInt8 × Int × Bool) := if (atL id R.A).isSome then setA id y R.A else R.A ++ [(id, y)]
noncomputable def askR (R : RF) (id : List UInt8) : (Int × Int) × RF :=
  if fromR R id = [] then ((0, 4), R) else if nowR R id = true then ((0, 7), R)
  else (((fromR R id).getD ((numR R id).toNat % (fromR R id).length) 0, 0), { R with A := askA R id (numR R id + 1, true) })
theorem joinL_len (a b : List Int) : (joinL a b).length ≤ 32 := by
  unfold joinL
  have := List.length_filter_le (fun v => decide (v ∈ a) || decide (v ∈ b)) ((List.range 32).map fun v : Nat => (v : Int))
  simpa using this
section
variable {w : World} {O : Nat → Prop} {g : Nat} {R : RF} {tv kv av : Value} {vs : List Value} {ds : List (List UInt8 × Bk × Value)}
def RMut (w w' : World) (O : Nat → Prop) (g : Nat) (R' : RF) (tv kv : Value) (vs : List Value) (ds : List (List UInt8 × Bk × Value)) : Prop := ∃ O' av', RIn w' O' g R' tv kv av' vs ds ∧ Mine O O' w w'
set_option maxHeartbeats 12800000 in
theorem rask_any (h : RIn w O g R tv kv av vs ds) (hok : ROk R) (hA : R.A.length < 100000) {id : List UInt8} (hid : id.length = 32) :
    callE Tryz.prog 69 #[.pointer (some ⟨g, 0, none⟩), .agg (bl id).toArray] w fun r w' => r = .tuple #[.int .i64 (askR R id).1.1, .int .i64 (askR R id).1.2] ∧ RMut w w' O g (askR R id).2 tv kv vs ds := by
  have htn := hok.tn
  have han := hok.an
  have l32 : (bl id).length = 32 := by rw [bl_length]; exact hid
  have kA := ext_alloc w (.cells (bl id).toArray 27)
  have hI : Blk (w.alloc (.cells (bl id).toArray 27)) w.heap.size 27 (bl id).toArray := Blk.self_ rfl
  obtain ⟨-, tA, tc, etv⟩ := own_sl h.trow
  refine calls_E Tryz.func69 rfl rfl rfl (Nat.le_of_ble_eq_true rfl) ?_
  simp [go_sem, IntWalk.iteOmega, IntWalk.toNatUp]
  have hw1s : w.heap.size ≤ (w.alloc (.cells (bl id).toArray 27)).heap.size := kA.size
  generalize w.alloc (.cells (bl id).toArray 27) = w1 at *
  refine W_loop (fun st wr => ∃ (i : Nat) (fr : List Int) (fv : Value), i ≤ R.T.length ∧ st 0 = .pointer (some ⟨g, 0, none⟩) ∧ st 3 = .pointer (some ⟨w.heap.size, 0, none⟩) ∧ st 6 = fv ∧ st 7 = .int .i64 i ∧ wr.ownsRow w1.heap.size 3 1 fv fr.length (intsK .i64 fr) ∧ fr = (R.T.take i).foldl (fromStepR R id) [] ∧ fr.length ≤ 32 ∧ Below w1.heap.size w1 wr) (fun st _ => R.T.length - (intOf (st 7)).toNat) ?_ ?_
  · exact ⟨0, [], .slice none 0 0, by omega, by simp [go_sem], by simp [go_sem], by simp [go_sem], by simp [go_sem], World.ownsRow_nil _ _ _ _, rfl, by simp, Below.refl _ _⟩
  · rintro st wr ⟨i, fr, fv, hi, e0, e3, e6, e7, hfv, hfr, hfn, hB⟩
    have kw := kA.trans (hB.mono kA.size)
    have hw := h.keep kw
    have c34 := hw.c34 hok
    rw [etv] at c34
    by_cases hlt : i < R.T.length
    · have hlt' : (i : Int) < R.T.length := by omega
      obtain ⟨b, o, tc', e, hb, tvi, hvi, hat⟩ := h.tid hok hlt
      rw [e] at etv
      injection etv with ev1 ev2 ev3
      subst ev1 ev3
      have xt := (hat wr kw).1
      have ht32 := (hok.t _ (List.getElem_mem hlt)).1
      have htl := (hok.t _ (List.getElem_mem hlt)).2
      have hrow := (h.rows i tvi (R.T[i]).2 hvi (by simp [hlt])).1
      have hstep : (R.T.take (i + 1)).foldl (fromStepR R id) [] = fromStepR R id fr R.T[i] := by
        rw [take_snoc' hlt, List.foldl_append, ← hfr]
        rfl
      obtain ⟨tt, htt⟩ : ∃ tt, tt = R.T[i] := ⟨_, rfl⟩
      rw [← htt] at xt ht32 hstep htl hrow
      simp [go_sem, IntWalk.iteOmega, IntWalk.toNatUp, e0, e3, e6, e7, c34, hlt, hlt', xt]
      refine callE_of (rway_any hw hok ht32) ?_
      rintro _ w2 ⟨lv, rfl, -, hend32, k2⟩
      obtain ⟨Z, hZ⟩ : ∃ Z, wayR R (R.K.length + 1) [] tt.1 = Z := ⟨_, rfl⟩
      rw [hZ] at hend32 ⊢
      have hstep2 : fromStepR R id fr tt = if Z.2.2 = 0 ∧ Z.2.1 = id then joinL fr tt.2 else fr := by
        unfold fromStepR endR
        rw [hZ]
      have kw2 := kw.trans (k2.mono kw.size)
      have hB2 := hB.trans (k2.mono hB.size)
      have hfv2 := row_below hfv k2
      have lZ : (bl Z.2.1).length = 32 := by rw [bl_length]; exact hend32
      have y2 : ∀ (k : Array Value) (t : TypeId), k.size = 32 → canWrite (w2.alloc (.cells k t)) ⟨w2.heap.size, 0, none⟩ 0 32 = true := fun k t hk => canWrite_all (Blk.self_ rfl) 32 hk
      have y3 : ∀ (k : Array Value) (t : TypeId) (l : List Value), k.size = 32 → l.length = 32 → storeSeg (w2.alloc (.cells k t)) ⟨w2.heap.size, 0, none⟩ 0 l = (w2.alloc (.cells k t)).setRow w2.heap.size l.toArray := fun k t l hk hl => storeSeg_all (Blk.self_ rfl) l (by omega)
      have kV : Below w2.heap.size w2 ((w2.alloc (.cells zeroI.toArray 27)).setRow w2.heap.size (bl Z.2.1).toArray) := below_setRow (ext_alloc w2 _) (Nat.le_refl _) _
      have hV : Blk ((w2.alloc (.cells zeroI.toArray 27)).setRow w2.heap.size (bl Z.2.1).toArray) w2.heap.size 27 (bl Z.2.1).toArray := Blk_setRow (Blk.self_ rfl)
      have hV0 : ∀ (k : Array Value) (t : TypeId), readCells ((w2.alloc (.cells k t)).setRow w2.heap.size (bl Z.2.1).toArray) ⟨w2.heap.size, 0, none⟩ 0 32 = some (bl Z.2.1) := fun k t => readCells_all (Blk_setRow (Blk.self_ (w := w2) (t := t) (cs := k) rfl) (cs' := (bl Z.2.1).toArray)) 32 (by simpa using lZ)
      have hI3 : ∀ (k : Array Value) (t : TypeId), readCells ((w2.alloc (.cells k t)).setRow w2.heap.size (bl Z.2.1).toArray) ⟨w.heap.size, 0, none⟩ 0 32 = some (bl id) := fun k t => readCells_all (((hI.keep hB).keep k2).keep (below_setRow (ext_alloc w2 _) (Nat.le_refl _) _)) 32 (by simpa using l32)
      have hqe := fun W => id_eq Z.2.1 id hend32 hid W
      by_cases hc : Z.2.2 = 0 ∧ Z.2.1 = id
      · have hc1 : (Z.2.2 == 0) = true := by simpa using hc.1
        have hc2 : (Z.2.1 == id) = true := by simpa using hc.2
        rw [if_pos hc] at hstep2
        obtain ⟨-, rA, rc, rfl⟩ := own_sl hrow
        have c34V : ∀ (k : Array Value) (t : TypeId), ((w2.alloc (.cells k t)).setRow w2.heap.size (bl Z.2.1).toArray).cell? ⟨g, 34, none⟩ = some (.slice (some ⟨b, o, none⟩) R.T.length tc') := fun k t => by
          have := (h.keep (kw2.trans ((below_setRow (ext_alloc w2 (.cells k t)) (Nat.le_refl _) (bl Z.2.1).toArray).mono kw2.size))).c34 hok
          rw [e] at this
          exact this
        have c32V : ∀ (k : Array Value) (t : TypeId), ((w2.alloc (.cells k t)).setRow w2.heap.size (bl Z.2.1).toArray).cell? ⟨b, o + i * 33 + 32, none⟩ = some (.slice rA tt.2.length rc) := fun k t => (hat _ (kw2.trans ((below_setRow (ext_alloc w2 (.cells k t)) (Nat.le_refl _) (bl Z.2.1).toArray).mono kw2.size))).2
        obtain ⟨-, fA, fc, rfl⟩ := own_sl hfv2
        simp [go_sem, IntWalk.iteOmega, IntWalk.toNatUp, e0, e3, e6, e7, y2, y3, lZ, bl_one, hV0, hI3, hc1, hqe, hc2, hc.1, c34V, c32V, hlt, hlt']
        rw [← zeroI_lit]
        have kw3 := kw2.trans (kV.mono kw2.size)
        have hB3 := hB2.trans (kV.mono hB2.size)
        have hfv3 := row_below hfv2 kV
        generalize (w2.alloc (.cells zeroI.toArray 27)).setRow w2.heap.size (bl Z.2.1).toArray = w3 at *
        refine callE_of (joined_any (Rd.of_own hfv3) ((Rd.of_own hrow).keep kw3) (by omega) (by omega)) ?_
        rintro jv w4 ⟨hjv, k4⟩
        simp [go_sem, IntWalk.iteOmega, IntWalk.toNatUp, e0, e3, e7]
        refine roundEnd.mk ⟨i + 1, joinL fr tt.2, jv, by omega, by simp [go_sem, e0], by simp [go_sem, e3], by simp [go_sem], by simp [go_sem], own_mono hjv hB3.size, by rw [hstep, hstep2], joinL_len _ _, hB3.trans (k4.mono hB3.size)⟩ ?_
        simp [go_sem, intOf, e7]; omega
      · rw [if_neg hc] at hstep2
        by_cases hc0 : Z.2.2 = 0
        · have hc1 : (Z.2.2 == 0) = true := by simpa using hc0
          have hc2 : (Z.2.1 == id) = false := by
            rw [beq_eq_false_iff_ne]
            exact fun h => hc ⟨hc0, h⟩
          simp [go_sem, IntWalk.iteOmega, IntWalk.toNatUp, e0, e3, e6, e7, y2, y3, lZ, bl_one, hV0, hI3, hc1, hqe, hc2, hc0]
          rw [← zeroI_lit]
          refine roundEnd.mk ⟨i + 1, fr, fv, by omega, by simp [go_sem, e0], by simp [go_sem, e3], by simp [go_sem, e6], by simp [go_sem], row_below hfv2 kV, by rw [hstep, hstep2], hfn, hB2.trans (kV.mono hB2.size)⟩ ?_
          simp [go_sem, intOf, e7]; omega
        · have hc1 : (Z.2.2 == 0) = false := by simpa using hc0
          simp [go_sem, IntWalk.iteOmega, IntWalk.toNatUp, e0, e3, e6, e7, y2, y3, lZ, bl_one, hV0, hI3, hc1, hc0]
          rw [← zeroI_lit]
          refine roundEnd.mk ⟨i + 1, fr, fv, by omega, by simp [go_sem, e0], by simp [go_sem, e3], by simp [go_sem, e6], by simp [go_sem], row_below hfv2 kV, by rw [hstep, hstep2], hfn, hB2.trans (kV.mono hB2.size)⟩ ?_
          simp [go_sem, intOf, e7]; omega
    · obtain rfl : i = R.T.length := by omega
      have hlt' : ¬ (R.T.length : Int) < R.T.length := by omega
      rw [List.take_of_length_le (Nat.le_refl _)] at hfr
      change fr = fromR R id at hfr
      obtain ⟨-, fA, fc, rfl⟩ := own_sl hfv
      have hIw := hI.keep hB
      have xid := readCells_all hIw 32 (by simpa using l32)
      have c34_ := c34
      clear hI kA c34 etv
      by_cases hf0 : fr = []
      · subst hf0
        have hask : askR R id = ((0, 4), R) := by unfold askR; rw [if_pos hfr.symm]
        rw [hask]
        simp [go_sem, IntWalk.iteOmega, IntWalk.toNatUp, e0, e3, e6, e7, c34_, hlt']
        exact ⟨O, av, hw, Mine.same (Keeps.of_ext kw) h.lt⟩
      have hfl : 0 < fr.length := List.length_pos_iff.2 hf0
      have hf1 : ¬ (fr.length : Int) = 0 := by omega
      have hf2 : ((fr.length : Int) == 0) = false := by rw [beq_eq_false_iff_ne]; exact hf1
      simp [go_sem, IntWalk.iteOmega, IntWalk.toNatUp, e0, e3, e6, e7, c34_, hlt', hf0, hf1, hf2, xid]
      refine callE_of (rasked_any hw hok hid) ?_
      rintro _ w2 ⟨hcase, k2⟩
      have kw2 := kw.trans (k2.mono kw.size)
      have hw2 := hw.keep k2
      have hI2 := hIw.keep k2
      have hfv2 := row_below hfv k2
      rcases hcase with ⟨k, hk, rfl, hka, hkno⟩ | ⟨rfl, hno⟩
      · have hk0 : ¬ (k : Int) < 0 := by omega
        have hat1 := atL_first hk hka hkno
        have hnow : nowR R id = (R.A[k]).2.2 := by unfold nowR; rw [hat1]; rfl
        have hnum : numR R id = (R.A[k]).2.1 := by unfold numR; rw [hat1]; rfl
        have hRk := (hok.a _ (List.getElem_mem hk)).2
        have hkI : (k : Int) < R.A.length := by omega
        have c36 := hw2.c36 hok
        obtain ⟨ab, ac, cur, rfl, hblk⟩ := hw2.ablk (by omega)
        obtain ⟨ab', ac', ee, hab, hac⟩ := hw2.acell hok hk
        injection ee with e1 e2 e9
        injection e1 with e1
        injection e1 with e1
        subst e1
        have xa := (hac w2 (Below.refl _ _)).2
        have xn := (hac w2 (Below.refl _ _)).1
        have hfz := hblk.frozen
        have l1 : (bl (R.A[k]).1).length = 32 := by rw [bl_length]; exact (hok.a _ (List.getElem_mem hk)).1
        cases hb : (R.A[k]).2.2 with
        | true =>
          rw [hb] at xa hnow
          have hask : askR R id = ((0, 7), R) := by unfold askR; rw [if_neg (by rw [← hfr]; exact hf0), if_pos hnow]
          rw [hask]
          simp [go_sem, IntWalk.iteOmega, IntWalk.toNatUp, e0, e3, e6, hk0, hk, hkI, c36, xa]
          exact ⟨O, _, hw2, Mine.same (Keeps.of_ext kw2) h.lt⟩
        | false =>
          rw [hb] at xa hnow
          obtain ⟨N, hN⟩ : ∃ N, N = (R.A[k]).2.1 := ⟨_, rfl⟩
          rw [← hN] at xn hnum hRk
          have hask : askR R id = ((fr.getD (N.toNat % fr.length) 0, 0), { R with A := setA id (N + 1, true) R.A }) := by
            unfold askR askA
            rw [if_neg (by rw [← hfr]; exact hf0), if_neg (by rw [hnow]; decide), hnum, ← hfr, hat1]
            rfl
          rw [hask]
          have hE : IntKind.i64.wrap (N + 1) = N + 1 := by rw [wrap_i64_if, if_pos (by omega)]
          obtain ⟨md, hmd⟩ : ∃ md, md = N.toNat % fr.length := ⟨_, rfl⟩
          have hml : md < fr.length := by rw [hmd]; exact Nat.mod_lt _ hfl
          have hE2 : N.tmod (fr.length : Int) = (md : Int) := by
            rw [Int.tmod_eq_emod_of_nonneg hRk.1, hmd, Int.natCast_emod, Int.toNat_of_nonneg hRk.1]
          rw [← hmd]
          have hmI : (md : Int) < fr.length := by omega
          have hp1 := hw2.putA (aEnc_len hok) hk (y := (N + 1, false)) (j := 32) (v := .int .i64 (N + 1)) (by decide) (by
            unfold aEnc
            rw [List.set_append_right _ _ (by omega), l1, hb]
            rfl)
          have hlen1 : ∀ x ∈ R.A.set k ((R.A[k]).1, N + 1, false), (aEnc x).length = 34 := fun x hx => by
            rcases List.mem_or_eq_of_mem_set hx with hx | rfl
            · exact aEnc_len hok x hx
            · simp [aEnc, bl_length, hka, hid]
          have hk1 : k < (R.A.set k ((R.A[k]).1, N + 1, false)).length := by rw [List.length_set]; exact hk
          have hg1 : (R.A.set k ((R.A[k]).1, N + 1, false))[k] = ((R.A[k]).1, N + 1, false) := by simp
          obtain ⟨R1, hR1⟩ : ∃ R1 : RF, R1 = { R with A := R.A.set k ((R.A[k]).1, N + 1, false) } := ⟨_, rfl⟩
          obtain ⟨w3, hw3⟩ : ∃ w3, w3 = w2.setCell ⟨ab, k * 34 + 32, none⟩ (.int .i64 (N + 1)) := ⟨_, rfl⟩
          have hR1A : R1.A = R.A.set k ((R.A[k]).1, N + 1, false) := by rw [hR1]
          have hn1 : R1.A.length = R.A.length := by rw [hR1A, List.length_set]
          have hp1' : RIn w3 O g R1 tv kv (.slice (some ⟨ab, 0, none⟩) R1.A.length ac) vs ds := by
            rw [hn1, hR1, hw3]
            exact hp1.1
          have hk1' : k < R1.A.length := by omega
          have hg1' : R1.A[k] = ((R.A[k]).1, N + 1, false) := by simp [hR1A]
          have hp2 := hp1'.putA (by rw [hR1A]; exact hlen1) hk1' (y := (N + 1, true)) (j := 33) (v := .bool true) (by decide) (by
            rw [hg1']
            unfold aEnc
            dsimp only
            rw [List.set_append_right _ _ (by omega), l1]
            rfl)
          have hfin : ({ R1 with A := R1.A.set k ((R1.A[k]).1, N + 1, true) } : RF) = { R with A := setA id (N + 1, true) R.A } := by
            rw [setA_first hk hka hkno, hg1', hR1A, List.set_set, hka, hR1]
          rw [hfin] at hp2
          have c36b : w3.cell? ⟨g, 36, none⟩ = some (.slice (some ⟨ab, 0, none⟩) R.A.length ac) := by
            rw [hp1'.blk.cell, List.getElem?_toArray, hn1]
            rw [hR1]
            exact rcells_at hok.last 4
          have c36c : (w3.setCell ⟨ab, k * 34 + 33, none⟩ (.bool true)).cell? ⟨g, 36, none⟩ = some (.slice (some ⟨ab, 0, none⟩) R.A.length ac) := by
            rw [hp2.1.blk.cell, List.getElem?_toArray, hn1]
            exact rcells_at hok.last 4
          have hb3 : Blk w3 ab 127 (cur.setIfInBounds (k * 34 + 32) (.int .i64 (N + 1))) := by rw [hw3]; exact Blk_set hblk
          have hfz3 := hb3.frozen
          have x33 : w3.cell? ⟨ab, k * 34 + 33, none⟩ = some (.bool false) := by
            rw [hb3.cell, Array.getElem?_setIfInBounds, if_neg (by omega), ← hblk.cell]
            exact xa
          have hkk3 : Keeps (fun j => j ≠ ab) w2 w3 := by rw [hw3]; exact Keeps.setCell _ _ _ (fun hh => hh rfl)
          have hkk4 : Keeps (fun j => j ≠ ab) w2 (w3.setCell ⟨ab, k * 34 + 33, none⟩ (.bool true)) := hkk3.trans (Keeps.setCell _ _ _ (fun hh => hh rfl))
          have hfne := row_ne hfv2 hblk (by decide)
          have hfv4 := row_keeps hfv2 hkk4 fun j hj e => hfne (by rw [hj, e])
          obtain ⟨fb, fo, rfl, hfb, hfc⟩ := (Rd.of_own hfv4).cells (by omega)
          have xf : (w3.setCell ⟨ab, k * 34 + 33, none⟩ (.bool true)).cell? ⟨fb, fo + md, none⟩ = some (.int .i64 (fr.getD md 0)) := hfc md _ (by simp [intsK, hml])
          have hMine : Mine O O w (w3.setCell ⟨ab, k * 34 + 33, none⟩ (.bool true)) := by
            refine Mine.same ((Keeps.of_ext kw2).trans ?_) h.lt
            have h1 := hp1.2
            rw [← hw3] at h1
            exact h1.trans hp2.2
          obtain ⟨gd, hgd⟩ : ∃ gd, gd = fr.getD md 0 := ⟨_, rfl⟩
          rw [← hgd] at xf ⊢
          simp [go_sem, IntWalk.iteOmega, IntWalk.toNatUp, e0, e3, e6, hk0, hk, hkI, c36, xa, xn, hfz, hE, ← hw3, c36b, c36c, hfz3, x33, hE2, hml, hmI, xf, hfl, hf0, hf1]
          exact ⟨O, _, hp2.1, hMine⟩
      · simp [go_sem, IntWalk.iteOmega, IntWalk.toNatUp, e0, e3, e6]
        refine W_cutE (fun s wz => ∃ av' : Value, s 0 = .pointer (some ⟨g, 0, none⟩) ∧ s 3 = .pointer (some ⟨w.heap.size, 0, none⟩) ∧ s 6 = .slice fA fr.length fc ∧ RIn wz (fun j => O j ∨ av'.ownBlock = some j) g { R with A := R.A ++ [(id, 0, false)] } tv kv av' vs ds ∧ Mine O (fun j => O j ∨ av'.ownBlock = some j) w2 wz ∧ (∀ j, av'.ownBlock = some j → w2.heap.size ≤ j)) ?_ ?_
        · refine W_flow (fun j => j = w.heap.size) (.pure 0 (.pure 1 (.pure 2 (.pure 3 (.pure 6 (.pure 7 (.two 4 (.two 5 (.one 8 (.one 9 (.pure 10 (.pure 11 (.one 12 (.done)))))) 8 (.one 5 (.one 9 (.pure 10 (.pure 11 (.one 12 (.done))))))) 8 (.one 4 (.one 5 (.one 9 (.pure 10 (.pure 11 (.one 12 (.done)))))))))))))) follows (by kernel_rfl) ?_
          have hq := held_refl (fun j => j = w.heap.size) w2.drew
          have hwd := hw2.keep (ext_drew w2)
          have hId := hI2.drew
          have kd := ext_drew w2
          have hsd : w2.heap.size = w2.drew.heap.size := rfl
          generalize w2.drew = v2 at *
          have c36 := hwd.c36 hok
          have xi := readCells_all hId 32 (by simpa using l32)
          have hil := hId.lt
          have hqa : ∀ o, heldE (fun j => j = w.heap.size) v2 (v2.alloc o) := fun o => hq.alloc o
          have c36a : ∀ o, (v2.alloc o).cell? ⟨g, 36, none⟩ = some av := fun o => (hwd.keep (ext_alloc v2 o)).c36 hok
          simp [go_sem, IntWalk.iteOmega, IntWalk.toNatUp, e0, e3, e6, hq, hqa, c36, c36a, xi, hil, l32]
          have hfa := fold_a (bl id) l32
          obtain ⟨-, aA, ac, rfl⟩ := own_sl hwd.arow
          have h1a : allOne (R.A.flatMap aEnc) = true := allOne_of fun v hv => by
            obtain ⟨x, hx, hv⟩ := List.mem_flatMap.1 hv
            unfold aEnc at hv
            rcases List.mem_append.1 hv with hv | hv
            · exact allOne_mem (bl_one x.1) v hv
            · simp at hv
              rcases hv with rfl | rfl <;> rfl
          have lA : (bl id ++ [Value.int .i64 0, Value.bool false]).length = 34 := by simp [l32]
          have hoA : allOne (bl id ++ [Value.int .i64 0, Value.bool false]) = true := allOne_of fun v hv => by
            rcases List.mem_append.1 hv with hv | hv
            · exact allOne_mem (bl_one id) v hv
            · simp at hv
              rcases hv with rfl | rfl <;> rfl
          have hfix : ∀ (u : Value) (wz : World), wz.ownsRow v2.heap.size 127 34 u (0 + R.A.length + 1) ([] ++ R.A.flatMap aEnc ++ (bl id ++ [Value.int .i64 0, Value.bool false])) → wz.ownsRow v2.heap.size 127 34 u (R.A ++ [(id, 0, false)]).length ((R.A ++ [(id, 0, false)]).flatMap aEnc) := fun u wz hh => by
            have e1 : (R.A ++ [(id, 0, false)]).length = 0 + R.A.length + 1 := by simp
            have e2 : (R.A ++ [(id, (0 : Int), false)]).flatMap aEnc = [] ++ R.A.flatMap aEnc ++ (bl id ++ [Value.int .i64 0, Value.bool false]) := by
              rw [List.flatMap_append]
              simp [aEnc]
            rw [e1, e2]
            exact hh
          have hgne : g < w.heap.size := Nat.lt_of_lt_of_le (h.lt g h.og) (Nat.le_refl _)
          refine ⟨⟨?_, ?_⟩, ?_⟩
          · refine appendE v2.heap.size 127 34 48 Tryz.underlying123 el127 (World.ownsRow_nil _ _ _ _) (Rd.of_own hwd.arow) h1a (by unfold maxLen; omega) (by omega) (Nat.le_refl _) ?_
            intro u1 w4 hr4 hg4 hb4
            have k4 : Below v2.heap.size v2 w4 := (Below.refl _ _).grown hg4 (Nat.le_refl _) (fun j hj => by cases hj)
            have hq4 := hq.below k4
            simp [go_sem, IntWalk.iteOmega, IntWalk.toNatUp, hq4, l32]
            rw [hfa]
            simp [go_sem, IntWalk.iteOmega, IntWalk.toNatUp, lA]
            rw [fold_a34 _ lA]
            have kI := ext_alloc w4 (.cells (bl id ++ [Value.int .i64 0, Value.bool false]).toArray 127)
            have hrI := rd_one (Blk.self_ (w := w4) (t := 127) (cs := (bl id ++ [Value.int .i64 0, Value.bool false]).toArray) rfl) lA
            have hr5 := row_below hr4 kI
            have k5 := k4.trans (kI.mono k4.size)
            refine ⟨hq.below k5, ?_⟩
            generalize w4.alloc (.cells (bl id ++ [Value.int .i64 0, Value.bool false]).toArray 127) = w5 at *
            refine appendE v2.heap.size 127 34 48 Tryz.underlying123 el127 hr5 hrI hoA (by unfold maxLen; omega) (by omega) k5.size ?_
            intro u2 w6 hr6 hg6 hb6
            have k6 := k5.grown hg6 k5.size fun j hj => (hr5.lt j hj).1
            have hb := (hwd.keep k6).blk
            have hfz := hb.frozen
            have c36 := (hwd.keep k6).c36 hok
            have hq6 := hq.below k6
            have hrow := hfix _ _ hr6
            obtain ⟨-, uA, uc, rfl⟩ := own_sl hr6
            have hlA : 0 + R.A.length + 1 = R.A.length + 1 := by omega
            have hq7 := hq6.set (g := g) (o := 36) (.slice uA (0 + R.A.length + 1) uc) (by omega)
            rw [hlA] at hrow hq7
            simp [go_sem, IntWalk.iteOmega, IntWalk.toNatUp, hq6, hfz, c36, hq7]
            have hN := hwd.newA hok.last k6 hrow
            exact atCut.mk ⟨_, by simp [go_sem, e0], by simp [go_sem, e3], by simp [go_sem, e6], hN.1, hN.2.before (Keeps.of_ext kd), fun j hj => by have := (hrow.lt j hj).1; omega⟩
          · rw [hfa]
            simp [go_sem, IntWalk.iteOmega, IntWalk.toNatUp, lA, hq, hqa, c36a]
            rw [fold_a34 _ lA]
            have k3 := ext_alloc v2 (.cells (bl id ++ [Value.int .i64 0, Value.bool false]).toArray 127)
            have hI3 : Blk (v2.alloc (.cells (bl id ++ [Value.int .i64 0, Value.bool false]).toArray 127)) v2.heap.size 127 (bl id ++ [Value.int .i64 0, Value.bool false]).toArray := Blk.self_ rfl
            generalize v2.alloc (.cells (bl id ++ [Value.int .i64 0, Value.bool false]).toArray 127) = w3 at *
            refine appendE v2.heap.size 127 34 48 Tryz.underlying123 el127 (World.ownsRow_nil _ _ _ _) ((Rd.of_own hwd.arow).keep k3) h1a (by unfold maxLen; omega) (by omega) k3.size ?_
            intro u1 w5 hr5 hg4 hb4
            have k35 : Below w3.heap.size w3 w5 := (Below.refl _ _).grown hg4 (Nat.le_refl _) (fun j hj => by cases hj)
            have k5 := k3.trans (k35.mono k3.size)
            have hq5 := hq.below k5
            have hrI := rd_one (hI3.keep k35) lA
            simp [go_sem, IntWalk.iteOmega, IntWalk.toNatUp, hq5]
            refine appendE v2.heap.size 127 34 48 Tryz.underlying123 el127 hr5 hrI hoA (by unfold maxLen; omega) (by omega) k5.size ?_
            intro u2 w6 hr6 hg6 hb6
            have k6 := k5.grown hg6 k5.size fun j hj => (hr5.lt j hj).1
            have hb := (hwd.keep k6).blk
            have hfz := hb.frozen
            have c36 := (hwd.keep k6).c36 hok
            have hq6 := hq.below k6
            have hrow := hfix _ _ hr6
            obtain ⟨-, uA, uc, rfl⟩ := own_sl hr6
            have hlA : 0 + R.A.length + 1 = R.A.length + 1 := by omega
            have hq7 := hq6.set (g := g) (o := 36) (.slice uA (0 + R.A.length + 1) uc) (by omega)
            rw [hlA] at hrow hq7
            simp [go_sem, IntWalk.iteOmega, IntWalk.toNatUp, hq6, hfz, c36, hq7]
            have hN := hwd.newA hok.last k6 hrow
            exact atCut.mk ⟨_, by simp [go_sem, e0], by simp [go_sem, e3], by simp [go_sem, e6], hN.1, hN.2.before (Keeps.of_ext kd), fun j hj => by have := (hrow.lt j hj).1; omega⟩
          · rw [hfa]
            simp [go_sem, IntWalk.iteOmega, IntWalk.toNatUp, lA, hq, hqa, c36a]
            rw [fold_a34 _ lA]
            have k3 := ext_alloc v2 (.cells (bl id ++ [Value.int .i64 0, Value.bool false]).toArray 127)
            have hI3 : Blk (v2.alloc (.cells (bl id ++ [Value.int .i64 0, Value.bool false]).toArray 127)) v2.heap.size 127 (bl id ++ [Value.int .i64 0, Value.bool false]).toArray := Blk.self_ rfl
            generalize v2.alloc (.cells (bl id ++ [Value.int .i64 0, Value.bool false]).toArray 127) = w3 at *
            refine appendE v2.heap.size 127 34 48 Tryz.underlying123 el127 (World.ownsRow_nil _ _ _ _) ((Rd.of_own hwd.arow).keep k3) h1a (by unfold maxLen; omega) (by omega) k3.size ?_
            intro u1 w5 hr5 hg4 hb4
            have k35 : Below w3.heap.size w3 w5 := (Below.refl _ _).grown hg4 (Nat.le_refl _) (fun j hj => by cases hj)
            have k5 := k3.trans (k35.mono k3.size)
            have hq5 := hq.below k5
            have hrI := rd_one (hI3.keep k35) lA
            simp [go_sem, IntWalk.iteOmega, IntWalk.toNatUp, hq5]
            refine appendE v2.heap.size 127 34 48 Tryz.underlying123 el127 hr5 hrI hoA (by unfold maxLen; omega) (by omega) k5.size ?_
            intro u2 w6 hr6 hg6 hb6
            have k6 := k5.grown hg6 k5.size fun j hj => (hr5.lt j hj).1
            have hb := (hwd.keep k6).blk
            have hfz := hb.frozen
            have c36 := (hwd.keep k6).c36 hok
            have hq6 := hq.below k6
            have hrow := hfix _ _ hr6
            obtain ⟨-, uA, uc, rfl⟩ := own_sl hr6
            have hlA : 0 + R.A.length + 1 = R.A.length + 1 := by omega
            have hq7 := hq6.set (g := g) (o := 36) (.slice uA (0 + R.A.length + 1) uc) (by omega)
            rw [hlA] at hrow hq7
            simp [go_sem, IntWalk.iteOmega, IntWalk.toNatUp, hq6, hfz, c36, hq7]
            have hN := hwd.newA hok.last k6 hrow
            exact atCut.mk ⟨_, by simp [go_sem, e0], by simp [go_sem, e3], by simp [go_sem, e6], hN.1, hN.2.before (Keeps.of_ext kd), fun j hj => by have := (hrow.lt j hj).1; omega⟩
        · rintro s7 w7 ⟨av', e0, e3, e6, h7, hM7, hao⟩
          have hnow : nowR R id = false := by unfold nowR; rw [atL_no hno]; rfl
          have hnum : numR R id = 0 := by unfold numR; rw [atL_no hno]; rfl
          obtain ⟨RN, hRN⟩ : ∃ RN : RF, RN = { R with A := R.A ++ [(id, 0, false)] } := ⟨_, rfl⟩
          obtain ⟨ON, hON⟩ : ∃ ON : Nat → Prop, ON = fun j => O j ∨ av'.ownBlock = some j := ⟨_, rfl⟩
          rw [← hRN, ← hON] at h7
          rw [← hON] at hM7
          have hRNA : RN.A = R.A ++ [(id, 0, false)] := by rw [hRN]
          have hokN : ROk RN := by
            rw [hRN]
            refine ⟨hok.last, hok.hlo, hok.hhi, hok.room, hok.tn, hok.t, hok.kn, hok.k, ?_, fun x hx => ?_⟩
            · show (R.A ++ [(id, (0 : Int), false)]).length ≤ 100000
              rw [List.length_append]
              show R.A.length + 1 ≤ 100000
              omega
            · rcases List.mem_append.1 hx with hx | hx
              · exact hok.a x hx
              · obtain rfl : x = (id, 0, false) := by simpa using hx
                exact ⟨hid, by show (0 : Int) ≤ 0; decide, by show (0 : Int) ≤ 4611686018427387904; decide⟩
          obtain ⟨k, hkd⟩ : ∃ k, k = R.A.length := ⟨_, rfl⟩
          have hlenN : RN.A.length = k + 1 := by rw [hRNA, List.length_append, hkd]; rfl
          have hk : k < RN.A.length := by omega
          have hgk : RN.A[k] = (id, 0, false) := by simp [hRNA, hkd]
          have hka : (RN.A[k]).1 = id := by rw [hgk]
          have hb : (RN.A[k]).2.2 = false := by rw [hgk]
          have haskA : askA R id (0 + 1, true) = RN.A.set k (id, 0 + 1, true) := by
            unfold askA
            rw [atL_no hno, if_neg (by simp), hRNA, hkd]
            simp
          have hkI : (k : Int) < RN.A.length := by omega
          have hk0 : ¬ (k : Int) < 0 := by omega
          have hkw : IntKind.i64.wrap ((RN.A.length : Int) - 1) = (k : Int) := by rw [wrap_i64_if, if_pos (by omega)]; omega
          have c36 := h7.c36 hokN
          obtain ⟨ab, ac, cur, rfl, hblk⟩ := h7.ablk (by omega)
          obtain ⟨ab', ac', ee, hab, hac⟩ := h7.acell hokN hk
          injection ee with e1 e2 e9
          injection e1 with e1
          injection e1 with e1
          subst e1
          have xa := (hac w7 (Below.refl _ _)).2
          have xn := (hac w7 (Below.refl _ _)).1
          have hfz := hblk.frozen
          have l1 : (bl (RN.A[k]).1).length = 32 := by rw [bl_length, hka]; exact hid
          obtain ⟨N, hN⟩ : ∃ N : Int, N = 0 := ⟨_, rfl⟩
          have hN2 : (RN.A[k]).2.1 = N := by rw [hgk, hN]
          rw [hN2] at xn
          rw [hb] at xa
          have hRk : 0 ≤ N ∧ N ≤ 4611686018427387904 := by omega
          rw [← hN] at haskA hnum
          have hask : askR R id = ((fr.getD (N.toNat % fr.length) 0, 0), { R with A := askA R id (N + 1, true) }) := by
            unfold askR
            rw [if_neg (by rw [← hfr]; exact hf0), if_neg (by rw [hnow]; decide), hnum, ← hfr]
          rw [hask]
          have hfv7 : w7.ownsRow w1.heap.size 3 1 (.slice fA fr.length fc) fr.length (intsK .i64 fr) := row_keeps hfv2 hM7.2.2 fun j hj hO => by
            have h1 := (hfv2.lt j hj).1
            have h2 := h.lt j hO
            have h3 := hw1s
            omega
          have hE : IntKind.i64.wrap (N + 1) = N + 1 := by rw [wrap_i64_if, if_pos (by omega)]
          obtain ⟨md, hmd⟩ : ∃ md, md = N.toNat % fr.length := ⟨_, rfl⟩
          have hml : md < fr.length := by rw [hmd]; exact Nat.mod_lt _ hfl
          have hE2 : N.tmod (fr.length : Int) = (md : Int) := by
            rw [Int.tmod_eq_emod_of_nonneg hRk.1, hmd, Int.natCast_emod, Int.toNat_of_nonneg hRk.1]
          rw [← hmd]
          have hmI : (md : Int) < fr.length := by omega
          have hp1 := h7.putA (aEnc_len hokN) hk (y := (N + 1, false)) (j := 32) (v := .int .i64 (N + 1)) (by decide) (by
            unfold aEnc
            rw [List.set_append_right _ _ (by omega), l1, hb]
            rfl)
          have hlen1 : ∀ x ∈ RN.A.set k ((RN.A[k]).1, N + 1, false), (aEnc x).length = 34 := fun x hx => by
            rcases List.mem_or_eq_of_mem_set hx with hx | rfl
            · exact aEnc_len hokN x hx
            · simp [aEnc, bl_length, hka, hid]
          have hk1 : k < (RN.A.set k ((RN.A[k]).1, N + 1, false)).length := by rw [List.length_set]; exact hk
          have hg1 : (RN.A.set k ((RN.A[k]).1, N + 1, false))[k] = ((RN.A[k]).1, N + 1, false) := by simp
          obtain ⟨R1, hR1⟩ : ∃ R1 : RF, R1 = { RN with A := RN.A.set k ((RN.A[k]).1, N + 1, false) } := ⟨_, rfl⟩
          obtain ⟨w3, hw3⟩ : ∃ w3, w3 = w7.setCell ⟨ab, k * 34 + 32, none⟩ (.int .i64 (N + 1)) := ⟨_, rfl⟩
          have hR1A : R1.A = RN.A.set k ((RN.A[k]).1, N + 1, false) := by rw [hR1]
          have hn1 : R1.A.length = RN.A.length := by rw [hR1A, List.length_set]
          have hp1' : RIn w3 ON g R1 tv kv (.slice (some ⟨ab, 0, none⟩) R1.A.length ac) vs ds := by
            rw [hn1, hR1, hw3]
            exact hp1.1
          have hk1' : k < R1.A.length := by omega
          have hg1' : R1.A[k] = ((RN.A[k]).1, N + 1, false) := by simp [hR1A]
          have hp2 := hp1'.putA (by rw [hR1A]; exact hlen1) hk1' (y := (N + 1, true)) (j := 33) (v := .bool true) (by decide) (by
            rw [hg1']
            unfold aEnc
            dsimp only
            rw [List.set_append_right _ _ (by omega), l1]
            rfl)
          have hfin : ({ R1 with A := R1.A.set k ((R1.A[k]).1, N + 1, true) } : RF) = { R with A := askA R id (N + 1, true) } := by
            rw [hg1', hR1A, List.set_set, hka, hR1, haskA]
            subst hRN
            rfl
          rw [hfin] at hp2
          have c36b : w3.cell? ⟨g, 36, none⟩ = some (.slice (some ⟨ab, 0, none⟩) RN.A.length ac) := by
            rw [hp1'.blk.cell, List.getElem?_toArray, hn1]
            rw [hR1]
            exact rcells_at hokN.last 4
          have c36c : (w3.setCell ⟨ab, k * 34 + 33, none⟩ (.bool true)).cell? ⟨g, 36, none⟩ = some (.slice (some ⟨ab, 0, none⟩) RN.A.length ac) := by
            rw [hp2.1.blk.cell, List.getElem?_toArray, hn1]
            exact rcells_at hok.last 4
          have hb3 : Blk w3 ab 127 (cur.setIfInBounds (k * 34 + 32) (.int .i64 (N + 1))) := by rw [hw3]; exact Blk_set hblk
          have hfz3 := hb3.frozen
          have x33 : w3.cell? ⟨ab, k * 34 + 33, none⟩ = some (.bool false) := by
            rw [hb3.cell, Array.getElem?_setIfInBounds, if_neg (by omega), ← hblk.cell]
            exact xa
          have hkk3 : Keeps (fun j => j ≠ ab) w7 w3 := by rw [hw3]; exact Keeps.setCell _ _ _ (fun hh => hh rfl)
          have hkk4 : Keeps (fun j => j ≠ ab) w7 (w3.setCell ⟨ab, k * 34 + 33, none⟩ (.bool true)) := hkk3.trans (Keeps.setCell _ _ _ (fun hh => hh rfl))
          have hfne := row_ne hfv7 hblk (by decide)
          have hfv4 := row_keeps hfv7 hkk4 fun j hj e => hfne (by rw [hj, e])
          obtain ⟨fb, fo, rfl, hfb, hfc⟩ := (Rd.of_own hfv4).cells (by omega)
          have xf : (w3.setCell ⟨ab, k * 34 + 33, none⟩ (.bool true)).cell? ⟨fb, fo + md, none⟩ = some (.int .i64 (fr.getD md 0)) := hfc md _ (by simp [intsK, hml])
          have hMine : Mine O ON w (w3.setCell ⟨ab, k * 34 + 33, none⟩ (.bool true)) := by
            have h1 := hp1.2
            rw [← hw3] at h1
            have h2 := h1.trans hp2.2
            have hMw := hM7.before (Keeps.of_ext kw2)
            refine ⟨hMw.1, fun j hj => Nat.lt_of_lt_of_le (hMw.2.1 j hj) h2.size, ?_⟩
            refine ((hMw.2.2.mono (O' := fun j => ¬ O j ∧ j < w.heap.size) fun j _ hj => hj.1).trans (h2.mono fun j _ hj hO' => ?_)).mono fun j hj hn => ⟨hn, hj⟩
            rcases hMw.1 j hO' with h3 | h3
            · exact hj.1 h3
            · have := hj.2
              omega
          obtain ⟨gd, hgd⟩ : ∃ gd, gd = fr.getD md 0 := ⟨_, rfl⟩
          rw [← hgd] at xf ⊢
          simp [go_sem, IntWalk.iteOmega, IntWalk.toNatUp, e0, e3, e6, hkw, hk0, hk, hkI, c36, xa, xn, hfz, hE, ← hw3, c36b, c36c, hfz3, x33, hE2, hml, hmI, xf, hfl, hf0, hf1]
          exact ⟨ON, _, hp2.1, hMine⟩
end
end Go.Proofs.YtdjcjjodbniebaaGreatDoor
