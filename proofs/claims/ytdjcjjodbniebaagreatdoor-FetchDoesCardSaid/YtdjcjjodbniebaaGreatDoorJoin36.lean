/-
  Texts joined: FRWay, FContI.
-/
import Derived.Test.YtdjcjjodbniebaaGreatDoorJoin35
namespace Go.Proofs.YtdjcjjodbniebaaGreatDoor
open Go.RowKit
set_option linter.unusedVariables false
set_option linter.unusedSimpArgs false
set_option maxRecDepth 10000
theorem atL_first {α : Type} {a : List UInt8} : ∀ {L : List (List UInt8 × α)} {k : Nat} (hk : k < L.length), (L[k]).1 = a → (∀ m (hm : m < L.length), m < k → (L[m]).1 ≠ a) → atL a L = some (L[k]).2
  | [], k, hk, _, _ => by simp at hk
  | x :: L, 0, hk, h, _ => by
    have h' : x.1 = a := h
    rw [atL_cons, if_pos h'.symm]
    rfl
  | x :: L, k + 1, hk, h, hno => by
    have h0 : x.1 ≠ a := hno 0 (by simp) (by omega)
    rw [atL_cons, if_neg fun e => h0 e.symm]
    exact atL_first (L := L) (k := k) (by simpa using hk) h fun m hm hmk => hno (m + 1) (by simpa using hm) (by omega)
theorem atL_no {α : Type} {a : List UInt8} {L : List (List UInt8 × α)} (h : ∀ m (hm : m < L.length), (L[m]).1 ≠ a) : atL a L = none := atL_none fun t ht => by
  obtain ⟨m, hm, rfl⟩ := List.getElem_of_mem ht
  exact h m hm
def wayOff (R : RF) (l : List Bk) (b : Bk) : Prop := ∃ c, l.getLast? = some c ∧ c.height - 1 ≠ b.height
def wayOut (R : RF) (b : Bk) : Prop := b.height ≤ R.height ∨ decide (b.height - 1 = R.height) ≠ decide (b.parent = R.last)
open Classical in
noncomputable def wayR (R : RF) : Nat → List Bk → List UInt8 → List Bk × List UInt8 × Int
  | 0, l, id => (l, id, 2)
  | n + 1, l, id => if id = R.last then (l, id, 1) else match atL id R.K with
    | none => (l, id, 0)
    | some b => if wayOff R l b then (l, id, 2) else if wayOut R b then (l ++ [b], id, 2) else wayR R n (l ++ [b]) b.parent
theorem wayR_last {R : RF} {n : Nat} {l : List Bk} {id : List UInt8} (h : id = R.last) : wayR R (n + 1) l id = (l, id, 1) := by unfold wayR; rw [if_pos h]
theorem wayR_none {R : RF} {n : Nat} {l : List Bk} {id : List UInt8} (h : id ≠ R.last) (hk : atL id R.K = none) : wayR R (n + 1) l id = (l, id, 0) := by unfold wayR; rw [if_neg h, hk]
theorem wayR_off {R : RF} {n : Nat} {l : List Bk} {id : List UInt8} {b : Bk} (h : id ≠ R.last) (hk : atL id R.K = some b) (hb : wayOff R l b) : wayR R (n + 1) l id = (l, id, 2) := by
  conv => lhs; unfold wayR
  rw [if_neg h, hk]
  dsimp only
  rw [if_pos hb]
theorem wayR_out {R : RF} {n : Nat} {l : List Bk} {id : List UInt8} {b : Bk} (h : id ≠ R.last) (hk : atL id R.K = some b) (hb : ¬ wayOff R l b) (ho : wayOut R b) : wayR R (n + 1) l id = (l ++ [b], id, 2) := by
  conv => lhs; unfold wayR
  rw [if_neg h, hk]
  dsimp only
  rw [if_neg hb, if_pos ho]
theorem wayR_next {R : RF} {n : Nat} {l : List Bk} {id : List UInt8} {b : Bk} (h : id ≠ R.last) (hk : atL id R.K = some b) (hb : ¬ wayOff R l b) (ho : ¬ wayOut R b) : wayR R (n + 1) l id = wayR R n (l ++ [b]) b.parent := by
  conv => lhs; unfold wayR
  rw [if_neg h, hk]
  dsimp only
  rw [if_neg hb, if_neg ho]
section
variable {w : World} {O : Nat → Prop} {g : Nat} {R : RF} {tv kv av : Value} {vs : List Value} {ds : List (List UInt8 × Bk × Value)}
theorem RIn.c32 (h : RIn w O g R tv kv av vs ds) (hok : ROk R) : w.cell? ⟨g, 32, none⟩ = some (.int .i64 R.height) := by rw [h.blk.cell, List.getElem?_toArray]; exact rcells_at hok.last 0
theorem RIn.last0 (h : RIn w O g R tv kv av vs ds) (hok : ROk R) : readCells w ⟨g, 0, none⟩ 0 32 = some (bl R.last) := by
  have l32 : (bl R.last).length = 32 := by rw [bl_length]; exact hok.last
  exact readCells_blk h.blk 32 0 0 (bl R.last) l32 fun j v hj => by
    have : (rcells R.last R.height R.room tv kv av)[j]? = some v := by unfold rcells; rw [List.getElem?_append_left (List.getElem?_eq_some_iff.1 hj).1]; exact hj
    simpa using this
theorem blk_grownO {w w' : World} {h : Nat} {t : TypeId} {cs : Array Value} {r : Option Nat} (hb : Blk w h t cs) (hg : w.grownBy w' r) (hne : r ≠ some h) : Blk w' h t cs := (hg.block h hb.lt fun e => hne e.symm).trans hb
def WayV (w w' : World) (ds : List (List UInt8 × Bk × Value)) (v : Value) (bs : List Bk) : Prop := ∃ xs : List (Bk × Value), xs.map Prod.fst = bs ∧ w'.ownsRow w.heap.size 29 34 v bs.length (flat xs) ∧ ∀ x ∈ xs, BkOk x.1 ∧ checkB x.1 = 0 ∧ RdB w' x.2 x.1.data ∧ ∃ a, (a, x.1, x.2) ∈ ds
theorem WayV.toR {w w' : World} {ds : List (List UInt8 × Bk × Value)} {v : Value} {bs : List Bk} (h : WayV w w' ds v bs) : BksR w' v bs := by
  obtain ⟨xs, rfl, hown, hx⟩ := h
  rw [List.length_map] at hown
  exact bksR_own hown fun x hx' => ⟨(hx x hx').1, (hx x hx').2.2.1⟩
theorem way_fin {w wr wz : World} {v : Value} {ds : List (List UInt8 × Bk × Value)} {xs : List (Bk × Value)} {zs : Array Value} (hown : wr.ownsRow w.heap.size 29 34 v xs.length (flat xs)) (hxs : ∀ x ∈ xs, BkOk x.1 ∧ checkB x.1 = 0 ∧ (RdB w x.2 x.1.data ∧ ∃ a, (a, x.1, x.2) ∈ ds)) (hZ : Blk wr (w.heap.size + 1) 27 zs) (hB : Below w.heap.size w wr) (hk : Below wr.heap.size wr wz) (cs : Array Value) : WayV w (wz.setRow (w.heap.size + 1) cs) ds v (xs.map Prod.fst) ∧ Below w.heap.size w (wz.setRow (w.heap.size + 1) cs) := by
  have h1 := row_ne hown hZ (by decide)
  have h2 : Below w.heap.size w (wz.setRow (w.heap.size + 1) cs) := below_setRow (hB.trans (hk.mono hB.size)) (by omega) _
  have h3 : Keeps (fun j => j ≠ w.heap.size + 1) wz (wz.setRow (w.heap.size + 1) cs) := Keeps.setRow _ _ _ (fun h => h rfl)
  refine ⟨⟨xs, rfl, ?_, fun x hx => ⟨(hxs x hx).1, (hxs x hx).2.1, (hxs x hx).2.2.1.keep h2, (hxs x hx).2.2.2⟩⟩, h2⟩
  rw [List.length_map]
  exact row_keeps (row_below hown hk) h3 fun j hj e => h1 (by rw [hj, e])
set_option maxHeartbeats 12800000 in
theorem rwayD_any (h : RIn w O g R tv kv av vs ds) (hok : ROk R) {id : List UInt8} (hid : id.length = 32) :
    callE Tryz.prog 104 #[.pointer (some ⟨g, 0, none⟩), .agg (bl id).toArray] w fun r w' => ∃ v, r = .tuple #[v, .agg (bl (wayR R (R.K.length + 1) [] id).2.1).toArray, .int .i64 (wayR R (R.K.length + 1) [] id).2.2] ∧ WayV w w' ds v (wayR R (R.K.length + 1) [] id).1 ∧ (wayR R (R.K.length + 1) [] id).2.1.length = 32 ∧ Below w.heap.size w w' := by
  have l32 : (bl id).length = 32 := by rw [bl_length]; exact hid
  have kA : Below w.heap.size w ((w.alloc (.cells (bl id).toArray 27)).alloc (.cells zeroI.toArray 27)) := ext_trans (ext_alloc _ _) (ext_alloc _ _)
  have hI : Blk ((w.alloc (.cells (bl id).toArray 27)).alloc (.cells zeroI.toArray 27)) w.heap.size 27 (bl id).toArray := (Blk.self_ rfl).more _
  have hZ : Blk ((w.alloc (.cells (bl id).toArray 27)).alloc (.cells zeroI.toArray 27)) (w.heap.size + 1) 27 zeroI.toArray := Blk.self_ (by simp)
  have hdl := kds_len h.kmap
  have hkn := hok.kn
  have hkk : ∀ m (hm : m < R.K.length) (hm' : m < ds.length), R.K[m] = (ds[m].1, ds[m].2.1) := fun m hm hm' => by
    have e : (ds.map fun x => (x.1, x.2.1))[m]? = R.K[m]? := by rw [h.kmap]
    rw [List.getElem?_map, List.getElem?_eq_getElem hm', List.getElem?_eq_getElem hm] at e
    exact (Option.some.inj e).symm
  obtain ⟨-, kA', kc, rfl⟩ := own_sl h.krow
  obtain ⟨Z, hZr⟩ : ∃ Z, Z = wayR R (R.K.length + 1) [] id := ⟨_, rfl⟩
  rw [← hZr]
  refine calls_E Tryz.func104 rfl rfl rfl (Nat.le_of_ble_eq_true rfl) ?_
  simp [go_sem, IntWalk.iteOmega, IntWalk.toNatUp]
  rw [← zeroI_lit]
  generalize (w.alloc (.cells (bl id).toArray 27)).alloc (.cells zeroI.toArray 27) = w1 at *
  refine W_loop (fun st wr => ∃ (i : Nat) (a : List UInt8) (v : Value) (xs : List (Bk × Value)), i ≤ R.K.length + 1 ∧ st 0 = .pointer (some ⟨g, 0, none⟩) ∧ st 3 = .pointer (some ⟨w.heap.size, 0, none⟩) ∧ st 5 = .pointer (some ⟨w.heap.size + 1, 0, none⟩) ∧ st 7 = v ∧ st 8 = .int .i64 i ∧ a.length = 32 ∧ Blk wr w.heap.size 27 (bl a).toArray ∧ Blk wr (w.heap.size + 1) 27 zeroI.toArray ∧ wr.ownsRow w.heap.size 29 34 v xs.length (flat xs) ∧ (∀ x ∈ xs, BkOk x.1 ∧ checkB x.1 = 0 ∧ RdB w x.2 x.1.data ∧ ∃ a, (a, x.1, x.2) ∈ ds) ∧ xs.length ≤ i ∧ Below w.heap.size w wr ∧ Z = wayR R (R.K.length + 1 - i) (xs.map Prod.fst) a) (fun st _ => R.K.length + 1 - (intOf (st 8)).toNat) ?_ ?_
  · exact ⟨0, id, .slice none 0 0, [], by omega, by simp [go_sem], by simp [go_sem], by simp [go_sem], by simp [go_sem], by simp [go_sem], hid, hI, hZ, World.ownsRow_nil _ _ _ _, by simp, by simp, kA, hZr⟩
  · clear hI hZ kA hZr hid l32
    rintro st wr ⟨i, a, v, xs, hi, e0, e3, e5, e7, e8, ha, hI, hZ, hown, hxs, hxn, hB, hZr⟩
    have hw := h.keep hB
    have c35 := hw.c35 hok
    have la : (bl a).length = 32 := by rw [bl_length]; exact ha
    have lz : zeroI.length = 32 := rfl
    obtain ⟨-, vA, vc, rfl⟩ := own_sl hown
    by_cases hlt : i ≤ R.K.length
    · have hlt' : (i : Int) ≤ ds.length := by omega
      have hltn : i ≤ ds.length := by omega
      have hn : R.K.length + 1 - i = (R.K.length - i) + 1 := by omega
      rw [hn] at hZr
      have x3 := readCells_all hI 32 (by simpa using la)
      have x0 := hw.last0 hok
      have hqe := fun W => id_eq a R.last ha hok.last W
      have x3d := readCells_all hI.drew 32 (by simpa using la)
      have x0d := (hw.keep (ext_drew wr)).last0 hok
      simp [go_sem, IntWalk.iteOmega, IntWalk.toNatUp, e0, e3, e5, e7, e8, c35, hlt', hltn]
      refine W_still follows (by kernel_rfl) ?_
      by_cases hl : a = R.last
      · have hl' : (a == R.last) = true := by simpa using hl
        simp [go_sem, IntWalk.iteOmega, IntWalk.toNatUp, e0, e3, e5, e7, e8, x3, x0, x3d, x0d, hqe, hl']
        refine W_flow (fun j => j = w.heap.size) (.pure 0 (.pure 1 (.pure 2 (.one 3 (.pure 4 (.done)))))) follows (by kernel_rfl) ?_
        have rI := readCells_all (hI.drew).drew 32 (by simpa using la)
        have rZ := (hZ.drew).drew
        have rq := held_refl (fun j => j = w.heap.size) (wr.drew).drew
        have rl := (hI.drew).drew.lt
        generalize hvv : (wr.drew).drew = vv at *
        have rw1 := canWrite_all rZ 32 rfl
        have rw2 : ∀ (l : List Value), l.length = 32 → storeSeg vv ⟨w.heap.size + 1, 0, none⟩ 0 l = vv.setRow (w.heap.size + 1) l.toArray := fun l hl => storeSeg_all rZ l (by rw [hl]; rfl)
        have rw3 : ∀ (l : List Value), l.length = 32 → readCells (vv.setRow (w.heap.size + 1) l.toArray) ⟨w.heap.size + 1, 0, none⟩ 0 32 = some l := fun l hl => readCells_all (Blk_setRow rZ) 32 (by simpa using hl)
        have rqs : ∀ cs, heldE (fun j => j = w.heap.size) vv (vv.setRow (w.heap.size + 1) cs) := fun cs => rq.row cs (by omega)
        simp [go_sem, IntWalk.iteOmega, IntWalk.toNatUp, e0, e3, e5, e7, e8, rI, rq, rl, rw1, rw2, rw3, rqs, la, bl_one]
        rw [wayR_last hl] at hZr
        subst hZr
        have hk : Below wr.heap.size wr vv := by rw [← hvv]; exact (ext_drew wr).drew
        have hf := way_fin hown hxs hZ hB hk
        exact ⟨_, ⟨rfl, rfl, rfl⟩, (hf _).1, ha, (hf _).2⟩
      · have hl' : (a == R.last) = false := by simpa using hl
        simp [go_sem, IntWalk.iteOmega, IntWalk.toNatUp, e0, e3, e5, e7, e8, x3, x0, x3d, x0d, hqe, hl']
        have hwd := hw.keep (ext_drew wr)
        have hId := hI.drew
        have hZd := hZ.drew
        have hownd := row_below hown (ext_drew wr)
        have hBd := hB.drew
        generalize wr.drew = wd at *
        clear x3 x0 x3d x0d hqe hI hZ hown hw c35
        refine callE_of (rfind_any hwd hok ha) ?_
        rintro _ w2 ⟨(⟨k, hk, rfl, hka, hkno⟩ | ⟨rfl, hno⟩), k2⟩
        rotate_left
        · have hI2 := hId.keep k2
          have hZ2 := hZd.keep k2
          have hown2 := row_below hownd k2
          have hB2 := hBd.trans (k2.mono hBd.size)
          simp [go_sem, IntWalk.iteOmega, IntWalk.toNatUp, e0, e3, e5, e7, e8]
          refine W_flow (fun j => j = w.heap.size) (.pure 0 (.pure 1 (.pure 2 (.one 3 (.pure 4 (.done)))))) follows (by kernel_rfl) ?_
          have rI := readCells_all (hI2).drew 32 (by simpa using la)
          have rZ := (hZ2).drew
          have rq := held_refl (fun j => j = w.heap.size) (w2).drew
          have rl := (hI2).drew.lt
          have rk := ext_drew (w2)
          generalize (w2).drew = vv at *
          have rw1 := canWrite_all rZ 32 rfl
          have rw2 : ∀ (l : List Value), l.length = 32 → storeSeg vv ⟨w.heap.size + 1, 0, none⟩ 0 l = vv.setRow (w.heap.size + 1) l.toArray := fun l hl => storeSeg_all rZ l (by rw [hl]; rfl)
          have rw3 : ∀ (l : List Value), l.length = 32 → readCells (vv.setRow (w.heap.size + 1) l.toArray) ⟨w.heap.size + 1, 0, none⟩ 0 32 = some l := fun l hl => readCells_all (Blk_setRow rZ) 32 (by simpa using hl)
          have rqs : ∀ cs, heldE (fun j => j = w.heap.size) vv (vv.setRow (w.heap.size + 1) cs) := fun cs => rq.row cs (by omega)
          simp [go_sem, IntWalk.iteOmega, IntWalk.toNatUp, e0, e3, e5, e7, e8, rI, rq, rl, rw1, rw2, rw3, rqs, la, bl_one]
          rw [wayR_none hl (atL_no hno)] at hZr
          subst hZr
          have hf := way_fin hown2 hxs hZ2 hB2 rk
          exact ⟨_, ⟨rfl, rfl, rfl⟩, (hf _).1, ha, (hf _).2⟩
        have hI2 := hId.keep k2
        have hZ2 := hZd.keep k2
        have hown2 := row_below hownd k2
        have hB2 := hBd.trans (k2.mono hBd.size)
        have hw2 := hwd.keep k2
        have c35 := hw2.c35 hok
        have hat0 : atL a R.K = some (R.K[k]).2 := atL_first hk hka hkno
        have hkd : k < ds.length := by omega
        have hdat := h.dat _ (List.getElem_mem hkd)
        have hkok := (hok.k _ (List.getElem_mem hk)).2
        rw [hkk k hk hkd] at hat0 hkok
        have hrec := rd_rec (kEnc_len hok h.kmap) (Rd.of_own h.krow) hkd
        have hkl : (bl ds[k].1).length = 32 := by
          rw [bl_length]
          have := (hok.k _ (List.getElem_mem hk)).1
          rw [hkk k hk hkd] at this
          exact this
        obtain ⟨kb, ko, rfl, hkb, hat⟩ := hrec
        obtain ⟨bb, hbb⟩ : ∃ bb, bb = ds[k].2.1 := ⟨_, rfl⟩
        obtain ⟨dvb, hdvb⟩ : ∃ dvb, dvb = ds[k].2.2 := ⟨_, rfl⟩
        have hbok : BkOk bb := by rw [hbb]; exact hdat.1
        have hbck : checkB bb = 0 := by rw [hbb]; exact hkok.2
        have hbd : RdB w dvb bb.data := by rw [hbb, hdvb]; exact own_rdB hdat.2.1
        have hmem : ∃ a, (a, bb, dvb) ∈ ds := ⟨_, by rw [hbb, hdvb]; exact List.getElem_mem hkd⟩
        have l34 : (bkv bb dvb).length = 34 := bkv_len hbok.len
        have rdb : ∀ W, Below w.heap.size w W → readCells W ⟨kb, ko + k * 66 + 32, none⟩ 0 34 = some (bkv bb dvb) := fun W hW => readCells_cells 34 0 _ l34 fun j v hj => by
          have h1 := hat W hW (32 + j) v (by
            unfold kEnc
            rw [List.getElem?_append_right (by omega), hkl, Nat.add_sub_cancel_left, ← hbb, ← hdvb]
            exact hj)
          rw [show ko + k * 66 + 32 + 0 + j = ko + k * 66 + (32 + j) by omega]
          exact h1
        have hat1 : atL a R.K = some bb := by rw [hat0, hbb]
        obtain ⟨dA, dc, edv, -⟩ := _root_.id hbd
        have hone : allOne (bkv bb dvb) = true := by rw [edv]; exact bkv_one _ _ _ _
        have xb := rdb w2 hB2
        have xba : ∀ q, readCells (w2.alloc q) ⟨kb, ko + k * 66 + 32, none⟩ 0 34 = some (bkv bb dvb) := fun q => rdb _ (hB2.trans ((ext_alloc w2 q).mono hB2.size))
        have y2 : ∀ (k : Array Value) (t : TypeId), k.size = 34 → canWrite (w2.alloc (.cells k t)) ⟨w2.heap.size, 0, none⟩ 0 34 = true := fun k t hk => canWrite_all (Blk.self_ rfl) 34 hk
        have y3 : ∀ (k : Array Value) (t : TypeId) (l : List Value), k.size = 34 → l.length = 34 → storeSeg (w2.alloc (.cells k t)) ⟨w2.heap.size, 0, none⟩ 0 l = (w2.alloc (.cells k t)).setRow w2.heap.size l.toArray := fun k t l hk hl => storeSeg_all (Blk.self_ rfl) l (by omega)
        have hkI : (k : Int) < ds.length := by omega
        have hk0 : ¬ (k : Int) < 0 := by omega
        simp [go_sem, IntWalk.iteOmega, IntWalk.toNatUp, e0, e3, e5, e7, e8, c35, hkd, hkI, hk0, xb, xba, y2, y3, l34, hone]
        rw [← zeroB_lit]
        have kV : Below w2.heap.size w2 ((w2.alloc (.cells zeroB.toArray 29)).setRow w2.heap.size (bkv bb dvb).toArray) := below_setRow (ext_alloc w2 _) (Nat.le_refl _) _
        have hV : Blk ((w2.alloc (.cells zeroB.toArray 29)).setRow w2.heap.size (bkv bb dvb).toArray) w2.heap.size 29 (bkv bb dvb).toArray := Blk_setRow (Blk.self_ rfl)
        have hI3 := hI2.keep kV
        have hZ3 := hZ2.keep kV
        have hown3 := row_below hown2 kV
        have hB3 := hB2.trans (kV.mono hB2.size)
        have hw3 := hw2.keep kV
        have hsz2 := hB2.size
        generalize (w2.alloc (.cells zeroB.toArray 29)).setRow w2.heap.size (bkv bb dvb).toArray = w3 at *
        have hul := fun j hj => (hown2.lt j hj).2
        generalize w2.heap.size = u at *
        clear kV y2 y3 xba xb rdb hat hk0 hkI c35 hw2 hB2 hown2 hZ2 hI2 hdat hkl hat0 hkok k2 hkno hka hBd hownd hZd hId hwd
        have hbl0 := checkB_height hbck
        have hbhi := hbok.hi
        refine W_cutE (fun s wz => ∃ ob : Bool, s 0 = .pointer (some ⟨g, 0, none⟩) ∧ s 3 = .pointer (some ⟨w.heap.size, 0, none⟩) ∧ s 5 = .pointer (some ⟨w.heap.size + 1, 0, none⟩) ∧ s 7 = .slice vA xs.length vc ∧ s 8 = .int .i64 i ∧ s 10 = .pointer (some ⟨u, 0, none⟩) ∧ s 58 = .bool ob ∧ (ob = true ↔ wayOff R (xs.map Prod.fst) bb) ∧ wz = w3.drew) ?_ ?_
        · refine W_still follows (by kernel_rfl) ?_
          have xu : w3.drew.cell? ⟨u, 32, none⟩ = some (.int .i64 bb.height) := by rw [hV.drew.cell, List.getElem?_toArray]; exact bkv_32 (dv := dvb) hbok.len
          by_cases hx0 : xs = []
          · subst hx0
            simp [go_sem, IntWalk.iteOmega, IntWalk.toNatUp, e0, e3, e5, e7, e8]
            exact atCut.mk ⟨false, by simp [go_sem, e0], by simp [go_sem, e3], by simp [go_sem, e5], by simp [go_sem, e7], by simp [go_sem, e8], by simp [go_sem], by simp [go_sem], by simp [wayOff], rfl⟩
          · have hx1 : 0 < xs.length := List.length_pos_iff.2 hx0
            obtain ⟨m, hm⟩ : ∃ m, m = xs.length - 1 := ⟨_, rfl⟩
            have hml : m < xs.length := by omega
            have hmx := hxs _ (List.getElem_mem hml)
            have hml34 : ∀ x ∈ xs, (bkv x.1 x.2).length = 34 := fun x hx => bkv_len (hxs x hx).1.len
            obtain ⟨vb, vo, rfl, hvb, hvat⟩ := rd_rec (enc := fun x : Bk × Value => bkv x.1 x.2) hml34 (Rd.of_own hown3) hml
            have xl : w3.drew.cell? ⟨vb, vo + m * 34 + 32, none⟩ = some (.int .i64 xs[m].1.height) := hvat w3.drew (ext_drew w3) 32 _ (bkv_32 (dv := xs[m].2) hmx.1.len)
            have hmh0 := checkB_height hmx.2.1
            have hmhi := hmx.1.hi
            have hlast : (xs.map Prod.fst).getLast? = some xs[m].1 := by
              rw [List.getLast?_eq_getElem?, List.length_map, ← hm, List.getElem?_map, List.getElem?_eq_getElem hml]
              rfl
            have hE : IntKind.i64.wrap ((xs.length : Int) - 1) = (m : Int) := by rw [wrap_i64_if, if_pos (by omega)]; omega
            have hmI : (m : Int) < xs.length := by omega
            have hxI : (0 : Int) < xs.length := by omega
            have hoff : wayOff R (xs.map Prod.fst) bb ↔ xs[m].1.height - 1 ≠ bb.height := by
              unfold wayOff
              rw [hlast]
              constructor
              · rintro ⟨c, hc, h⟩
                injection hc with hc
                subst hc
                exact h
              · exact fun h => ⟨_, rfl, h⟩
            have hE2 : IntKind.i64.wrap (xs[m].1.height - 1) = xs[m].1.height - 1 := by rw [wrap_i64_if, if_pos (by omega)]
            generalize xs[m].1.height = ch at *
            simp [go_sem, IntWalk.iteOmega, IntWalk.toNatUp, e0, e3, e5, e7, e8, hx1, hxI, hE, hE2, hml, hmI, xl, xu]
            refine atCut.mk ⟨ch - 1 != bb.height, by simp [go_sem, e0], by simp [go_sem, e3], by simp [go_sem, e5], by simp [go_sem, e7], by simp [go_sem, e8], by simp [go_sem], by simp [go_sem], ?_, rfl⟩
            rw [hoff]
            simp
        · clear e0 e3 e5 e7 e8
          rintro s4 w4 ⟨ob, e0, e3, e5, e7, e8, e10, e58, hob, rfl⟩
          have hI4 := hI3.drew
          have hZ4 := hZ3.drew
          have hown4 := row_below hown3 (ext_drew w3)
          have hB4 := hB3.drew
          have hw4 := hw3.keep (ext_drew w3)
          have hV4 := hV.drew
          generalize w3.drew = w4 at *
          clear hI3 hZ3 hown3 hB3 hw3 hV
          by_cases hof : wayOff R (xs.map Prod.fst) bb
          · rw [hob.2 hof] at e58
            simp [go_sem, IntWalk.iteOmega, IntWalk.toNatUp, e0, e3, e5, e7, e8, e58]
            refine W_flow (fun j => j = w.heap.size) (.pure 0 (.pure 1 (.pure 2 (.one 3 (.pure 4 (.done)))))) follows (by kernel_rfl) ?_
            have rI := readCells_all (hI4).drew 32 (by simpa using la)
            have rZ := (hZ4).drew
            have rq := held_refl (fun j => j = w.heap.size) (w4).drew
            have rl := (hI4).drew.lt
            have rk := ext_drew (w4)
            generalize (w4).drew = vv at *
            have rw1 := canWrite_all rZ 32 rfl
            have rw2 : ∀ (l : List Value), l.length = 32 → storeSeg vv ⟨w.heap.size + 1, 0, none⟩ 0 l = vv.setRow (w.heap.size + 1) l.toArray := fun l hl => storeSeg_all rZ l (by rw [hl]; rfl)
            have rw3 : ∀ (l : List Value), l.length = 32 → readCells (vv.setRow (w.heap.size + 1) l.toArray) ⟨w.heap.size + 1, 0, none⟩ 0 32 = some l := fun l hl => readCells_all (Blk_setRow rZ) 32 (by simpa using hl)
            have rqs : ∀ cs, heldE (fun j => j = w.heap.size) vv (vv.setRow (w.heap.size + 1) cs) := fun cs => rq.row cs (by omega)
            simp [go_sem, IntWalk.iteOmega, IntWalk.toNatUp, e0, e3, e5, e7, e8, rI, rq, rl, rw1, rw2, rw3, rqs, la, bl_one]
            rw [wayR_off hl hat1 hof] at hZr
            subst hZr
            have hf := way_fin hown4 hxs hZ4 hB4 rk
            exact ⟨_, ⟨rfl, rfl, rfl⟩, (hf _).1, ha, (hf _).2⟩
          · have hob0 : ob = false := by
              cases ob
              · rfl
              · exact absurd (hob.1 rfl) hof
            rw [hob0] at e58
            have xb := readCells_all hV4 34 (by simpa using l34)
            simp [go_sem, IntWalk.iteOmega, IntWalk.toNatUp, e0, e3, e5, e7, e8, e10, e58, xb, l34]
            rw [fold_bk (bkv bb dvb) l34]
            have kC := ext_alloc w4 (.cells (bkv bb dvb).toArray 29)
            have hC : Blk (w4.alloc (.cells (bkv bb dvb).toArray 29)) w4.heap.size 29 (bkv bb dvb).toArray := Blk.self_ rfl
            have hI5 := hI4.keep kC
            have hZ5 := hZ4.keep kC
            have hown5 := row_below hown4 kC
            have hB5 := hB4.trans (kC.mono hB4.size)
            have hw5 := hw4.keep kC
            have hV5 := hV4.keep kC
            have hs45 := kC.size
            generalize w4.alloc (.cells (bkv bb dvb).toArray 29) = w5 at *
            have hrb : Rd w5 34 (some ⟨w4.heap.size, 0, none⟩) 1 (flat [(bb, dvb)]) := by
              have := rd_one hC l34
              simpa [flat] using this
            have hul4 := hul
            refine appendE w.heap.size 29 34 64 Tryz.underlying24 el29 hown5 hrb (flat_one (w := w) (xs := [(bb, dvb)]) fun x hx => by
              obtain rfl : x = (bb, dvb) := by simpa using hx
              exact hbd) (by unfold maxLen; omega) (by omega) hB5.size ?_
            intro v' w6 hr6 hg6 hb6
            have hne1 := row_ne hown5 hI5 (by decide)
            have hne2 := row_ne hown5 hZ5 (by decide)
            have hI6 := blk_grownO hI5 hg6 hne1
            have hZ6 := blk_grownO hZ5 hg6 hne2
            have hV6 := blk_grownO hV5 hg6 fun e => by have := hul u e; omega
            have hB6 := hB5.grown hg6 hB5.size fun j hj => (hown5.lt j hj).1
            have hw6 := hw5.keeps (Keeps.grown (O := O) hg6 fun j hj hO => by
              have h1 := (hown5.lt j hj).1
              have h2 := h.lt j hO
              omega)
            have hys : ∀ x ∈ xs ++ [(bb, dvb)], BkOk x.1 ∧ checkB x.1 = 0 ∧ RdB w x.2 x.1.data ∧ ∃ a, (a, x.1, x.2) ∈ ds := fun x hx => by
              rcases List.mem_append.1 hx with hx | hx
              · exact hxs x hx
              · obtain rfl : x = (bb, dvb) := by simpa using hx
                exact ⟨hbok, hbck, hbd, hmem⟩
            have hown6 : w6.ownsRow w.heap.size 29 34 v' (xs ++ [(bb, dvb)]).length (flat (xs ++ [(bb, dvb)])) := by
              rw [List.length_append, flat_app]
              exact hr6
            have hym : (xs ++ [(bb, dvb)]).map Prod.fst = xs.map Prod.fst ++ [bb] := by simp
            have hyn : (xs ++ [(bb, dvb)]).length ≤ i + 1 := by rw [List.length_append]; show xs.length + 1 ≤ i + 1; omega
            clear hI5 hZ5 hown5 hB5 hw5 hV5 hI4 hZ4 hown4 hB4 hw4 hV4 kC hC hrb hr6 hg6 hb6 hne1 hne2 xb hul hul4
            generalize xs ++ [(bb, dvb)] = ys at *
            obtain ⟨-, vA', vc', rfl⟩ := own_sl hown6
            simp [go_sem, IntWalk.iteOmega, IntWalk.toNatUp, e0, e3, e5, e8, e10]
            refine W_cutE (fun s wz => ∃ ob : Bool, s 0 = .pointer (some ⟨g, 0, none⟩) ∧ s 3 = .pointer (some ⟨w.heap.size, 0, none⟩) ∧ s 5 = .pointer (some ⟨w.heap.size + 1, 0, none⟩) ∧ s 7 = .slice vA' ys.length vc' ∧ s 8 = .int .i64 i ∧ s 10 = .pointer (some ⟨u, 0, none⟩) ∧ s 89 = .bool ob ∧ (ob = true ↔ wayOut R bb) ∧ wz = w6.drew) ?_ ?_
            · refine W_still follows (by kernel_rfl) ?_
              have hVd := hV6.drew
              have hwd := hw6.keep (ext_drew w6)
              have xu : w6.drew.cell? ⟨u, 32, none⟩ = some (.int .i64 bb.height) := by rw [hVd.cell, List.getElem?_toArray]; exact bkv_32 (dv := dvb) hbok.len
              have xg : w6.drew.cell? ⟨g, 32, none⟩ = some (.int .i64 R.height) := hwd.c32 hok
              have lp : (bl bb.parent).length = 32 := by rw [bl_length]; exact hbok.len
              have xp : readCells w6.drew ⟨u, 0, none⟩ 0 32 = some (bl bb.parent) := readCells_blk hVd 32 0 0 _ lp fun j v hj => by
                have := bkv_id (dv := dvb) hbok.len hj
                simpa using this
              have x0 := hwd.last0 hok
              have hqe := fun W => id_eq bb.parent R.last hbok.len hok.last W
              have hE2 : IntKind.i64.wrap (bb.height - 1) = bb.height - 1 := by rw [wrap_i64_if, if_pos (by omega)]
              by_cases h1 : bb.height ≤ R.height
              · simp [go_sem, IntWalk.iteOmega, IntWalk.toNatUp, e0, e3, e5, e8, e10, xu, xg, h1]
                exact atCut.mk ⟨true, by simp [go_sem, e0], by simp [go_sem, e3], by simp [go_sem, e5], by simp [go_sem], by simp [go_sem, e8], by simp [go_sem, e10], by simp [go_sem], by simp [wayOut, h1], rfl⟩
              · simp [go_sem, IntWalk.iteOmega, IntWalk.toNatUp, e0, e3, e5, e8, e10, xu, xg, h1, hE2, xp, x0, hqe]
                refine atCut.mk ⟨!((bb.height - 1 == R.height) == (bb.parent == R.last)), by simp [go_sem, e0], by simp [go_sem, e3], by simp [go_sem, e5], by simp [go_sem], by simp [go_sem, e8], by simp [go_sem, e10], by simp [go_sem], ?_, rfl⟩
                have a1 : (bb.height - 1 == R.height) = decide (bb.height - 1 = R.height) := by rw [Bool.eq_iff_iff]; simp
                have a2 : (bb.parent == R.last) = decide (bb.parent = R.last) := by rw [Bool.eq_iff_iff]; simp
                rw [a1, a2]
                unfold wayOut
                constructor
                · intro hh
                  exact .inr (by simpa using hh)
                · rintro (hh | hh)
                  · exact absurd hh h1
                  · simpa using hh
            · clear e0 e3 e5 e7 e8 e10 e58
              rintro s7 w7 ⟨ob, e0, e3, e5, e7, e8, e10, e89, hob7, rfl⟩
              have hI7 := hI6.drew
              have hZ7 := hZ6.drew
              have hown7 := row_below hown6 (ext_drew w6)
              have hB7 := hB6.drew
              have hV7 := hV6.drew
              generalize w6.drew = w7 at *
              clear hI6 hZ6 hown6 hB6 hV6 hw6
              by_cases hout : wayOut R bb
              · rw [hob7.2 hout] at e89
                simp [go_sem, IntWalk.iteOmega, IntWalk.toNatUp, e0, e3, e5, e7, e8, e89]
                refine W_flow (fun j => j = w.heap.size) (.pure 0 (.pure 1 (.pure 2 (.one 3 (.pure 4 (.done)))))) follows (by kernel_rfl) ?_
                have rI := readCells_all (hI7).drew 32 (by simpa using la)
                have rZ := (hZ7).drew
                have rq := held_refl (fun j => j = w.heap.size) (w7).drew
                have rl := (hI7).drew.lt
                have rk := ext_drew (w7)
                generalize (w7).drew = vv at *
                have rw1 := canWrite_all rZ 32 rfl
                have rw2 : ∀ (l : List Value), l.length = 32 → storeSeg vv ⟨w.heap.size + 1, 0, none⟩ 0 l = vv.setRow (w.heap.size + 1) l.toArray := fun l hl => storeSeg_all rZ l (by rw [hl]; rfl)
                have rw3 : ∀ (l : List Value), l.length = 32 → readCells (vv.setRow (w.heap.size + 1) l.toArray) ⟨w.heap.size + 1, 0, none⟩ 0 32 = some l := fun l hl => readCells_all (Blk_setRow rZ) 32 (by simpa using hl)
                have rqs : ∀ cs, heldE (fun j => j = w.heap.size) vv (vv.setRow (w.heap.size + 1) cs) := fun cs => rq.row cs (by omega)
                simp [go_sem, IntWalk.iteOmega, IntWalk.toNatUp, e0, e3, e5, e7, e8, rI, rq, rl, rw1, rw2, rw3, rqs, la, bl_one]
                rw [wayR_out hl hat1 hof hout, ← hym] at hZr
                subst hZr
                have hf := way_fin hown7 hys hZ7 hB7 rk
                exact ⟨_, ⟨rfl, rfl, rfl⟩, (hf _).1, ha, (hf _).2⟩
              · have hob0' : ob = false := by
                  cases ob
                  · rfl
                  · exact absurd (hob7.1 rfl) hout
                rw [hob0'] at e89
                have lp : (bl bb.parent).length = 32 := by rw [bl_length]; exact hbok.len
                have xp : readCells w7 ⟨u, 0, none⟩ 0 32 = some (bl bb.parent) := readCells_blk hV7 32 0 0 _ lp fun j v hj => by
                  have := bkv_id (dv := dvb) hbok.len hj
                  simpa using this
                have z1 := canWrite_all hI7 32 (by simpa using la)
                have z2 : ∀ (l : List Value), l.length = 32 → storeSeg w7 ⟨w.heap.size, 0, none⟩ 0 l = w7.setRow w.heap.size l.toArray := fun l hl => storeSeg_all hI7 l (by rw [hl]; simpa using la.symm)
                simp [go_sem, IntWalk.iteOmega, IntWalk.toNatUp, e0, e3, e5, e7, e8, e10, e89, xp, z1, z2, lp, bl_one]
                rw [wayR_next hl hat1 hof hout, ← hym] at hZr
                have hne := row_ne hown7 hI7 (by decide)
                have hkS : Keeps (fun j => j ≠ w.heap.size) w7 (w7.setRow w.heap.size (bl bb.parent).toArray) := Keeps.setRow _ _ _ (fun h => h rfl)
                refine roundEnd.mk ⟨i + 1, bb.parent, _, ys, by omega, by simp [go_sem, e0], by simp [go_sem, e3], by simp [go_sem, e5], by simp [go_sem, e7], by simp [go_sem], hbok.len, Blk_setRow hI7, hZ7.farRow (by omega) _, row_keeps hown7 hkS (fun j hj e => hne (by rw [hj, e])), hys, hyn, below_setRow hB7 (Nat.le_refl _) _, ?_⟩ ?_
                · rw [hZr]
                  congr 1
                  omega
                · simp [go_sem, intOf]; omega
    · have hi1 : i = R.K.length + 1 := by omega
      have hlt' : ¬ (i : Int) ≤ ds.length := by omega
      have hltn : ¬ i ≤ ds.length := by omega
      simp [go_sem, IntWalk.iteOmega, IntWalk.toNatUp, e0, e3, e5, e7, e8, c35, hlt', hltn]
      refine W_flow (fun j => j = w.heap.size) (.pure 0 (.pure 1 (.pure 2 (.one 3 (.pure 4 (.done)))))) follows (by kernel_rfl) ?_
      have rI := readCells_all (hI).drew 32 (by simpa using la)
      have rZ := (hZ).drew
      have rq := held_refl (fun j => j = w.heap.size) (wr).drew
      have rl := (hI).drew.lt
      have rk := ext_drew (wr)
      generalize (wr).drew = vv at *
      have rw1 := canWrite_all rZ 32 rfl
      have rw2 : ∀ (l : List Value), l.length = 32 → storeSeg vv ⟨w.heap.size + 1, 0, none⟩ 0 l = vv.setRow (w.heap.size + 1) l.toArray := fun l hl => storeSeg_all rZ l (by rw [hl]; rfl)
      have rw3 : ∀ (l : List Value), l.length = 32 → readCells (vv.setRow (w.heap.size + 1) l.toArray) ⟨w.heap.size + 1, 0, none⟩ 0 32 = some l := fun l hl => readCells_all (Blk_setRow rZ) 32 (by simpa using hl)
      have rqs : ∀ cs, heldE (fun j => j = w.heap.size) vv (vv.setRow (w.heap.size + 1) cs) := fun cs => rq.row cs (by omega)
      simp [go_sem, IntWalk.iteOmega, IntWalk.toNatUp, e0, e3, e5, e7, e8, rI, rq, rl, rw1, rw2, rw3, rqs, la, bl_one]
      rw [hi1, Nat.sub_self] at hZr
      have hZr' : Z = (xs.map Prod.fst, a, 2) := hZr
      subst hZr'
      have hf := way_fin hown hxs hZ hB rk
      exact ⟨_, ⟨rfl, rfl, rfl⟩, (hf _).1, ha, (hf _).2⟩
theorem rway_any (h : RIn w O g R tv kv av vs ds) (hok : ROk R) {id : List UInt8} (hid : id.length = 32) :
    callE Tryz.prog 104 #[.pointer (some ⟨g, 0, none⟩), .agg (bl id).toArray] w fun r w' => ∃ v, r = .tuple #[v, .agg (bl (wayR R (R.K.length + 1) [] id).2.1).toArray, .int .i64 (wayR R (R.K.length + 1) [] id).2.2] ∧ BksR w' v (wayR R (R.K.length + 1) [] id).1 ∧ (wayR R (R.K.length + 1) [] id).2.1.length = 32 ∧ Below w.heap.size w w' := by
  refine callE_of (rwayD_any h hok hid) ?_
  rintro r w' ⟨v, h1, h2, h3⟩
  exact ⟨v, h1, h2.toR, h3⟩
end
theorem rd_name {w : World} {A : Option Addr} {L : List (List UInt8)} (hr : Rd w 32 A L.length (flatI L)) (hL : ∀ x ∈ L, x.length = 32) {i : Nat} (hi : i < L.length) : ∃ b o, A = some ⟨b, o, none⟩ ∧ b < w.heap.size ∧ ∀ W, Below w.heap.size w W → readCells W ⟨b, o + i * 32, none⟩ 0 32 = some (bl L[i]) := by
  obtain ⟨b, o, rfl, hb, hc⟩ := hr.cells (by omega)
  have h32 : (bl L[i]).length = 32 := by rw [bl_length]; exact hL _ (List.getElem_mem hi)
  refine ⟨b, o, rfl, hb, fun W hW => readCells_cells 32 0 _ h32 fun j v hj => ?_⟩
  rw [show o + i * 32 + 0 + j = o + (32 * i + j) by omega]
  exact (hW.cell (p := ⟨b, o + (32 * i + j), none⟩) hb).trans (hc _ _ (flatI_at L hL i _ (List.getElem?_eq_getElem hi) j v hj))
end Go.Proofs.YtdjcjjodbniebaaGreatDoor
