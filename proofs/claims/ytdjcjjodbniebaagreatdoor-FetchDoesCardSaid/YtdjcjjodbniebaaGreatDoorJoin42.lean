/-
  Texts joined: FRGot.
-/
import Derived.Test.YtdjcjjodbniebaaGreatDoorJoin41
namespace Go.Proofs.YtdjcjjodbniebaaGreatDoor
open Go.RowKit
set_option linter.unusedVariables false
set_option linter.unusedSimpArgs false
set_option maxRecDepth 10000
theorem Mine.trans {O O' O'' : Nat → Prop} {a b c : World} (h : Mine O O' a b) (k : Mine O' O'' b c) : Mine O O'' a c := by
  refine ⟨fun j hj => (k.1 j hj).elim (fun h1 => h.1 j h1) fun h2 => .inr (Nat.le_trans h.2.2.size h2), k.2.1, ?_⟩
  refine ((h.2.2.mono (O' := fun j => ¬ O j ∧ j < a.heap.size) fun j _ hj => hj.1).trans (k.2.2.mono fun j _ hj hO' => ?_)).mono fun j hj hn => ⟨hn, hj⟩
  rcases h.1 j hO' with h3 | h3
  · exact hj.1 h3
  · have := hj.2
    omega
theorem setA_len (a : List UInt8) (y : Int × Bool) : ∀ L : List (List UInt8 × Int × Bool), (setA a y L).length = L.length
  | [] => rfl
  | x :: L => by
    unfold setA
    split
    · rfl
    · rw [List.length_cons, setA_len a y L, List.length_cons]
theorem setA_mem (a : List UInt8) (y : Int × Bool) : ∀ (L : List (List UInt8 × Int × Bool)) (x : List UInt8 × Int × Bool), x ∈ setA a y L → x ∈ L ∨ (∃ z ∈ L, z.1 = x.1 ∧ z.1 = a) ∧ x.2 = y
  | [], x, h => by simp [setA] at h
  | z :: L, x, h => by
    unfold setA at h
    split at h
    · rename_i he
      rcases List.mem_cons.1 h with rfl | h
      · exact .inr ⟨⟨z, by simp, rfl, he.symm⟩, rfl⟩
      · exact .inl (by simp [h])
    · rcases List.mem_cons.1 h with rfl | h
      · exact .inl (by simp)
      · rcases setA_mem a y L x h with h | ⟨⟨u, hu, h1⟩, h2⟩
        · exact .inl (by simp [h])
        · exact .inr ⟨⟨u, by simp [hu], h1⟩, h2⟩
theorem atL_num (id : List UInt8) : ∀ (L : List (List UInt8 × Int × Bool)), (∀ x ∈ L, x.1.length = 32 ∧ 0 ≤ x.2.1 ∧ x.2.1 ≤ 4611686018427387904) → 0 ≤ ((atL id L).map Prod.fst).getD 0 ∧ ((atL id L).map Prod.fst).getD 0 ≤ 4611686018427387904
  | [], _ => by simp [atL]
  | x :: L, h => by
    have ih := atL_num id L fun y hy => h y (by simp [hy])
    by_cases he : id = x.1
    · have : atL id (x :: L) = some x.2 := by rw [atL_cons, if_pos he]
      rw [this]
      exact (h x (by simp)).2
    · have : atL id (x :: L) = atL id L := by rw [atL_cons, if_neg he]
      rw [this]
      exact ih
theorem ROk.fail {R : RF} (hok : ROk R) (id : List UInt8) : ROk { R with A := setA id (numR R id, false) R.A } := by
  have hn := atL_num id R.A hok.a
  refine ⟨hok.last, hok.hlo, hok.hhi, hok.room, hok.tn, hok.t, hok.kn, hok.k, ?_, fun x hx => ?_⟩
  · show (setA id (numR R id, false) R.A).length ≤ 100000
    rw [setA_len]
    exact hok.an
  · rcases setA_mem _ _ _ x hx with h | ⟨⟨z, hz, h1, h2⟩, h3⟩
    · exact hok.a x h
    · rw [← h1, h3]
      exact ⟨(hok.a z hz).1, hn⟩
theorem ROk.addK {R : RF} (hok : ROk R) {name : List UInt8} {b : Bk} (hl : name.length = 32) (hb : BkOk b ∧ checkB b = 0) (hf : ¬ R.room ≤ R.K.length) : ROk { R with K := R.K ++ [(name, b)] } := by
  have hr := hok.room
  refine ⟨hok.last, hok.hlo, hok.hhi, hok.room, hok.tn, hok.t, ?_, fun x hx => ?_, hok.an, hok.a⟩
  · show (R.K ++ [(name, b)]).length ≤ 4096
    rw [List.length_append]
    show R.K.length + 1 ≤ 4096
    omega
  · rcases List.mem_append.1 hx with h | h
    · exact hok.k x h
    · obtain rfl : x = (name, b) := by simpa using h
      exact ⟨hl, hb⟩
theorem Mine.afterHi {O O' : Nat → Prop} {a b b' : World} (h : Mine O O' a b) (hk : Keeps (fun j => ¬ O j ∧ j < a.heap.size) b b') : Mine O O' a b' :=
  ⟨h.1, fun j hj => Nat.lt_of_lt_of_le (h.2.1 j hj) hk.size, ((h.2.2.mono (O' := fun j => ¬ O j ∧ j < a.heap.size) fun j _ hj => hj.1).trans hk).mono fun j hj hn => ⟨hn, hj⟩⟩
theorem off_shift : ∀ (l : List Value) (k : Nat) (C : Array Value), List.foldl (fun (cs : Array Value) (x : Value × Nat) => cs.setIfInBounds (32 + x.snd) x.fst) C (l.zipIdx k) = List.foldl (fun (cs : Array Value) (x : Value × Nat) => cs.setIfInBounds x.snd x.fst) C (l.zipIdx (32 + k))
  | [], k, C => rfl
  | v :: l, k, C => by
    rw [List.zipIdx_cons, List.zipIdx_cons, List.foldl_cons, List.foldl_cons, off_shift l (k + 1) _]
    rfl
theorem foldl_off (l : List Value) (k : Nat) (C : Array Value) (h : 32 + k + l.length ≤ C.size) : List.foldl (fun (cs : Array Value) (x : Value × Nat) => cs.setIfInBounds (32 + x.snd) x.fst) C (l.zipIdx k) = (C.toList.take (32 + k) ++ l ++ C.toList.drop (32 + k + l.length)).toArray := by
  rw [off_shift, foldl_set l (32 + k) C h]
section
variable {w : World} {O : Nat → Prop} {g : Nat} {R : RF} {tv kv av : Value} {vs : List Value} {ds : List (List UInt8 × Bk × Value)}
theorem RIn.c33 (h : RIn w O g R tv kv av vs ds) (hok : ROk R) : w.cell? ⟨g, 33, none⟩ = some (.int .i64 R.room) := by rw [h.blk.cell, List.getElem?_toArray]; exact rcells_at hok.last 1
def RMutK (w w' : World) (O : Nat → Prop) (g : Nat) (R' : RF) (tv : Value) (vs : List Value) : Prop := ∃ O' kv' av' ds', RIn w' O' g R' tv kv' av' vs ds' ∧ Mine O O' w w'
def GotXR (w : World) (O : Nat → Prop) (g : Nat) (Z : RF × List Bk × Bool) (tv : Value) (vs : List Value) (st : Slots) (wr : World) : Prop := st 9 = .int .i64 Z.2.1.length ∧ st 10 = .int .i64 (if Z.2.2 = true then 6 else 8) ∧ Z.2.1.length ≤ 16 ∧ RMutK w wr O g Z.1 tv vs
theorem GotXR.of {w wr : World} {O Oi : Nat → Prop} {g : Nat} {Z : RF × List Bk × Bool} {Ri : RF} {ahead : List Bk} {full : Bool} {tv kvi avi : Value} {vs : List Value} {dsi : List (List UInt8 × Bk × Value)} {st : Slots} (hZ : (Ri, ahead, full) = Z) (h9 : st 9 = .int .i64 ahead.length) (h10 : st 10 = .int .i64 (if full = true then 6 else 8)) (hl : ahead.length ≤ 16) (h : RIn wr Oi g Ri tv kvi avi vs dsi) (hM : Mine O Oi w wr) : GotXR w O g Z tv vs st wr := by
  subst hZ
  exact ⟨h9, h10, hl, Oi, kvi, avi, dsi, h, hM⟩
set_option maxHeartbeats 12800000 in
theorem rgot_any (h : RIn w O g R tv kv av vs ds) (hok : ROk R) {id : List UInt8} (hid : id.length = 32)
    {A : Option Addr} {c : Nat} {vals : List Value} {raws : List (List UInt8)} (hr : Rd w 1 A raws.length vals) (hv : ∀ (i : Nat) (v : Value) (l : List UInt8), vals[i]? = some v → raws[i]? = some l → RdB w v l) (hA : ∀ j, atB raws.length A j → ¬ O j) (hvO : ∀ v ∈ vals, ∀ A n c, v = .slice A n c → ∀ j, atB n A j → ¬ O j) :
    callE Tryz.prog 71 #[.pointer (some ⟨g, 0, none⟩), .agg (bl id).toArray, .slice A raws.length c] w fun r w' => r = .tuple #[.int .i64 (gotR R id raws).1.1, .int .i64 (gotR R id raws).1.2] ∧ RMutK w w' O g (gotR R id raws).2 tv vs := by
  have l32 : (bl id).length = 32 := by rw [bl_length]; exact hid
  have kA := ext_alloc w (.cells (bl id).toArray 27)
  have hI : Blk (w.alloc (.cells (bl id).toArray 27)) w.heap.size 27 (bl id).toArray := Blk.self_ rfl
  have hFA := h.keep kA
  have x1 := readCells_all hI 32 (by simpa using l32)
  refine calls_E Tryz.func71 rfl rfl rfl (Nat.le_of_ble_eq_true rfl) ?_
  simp [go_sem, IntWalk.iteOmega, IntWalk.toNatUp, x1]
  generalize w.alloc (.cells (bl id).toArray 27) = w1 at *
  refine callE_of (rfailed_any hFA hok hid) ?_
  rintro _ w2 ⟨rfl, ⟨av2, h2⟩, k2⟩
  have hK2 : Keeps (fun j => ¬ O j) w w2 := (Keeps.of_ext kA).trans k2
  have hI2 : Blk w2 w.heap.size 27 (bl id).toArray := k2.blk hI fun hO => by have := h.lt _ hO; omega
  by_cases hb : nowR R id = true
  case neg =>
    have ef : failR R id = (4, R) := by unfold failR; rw [if_neg hb]
    have eg : gotR R id raws = ((0, 4), R) := by unfold gotR; rw [if_neg hb]
    rw [ef] at h2
    rw [eg]
    simp [go_sem, IntWalk.iteOmega, IntWalk.toNatUp, ef]
    exact ⟨O, kv, av2, ds, h2, Mine.same hK2 h.lt⟩
  have ef : failR R id = (0, { R with A := setA id (numR R id, false) R.A }) := by unfold failR; rw [if_pos hb]
  obtain ⟨R1, hR1⟩ : ∃ R1 : RF, R1 = { R with A := setA id (numR R id, false) R.A } := ⟨_, rfl⟩
  have hok1 : ROk R1 := by rw [hR1]; exact hok.fail id
  rw [← hR1] at ef
  obtain ⟨Z, hZ⟩ : ∃ Z, gotRL (raws.take 16) R1 id [] = Z := ⟨_, rfl⟩
  have eg : gotR R id raws = (gotE2 Z.2, Z.1) := by unfold gotR; rw [if_pos hb, ef]; dsimp only; rw [hZ]
  rw [eg]
  rw [ef] at h2
  simp [go_sem, IntWalk.iteOmega, IntWalk.toNatUp, ef]
  clear eg ef hR1 hok hb hI hFA k2 x1 l32
  have kZ := ext_alloc w2 (.cells zeroB.toArray 29)
  have hZB : Blk (w2.alloc (.cells zeroB.toArray 29)) w2.heap.size 29 (bkv ⟨zeroId, 0, []⟩ (.slice none 0 0)).toArray := Blk.self_ rfl
  rw [← zeroB_lit]
  have h3 := h2.keep kZ
  have hI3 := hI2.keep kZ
  have hM3 : Mine O O w (w2.alloc (.cells zeroB.toArray 29)) := Mine.same (hK2.trans (Keeps.of_ext kZ)) h.lt
  have hs2 : w.heap.size < w2.heap.size := hI2.lt
  generalize w2.alloc (.cells zeroB.toArray 29) = w3 at *
  refine W_loopAt 0 (fun st wr => ∃ i Ri cur ahead Oi kvi avi dsi lb lv, i ≤ 16 ∧ i ≤ raws.length ∧ st 0 = .pointer (some ⟨g, 0, none⟩) ∧ st 2 = .slice A raws.length c ∧ st 4 = .pointer (some ⟨w.heap.size, 0, none⟩) ∧ st 9 = .int .i64 (List.length ahead : Nat) ∧ st 10 = .int .i64 8 ∧ st 11 = .pointer (some ⟨w2.heap.size, 0, none⟩) ∧ st 12 = .int .i64 i ∧ gotRL ((raws.take 16).drop i) Ri cur ahead = Z ∧ ROk Ri ∧ RIn wr Oi g Ri tv kvi avi vs dsi ∧ Mine O Oi w wr ∧ ¬ Oi w.heap.size ∧ ¬ Oi w2.heap.size ∧ Blk wr w.heap.size 27 (bl cur).toArray ∧ cur.length = 32 ∧ Blk wr w2.heap.size 29 (bkv lb lv).toArray ∧ lb.parent.length = 32 ∧ (ahead = [] ∨ (ahead.getLast? = some lb ∧ ∃ a, (a, lb, lv) ∈ dsi)) ∧ ahead.length ≤ i) (fun st _ => 17 - (intOf (st 12)).toNat) (GotXR w O g Z tv vs) ?_ ?_ ?_
  · exact ⟨0, R1, id, [], O, kv, av2, ds, ⟨zeroId, 0, []⟩, .slice none 0 0, by omega, by omega, by simp [go_sem], by simp [go_sem], by simp [go_sem], by simp [go_sem], by simp [go_sem], by simp [go_sem], by simp [go_sem], hZ, hok1, h3, hM3, fun hO => by have := h.lt _ hO; omega, fun hO => by have := h.lt _ hO; omega, hI3, hid, hZB, rfl, .inl rfl, by simp⟩
  · clear hZ hok1 h3 hM3 hI3 hid hZB kZ hI2 h2 hK2 kA
    rintro st wr ⟨i, Ri, cur, ahead, Oi, kvi, avi, dsi, lb, lv, hi, hir, d0, d2, d4, d9, d10, d11, d12, hL, hokR, hF, hMi, hn1, hn2, hIr, hid, hLr, hlb, hla, hal⟩
    have hn16 : ahead.length ≤ 16 := by omega
    have hszr : w.heap.size ≤ wr.heap.size := hMi.2.2.size
    by_cases hlt : i < raws.length ∧ i < 16
    case neg =>
      have hdrop : (raws.take 16).drop i = [] := by
        rw [List.drop_eq_nil_iff, List.length_take]
        omega
      rw [hdrop] at hL
      have hX := fun (st' : Slots) h9 h10 => GotXR.of (st := st') (full := false) hL h9 h10 hn16 hF hMi
      by_cases hl1 : i < raws.length
      · have hl1' : (i : Int) < raws.length := by omega
        have hl2' : ¬ (i : Int) < 16 := by omega
        simp [go_sem, IntWalk.iteOmega, IntWalk.toNatUp, d0, d2, d4, d9, d10, d11, d12, hl1', hl2']
        exact hX _ (by simp [go_sem, d9]) (by simp [go_sem, d10])
      · have hl1' : ¬ (i : Int) < raws.length := by omega
        simp [go_sem, IntWalk.iteOmega, IntWalk.toNatUp, d0, d2, d4, d9, d10, d11, d12, hl1']
        exact hX _ (by simp [go_sem, d9]) (by simp [go_sem, d10])
    obtain ⟨hlt, hl16⟩ := hlt
    have hlt' : (i : Int) < raws.length := by omega
    have hl16' : (i : Int) < 16 := by omega
    obtain ⟨ub, uo, eA, hub, huc⟩ := (Rd_on hr hMi.2.2 hA).cells (by omega)
    have hvl := hr.len
    rw [Nat.mul_one] at hvl
    have hvi : vals[i]? = some (vals[i]'(by omega)) := List.getElem?_eq_getElem (by omega)
    have hli : raws[i]? = some raws[i] := List.getElem?_eq_getElem hlt
    have x0 := huc i _ hvi
    have hrv0 := hv i _ _ hvi hli
    have hvm : vals[i]'(by omega) ∈ vals := List.getElem_mem _
    have hrd := (hrv0).on hMi.2.2 (hvO _ hvm)
    have hdrop : (raws.take 16).drop i = raws[i] :: (raws.take 16).drop (i + 1) := by
      rw [List.drop_eq_getElem_cons (by rw [List.length_take]; omega)]
      simp
    rw [hdrop, gotRL_cons] at hL
    clear hrv0 hvi hli huc hvm hdrop
    generalize raws[i] = raw at *
    generalize vals[i]'(by omega) = v at *
    simp [go_sem, IntWalk.iteOmega, IntWalk.toNatUp, d0, d2, d4, d9, d10, d11, d12, hlt', hl16', hlt, eA, x0]
    refine callE_of (rparse_any hrd) ?_
    rintro _ w4 ⟨dv, rfl, hdR, hdo, k4⟩
    have y2 : ∀ (k : Array Value) (t : TypeId), k.size = 34 → canWrite (w4.alloc (.cells k t)) ⟨w4.heap.size, 0, none⟩ 0 34 = true := fun k t hk => canWrite_all (Blk.self_ rfl) 34 hk
    have y3 : ∀ (k : Array Value) (t : TypeId) (l : List Value), k.size = 34 → l.length = 34 → storeSeg (w4.alloc (.cells k t)) ⟨w4.heap.size, 0, none⟩ 0 l = (w4.alloc (.cells k t)).setRow w4.heap.size l.toArray := fun k t l hk hl => storeSeg_all (Blk.self_ rfl) l (by omega)
    have hpo := @parse_ok raw
    have hbo := parse_bk raw
    have hidb : (parseB raw).2 = 0 → (idB (parseB raw).1).1.length = 32 := fun hp => by
      rw [idB_eq (a := sha raw) (parse_ok hp).2 (by rw [bytes_parse hp])]
      exact sha_length raw
    generalize (parseB raw).2 = pe at *
    generalize (parseB raw).1 = b at *
    have l34 : (bkv b dv).length = 34 := bkv_len hbo.len
    obtain ⟨dA, dc, rfl, -⟩ := _root_.id hdR
    have hb1 := bkv_one b dA b.data.length dc
    have k5 : Below wr.heap.size wr ((w4.alloc (.cells zeroB.toArray 29)).setRow w4.heap.size (bkv b (.slice dA b.data.length dc)).toArray) := below_setRow (k4.alloc k4.size _) k4.size _
    have k45 : Below w4.heap.size w4 ((w4.alloc (.cells zeroB.toArray 29)).setRow w4.heap.size (bkv b (.slice dA b.data.length dc)).toArray) := below_setRow (ext_alloc w4 _) (Nat.le_refl _) _
    have h13 : Blk ((w4.alloc (.cells zeroB.toArray 29)).setRow w4.heap.size (bkv b (.slice dA b.data.length dc)).toArray) w4.heap.size 29 (bkv b (.slice dA b.data.length dc)).toArray := Blk_setRow (Blk.self_ rfl)
    by_cases hpe : pe = 0
    case neg =>
      rw [if_pos hpe] at hL
      have hpe' : (pe != 0) = true := by simpa using hpe
      simp [go_sem, IntWalk.iteOmega, IntWalk.toNatUp, d0, d2, d4, d9, d10, d11, d12, y2, y3, l34, hb1, hpe']
      exact GotXR.of (full := false) hL (by simp [go_sem, d9]) (by simp [go_sem, d10]) hn16 (hF.keep k5) (hMi.after (Keeps.of_ext k5))
    subst hpe
    rw [if_neg (by simp)] at hL
    have hck := (hpo rfl).2
    have hnl := hidb rfl
    have hdo4 := hdo rfl
    clear hpo hidb hdo
    simp [go_sem, IntWalk.iteOmega, IntWalk.toNatUp, d0, d2, d4, d9, d10, d11, d12, y2, y3, l34, hb1]
    rw [← zeroB_lit]
    generalize (w4.alloc (.cells zeroB.toArray 29)).setRow w4.heap.size (bkv b (.slice dA b.data.length dc)).toArray = w5 at *
    have hdo5 := row_below hdo4 k45
    have x13 := readCells_all h13 34 (by simpa using l34)
    simp [go_sem, IntWalk.iteOmega, IntWalk.toNatUp, x13]
    refine callE_of (rid_any hbo (hdR.keep k45)) ?_
    rintro _ w6 ⟨rfl, k6⟩
    have z2 : ∀ (k : Array Value) (t : TypeId), k.size = 32 → canWrite (w6.alloc (.cells k t)) ⟨w6.heap.size, 0, none⟩ 0 32 = true := fun k t hk => canWrite_all (Blk.self_ rfl) 32 hk
    have z3 : ∀ (k : Array Value) (t : TypeId) (l : List Value), k.size = 32 → l.length = 32 → storeSeg (w6.alloc (.cells k t)) ⟨w6.heap.size, 0, none⟩ 0 l = (w6.alloc (.cells k t)).setRow w6.heap.size l.toArray := fun k t l hk hl => storeSeg_all (Blk.self_ rfl) l (by omega)
    have hstop : stopR Ri cur ahead b ↔ ((idB b).1 ≠ cur ∨ (∃ c, ahead.getLast? = some c ∧ linkedB c b ≠ 0) ∨ atL cur Ri.K ≠ none ∨ cur = Ri.last) := Iff.rfl
    generalize (idB b).1 = name at *
    have ln : (bl name).length = 32 := by rw [bl_length]; exact hnl
    simp [go_sem, IntWalk.iteOmega, IntWalk.toNatUp, d0, d2, d4, d9, d10, d11, d12, z2, z3, ln, bl_one]
    rw [← zeroI_lit]
    have k67 : Below w6.heap.size w6 ((w6.alloc (.cells zeroI.toArray 27)).setRow w6.heap.size (bl name).toArray) := below_setRow (ext_alloc w6 _) (Nat.le_refl _) _
    have h15 : Blk ((w6.alloc (.cells zeroI.toArray 27)).setRow w6.heap.size (bl name).toArray) w6.heap.size 27 (bl name).toArray := Blk_setRow (Blk.self_ rfl)
    generalize (w6.alloc (.cells zeroI.toArray 27)).setRow w6.heap.size (bl name).toArray = w7 at *
    have k57 : Below w5.heap.size w5 w7 := k6.trans (k67.mono k6.size)
    have k7 : Below wr.heap.size wr w7 := k5.trans (k57.mono k5.size)
    have hF7 := hF.keep k7
    have h137 := h13.keep k57
    have hI7 := hIr.keep k7
    have hL7 := hLr.keep k7
    have hdR7 := (hdR.keep k45).keep k57
    have hdo7 := row_below hdo5 k57
    have p13 : w4.heap.size < w5.heap.size := h13.lt
    have p15 : w6.heap.size < w7.heap.size := h15.lt
    have p56 : w5.heap.size ≤ w6.heap.size := k6.size
    have p4 : wr.heap.size ≤ w4.heap.size := k4.size
    clear y2 y3 z2 z3 x13 x0 hdo4 hdo5 h13 k45 hdR k5 k57 k6 k67 k4 hub eA
    refine W_cutE (fun s8 w8 => ∃ bad : Bool, s8 0 = .pointer (some ⟨g, 0, none⟩) ∧ s8 2 = .slice A raws.length c ∧ s8 4 = .pointer (some ⟨w.heap.size, 0, none⟩) ∧ s8 9 = .int .i64 (List.length ahead : Nat) ∧ s8 10 = .int .i64 8 ∧ s8 11 = .pointer (some ⟨w2.heap.size, 0, none⟩) ∧ s8 12 = .int .i64 i ∧ s8 13 = .pointer (some ⟨w4.heap.size, 0, none⟩) ∧ s8 15 = .pointer (some ⟨w6.heap.size, 0, none⟩) ∧ s8 74 = .bool bad ∧ (bad = true ↔ stopR Ri cur ahead b) ∧ Below w7.heap.size w7 w8) ?_ ?_
    · rw [hstop]
      clear hL hstop
      have kd := ext_drew w7
      have hr4 := held_refl (fun _ => True) w7.drew
      have u0 := readCells_all h15.drew 32 (by simpa using ln)
      have u1 := readCells_all hI7.drew 32 (by rw [List.size_toArray, bl_length]; exact hid)
      have u2 := readCells_all h137.drew 34 (by simpa using l34)
      have u3 := readCells_all hL7.drew 34 (by rw [List.size_toArray, bkv_len hlb])
      have uL := (hF7.keep kd).last0 hokR
      have ul0 : w6.heap.size < w7.heap.size := p15
      have ul1 : w.heap.size < w7.heap.size := hI7.lt
      have ul2 : w4.heap.size < w7.heap.size := h137.lt
      have ul3 : w2.heap.size < w7.heap.size := hL7.lt
      have uLl : g < w7.heap.size := hF7.blk.lt
      have hq := fun W => id_eq name cur hnl hid W
      have hqL := fun W => id_eq cur Ri.last hid hokR.last W
      refine W_flow (fun _ => True) (.pure 0 (.pure 1 (.pure 2 (.pure 3 (.pure 4 (.pure 5 (.pure 6 (.pure 7 (.pure 8 (.one 9 (.pure 10 (.pure 11 (.pure 12 (.pure 13 (.pure 14 (.pure 15 (.one 16 (.pure 17 (.pure 18 (.pure 19 (.pure 20 (.pure 21 (.pure 22 (.pure 23 (.pure 24 (.pure 25 (.pure 26 (.done)))))))))))))))))))))))))))) follows (by kernel_rfl) ?_
      by_cases hni : name = cur
      case neg =>
        have hq' : (name == cur) = false := by simpa using hni
        simp [go_sem, IntWalk.iteOmega, IntWalk.toNatUp, d0, d2, d4, d9, d10, d11, d12, hr4, u0, u1, ul0, ul1, hq, hq']
        refine atCut.mk ⟨true, by simp [go_sem, d0], by simp [go_sem, d2], by simp [go_sem, d4], by simp [go_sem, d9], by simp [go_sem, d10], by simp [go_sem, d11], by simp [go_sem, d12], by simp [go_sem], by simp [go_sem], by simp [go_sem], ?_, kd⟩
        simp only [true_iff]
        exact .inl hni
      have hq' : (name == cur) = true := by simpa using hni
      by_cases hm : 0 < ahead.length
      · have hm' : (0 : Int) < (ahead.length : Int) := by omega
        obtain ⟨hgl, la, hlm⟩ := hla.resolve_left (List.length_pos_iff.1 hm)
        have hld := hF7.dat _ hlm
        simp [go_sem, IntWalk.iteOmega, IntWalk.toNatUp, d0, d2, d4, d9, d10, d11, d12, hr4, u0, u1, ul0, ul1, hq, hq', hm, hm', u2, u3, ul2, ul3]
        refine callE_of (rlinked_any hld.1 (own_rdB (row_below hld.2.1 kd)) hbo (hdR7.keep kd)) ?_
        rintro _ w8 ⟨rfl, k8⟩
        have kk8 : Below w7.heap.size w7 w8 := kd.trans (k8.mono kd.size)
        have hr8 := hr4.below k8
        by_cases c3 : linkedB lb b = 0
        · have c3' : (linkedB lb b != 0) = false := by simpa using c3
          simp [go_sem, IntWalk.iteOmega, IntWalk.toNatUp, d0, d2, d4, d9, d10, d11, d12, hr8, c3, c3', u1, ul1]
          refine callE_of (rfind_any (hF7.keep kk8) hokR hid) ?_
          rintro _ wf ⟨hcase, kf⟩
          have hrf := hr8.below kf
          have kkf := kk8.trans (kf.mono kk8.size)
          rcases hcase with ⟨k, hk, rfl, hka, hkno⟩ | ⟨rfl, hno⟩
          · have hk0 : (0 : Int) ≤ (k : Int) := by omega
            simp [go_sem, IntWalk.iteOmega, IntWalk.toNatUp, d0, d2, d4, d9, d10, d11, d12, hrf, hk0, c3]
            refine atCut.mk ⟨true, by simp [go_sem, d0], by simp [go_sem, d2], by simp [go_sem, d4], by simp [go_sem, d9], by simp [go_sem, d10], by simp [go_sem, d11], by simp [go_sem, d12], by simp [go_sem], by simp [go_sem], by simp [go_sem], ?_, kkf⟩
            simp only [true_iff]
            exact .inr (.inr (.inl (by rw [atL_first hk hka hkno]; simp)))
          · have hat := atL_no hno
            by_cases hlast : cur = Ri.last
            · have hl' : (cur == Ri.last) = true := by simpa using hlast
              simp [go_sem, IntWalk.iteOmega, IntWalk.toNatUp, d0, d2, d4, d9, d10, d11, d12, hrf, u1, ul1, uL, uLl, hqL, hl', c3]
              refine atCut.mk ⟨true, by simp [go_sem, d0], by simp [go_sem, d2], by simp [go_sem, d4], by simp [go_sem, d9], by simp [go_sem, d10], by simp [go_sem, d11], by simp [go_sem, d12], by simp [go_sem], by simp [go_sem], by simp [go_sem], ?_, kkf⟩
              simp only [true_iff]
              exact .inr (.inr (.inr hlast))
            · have hl' : (cur == Ri.last) = false := by simpa using hlast
              simp [go_sem, IntWalk.iteOmega, IntWalk.toNatUp, d0, d2, d4, d9, d10, d11, d12, hrf, u1, ul1, uL, uLl, hqL, hl', c3]
              refine atCut.mk ⟨false, by simp [go_sem, d0], by simp [go_sem, d2], by simp [go_sem, d4], by simp [go_sem, d9], by simp [go_sem, d10], by simp [go_sem, d11], by simp [go_sem, d12], by simp [go_sem], by simp [go_sem], by simp [go_sem], ?_, kkf⟩
              simp only [Bool.false_eq_true, false_iff]
              rintro (h | ⟨c, h, h'⟩ | h | h)
              · exact h hni
              · rw [hgl] at h; injection h with h; subst h; exact h' c3
              · exact h hat
              · exact hlast h
        · have c3' : (linkedB lb b != 0) = true := by simpa using c3
          simp [go_sem, IntWalk.iteOmega, IntWalk.toNatUp, d0, d2, d4, d9, d10, d11, d12, hr8, c3, c3']
          refine atCut.mk ⟨true, by simp [go_sem, d0], by simp [go_sem, d2], by simp [go_sem, d4], by simp [go_sem, d9], by simp [go_sem, d10], by simp [go_sem, d11], by simp [go_sem, d12], by simp [go_sem], by simp [go_sem], by simp [go_sem], ?_, kk8⟩
          simp only [true_iff]
          exact .inr (.inl ⟨_, hgl, c3⟩)
      · have hm0 : ahead = [] := List.length_eq_zero_iff.1 (by omega)
        have hm' : ¬ (0 : Int) < (ahead.length : Int) := by omega
        simp [go_sem, IntWalk.iteOmega, IntWalk.toNatUp, d0, d2, d4, d9, d10, d11, d12, hr4, u0, u1, ul0, ul1, hq, hq', hm, hm', hm0]
        refine callE_of (rfind_any (hF7.keep kd) hokR hid) ?_
        rintro _ wf ⟨hcase, kf⟩
        have hrf := hr4.below kf
        have kkf := kd.trans (kf.mono kd.size)
        rcases hcase with ⟨k, hk, rfl, hka, hkno⟩ | ⟨rfl, hno⟩
        · have hk0 : (0 : Int) ≤ (k : Int) := by omega
          simp [go_sem, IntWalk.iteOmega, IntWalk.toNatUp, d0, d2, d4, d9, d10, d11, d12, hrf, hk0, hm0]
          refine atCut.mk ⟨true, by simp [go_sem, d0], by simp [go_sem, d2], by simp [go_sem, d4], by simp [go_sem, d9], by simp [go_sem, d10], by simp [go_sem, d11], by simp [go_sem, d12], by simp [go_sem], by simp [go_sem], by simp [go_sem], ?_, kkf⟩
          simp only [true_iff]
          exact .inr (.inr (.inl (by rw [atL_first hk hka hkno]; simp)))
        · have hat := atL_no hno
          by_cases hlast : cur = Ri.last
          · have hl' : (cur == Ri.last) = true := by simpa using hlast
            simp [go_sem, IntWalk.iteOmega, IntWalk.toNatUp, d0, d2, d4, d9, d10, d11, d12, hrf, u1, ul1, uL, uLl, hqL, hl', hm0]
            refine atCut.mk ⟨true, by simp [go_sem, d0], by simp [go_sem, d2], by simp [go_sem, d4], by simp [go_sem, d9], by simp [go_sem, d10], by simp [go_sem, d11], by simp [go_sem, d12], by simp [go_sem], by simp [go_sem], by simp [go_sem], ?_, kkf⟩
            simp only [true_iff]
            exact .inr (.inr (.inr hlast))
          · have hl' : (cur == Ri.last) = false := by simpa using hlast
            simp [go_sem, IntWalk.iteOmega, IntWalk.toNatUp, d0, d2, d4, d9, d10, d11, d12, hrf, u1, ul1, uL, uLl, hqL, hl', hm0]
            refine atCut.mk ⟨false, by simp [go_sem, d0], by simp [go_sem, d2], by simp [go_sem, d4], by simp [go_sem, d9], by simp [go_sem, d10], by simp [go_sem, d11], by simp [go_sem, d12], by simp [go_sem], by simp [go_sem], by simp [go_sem], ?_, kkf⟩
            simp only [Bool.false_eq_true, false_iff]
            rintro (h | ⟨c, h, h'⟩ | h | h)
            · exact h hni
            · rw [hm0] at h; simp at h
            · exact h hat
            · exact hlast h
    · rintro s8 w8 ⟨bad, f0, f2, f4, f9, f10, f11, f12, f13, f15, f74, hbad, k8⟩
      have kk8 : Below wr.heap.size wr w8 := k7.trans (k8.mono k7.size)
      have hF8 := hF.keep kk8
      by_cases hst : stopR Ri cur ahead b
      · rw [if_pos hst] at hL
        have hbt := hbad.2 hst
        simp [go_sem, IntWalk.iteOmega, IntWalk.toNatUp, f0, f2, f4, f9, f10, f11, f12, f13, f15, f74, hbt]
        exact GotXR.of (full := false) hL (by simp [go_sem, f9]) (by simp [go_sem, f10]) hn16 hF8 (hMi.after (Keeps.of_ext kk8))
      rw [if_neg hst] at hL
      have hbf : bad = false := by
        cases bad
        · rfl
        · exact absurd (hbad.1 rfl) hst
      have hnm : name = cur := Decidable.byContradiction fun hh => hst (hstop.2 (.inl hh))
      have hdl := kds_len hF.kmap
      obtain ⟨-, vA, vc, rfl⟩ := own_sl hF.krow
      have h137 := h137.keep k8
      have h15 := h15.keep k8
      have hI8 := hI7.keep k8
      have hL8 := hL7.keep k8
      have hdo8 := row_below hdo7 k8
      have hkn := hokR.kn
      have hIw := hIr
      have hLw := hLr
      have hlbw := hlb
      clear hstop hbad hI7 hL7 hdo7 hF7 hdR7 hla
      simp [go_sem, IntWalk.iteOmega, IntWalk.toNatUp, f0, f2, f4, f9, f10, f11, f12, f13, f15, f74, hbf]
      have kd1 := ext_drew w8
      have c35 := (hF8.keep kd1).c35 hokR
      have c33 := (hF8.keep kd1).c33 hokR
      refine W_still follows (by kernel_rfl) ?_
      by_cases hfull : Ri.room ≤ Ri.K.length
      · rw [if_pos hfull] at hL
        have hf' : Ri.room ≤ (dsi.length : Int) := by omega
        simp [go_sem, IntWalk.iteOmega, IntWalk.toNatUp, f0, f2, f4, f9, f10, f11, f12, f13, f15, c35, c33, hf']
        exact GotXR.of (full := true) hL (by simp [go_sem, f9]) (by simp [go_sem]) hn16 (hF8.keep kd1) ((hMi.after (Keeps.of_ext kk8)).after (Keeps.of_ext kd1))
      have hokN := hokR.addK (name := name) hnl ⟨hbo, hck⟩ hfull
      rw [if_neg hfull] at hL
      have hf' : ¬ Ri.room ≤ (dsi.length : Int) := by omega
      simp [go_sem, IntWalk.iteOmega, IntWalk.toNatUp, f0, f2, f4, f9, f10, f11, f12, f13, f15, c35, c33, hf']
      have kk9 : Below wr.heap.size wr w8.drew := kk8.drew
      have h137 := h137.drew
      have h15 := h15.drew
      have hI8 := hI8.drew
      have hL8 := hL8.drew
      have hdo8 := row_below hdo8 kd1
      have hF9 := hF8.keep kd1
      have hs9 : w8.drew.heap.size = w8.heap.size := rfl
      generalize w8.drew = w9 at *
      obtain ⟨dvv, hdvv⟩ : ∃ dvv, dvv = Value.slice dA b.data.length dc := ⟨_, rfl⟩
      refine W_cutE (fun s wz => ∃ kv' : Value, s 0 = .pointer (some ⟨g, 0, none⟩) ∧ s 2 = .slice A raws.length c ∧ s 4 = .pointer (some ⟨w.heap.size, 0, none⟩) ∧ s 9 = .int .i64 (List.length ahead : Nat) ∧ s 10 = .int .i64 8 ∧ s 11 = .pointer (some ⟨w2.heap.size, 0, none⟩) ∧ s 12 = .int .i64 i ∧ s 13 = .pointer (some ⟨w4.heap.size, 0, none⟩) ∧ RIn wz (fun j => Oi j ∨ kv'.ownBlock = some j ∨ (Value.slice dA b.data.length dc).ownBlock = some j) g { Ri with K := Ri.K ++ [(name, b)] } tv kv' avi vs (dsi ++ [(name, b, .slice dA b.data.length dc)]) ∧ Mine Oi (fun j => Oi j ∨ kv'.ownBlock = some j ∨ (Value.slice dA b.data.length dc).ownBlock = some j) wr wz ∧ Blk wz w4.heap.size 29 (bkv b (.slice dA b.data.length dc)).toArray) ?_ ?_
      · refine W_flow (fun j => j = w4.heap.size ∨ j = w6.heap.size) (.pure 0 (.pure 1 (.pure 2 (.pure 3 (.pure 6 (.pure 7 (.pure 8 (.two 4 (.two 5 (.one 9 (.one 10 (.pure 11 (.pure 12 (.one 13 (.done)))))) 9 (.one 5 (.one 10 (.pure 11 (.pure 12 (.one 13 (.done))))))) 9 (.one 4 (.one 5 (.one 10 (.pure 11 (.pure 12 (.one 13 (.done))))))))))))))) follows (by kernel_rfl) ?_
        have hq := held_refl (fun j => j = w4.heap.size ∨ j = w6.heap.size) w9.drew
        have kd2 := ext_drew w9
        have k9d := kk9.drew
        have h137 := h137.drew
        have h15 := h15.drew
        have hdo8 := row_below hdo8 kd2
        have hFd := hF9.keep kd2
        generalize w9.drew = v at *
        have c35 := hFd.c35 hokR
        have u0 := readCells_all h15 32 (by simpa using ln)
        have u1 := readCells_all h137 34 (by simpa using l34)
        have ul0 := h15.lt
        have ul1 := h137.lt
        have hqa : ∀ o, heldE (fun j => j = w4.heap.size ∨ j = w6.heap.size) v (v.alloc o) := fun o => hq.alloc o
        have c35a : ∀ o, (v.alloc o).cell? ⟨g, 35, none⟩ = some (.slice vA dsi.length vc) := fun o => (hFd.keep (ext_alloc v o)).c35 hokR
        obtain ⟨KK, hKK⟩ : ∃ KK, KK = kEnc (name, b, .slice dA b.data.length dc) := ⟨_, rfl⟩
        have lK : KK.length = 66 := by rw [hKK]; unfold kEnc; rw [List.length_append, ln, l34]
        have hoK : allOne KK = true := by
          rw [hKK]
          exact allOne_of fun v hv => by
            unfold kEnc at hv
            rcases List.mem_append.1 hv with hv | hv
            · exact allOne_mem (bl_one _) v hv
            · exact allOne_mem hb1 v hv
        obtain ⟨z1, hz1⟩ : ∃ z1, List.foldl (fun (cs : Array Value) (x : Value × Nat) => cs.setIfInBounds x.snd x.fst) Tryz.zeroCells167 (bl name).zipIdx = z1 := ⟨_, rfl⟩
        have hz1' := foldl_set (bl name) 0 Tryz.zeroCells167 (by rw [ln]; decide)
        rw [hz1, ln] at hz1'
        have hz1s : z1.size = 66 := by
          rw [hz1', List.size_toArray, List.length_append, List.length_append, ln]
          rfl
        have hz2 : List.foldl (fun (cs : Array Value) (x : Value × Nat) => cs.setIfInBounds (32 + x.snd) x.fst) z1 (bkv b (.slice dA b.data.length dc)).zipIdx = KK.toArray := by
          rw [foldl_off (bkv b (.slice dA b.data.length dc)) 0 z1 (by rw [l34, hz1s]; decide), l34, hz1', hKK]
          have e1 : (List.take 0 (Tryz.zeroCells167).toList ++ bl name ++ List.drop (0 + 32) (Tryz.zeroCells167).toList).toArray.toList.take (32 + 0) = bl name := by
            rw [List.take_zero, List.nil_append, List.take_append_of_le_length (by rw [ln]; decide)]
            exact List.take_of_length_le (by rw [ln]; decide)
          have e2 : (List.take 0 (Tryz.zeroCells167).toList ++ bl name ++ List.drop (0 + 32) (Tryz.zeroCells167).toList).toArray.toList.drop (32 + 0 + 34) = [] := by
            refine List.drop_eq_nil_of_le ?_
            rw [List.length_append, List.length_append, ln]
            decide
          rw [e1, e2, List.append_nil]
          rfl
        have hz3 : ∀ C : Array Value, C.size = 66 → List.foldl (fun (cs : Array Value) (x : Value × Nat) => cs.setIfInBounds x.snd x.fst) C KK.zipIdx = KK.toArray := fun C hC => by
          rw [foldl_set KK 0 C (by rw [lK, hC]; decide), lK, List.take_zero, List.nil_append, List.drop_eq_nil_of_le (by rw [Array.length_toList, hC]; decide), List.append_nil]
        have hgw : g < wr.heap.size := hF.blk.lt
        have h1k : allOne (dsi.flatMap kEnc) = true := allOne_of fun u hu => by
          obtain ⟨x, hx, hu⟩ := List.mem_flatMap.1 hu
          unfold kEnc at hu
          rcases List.mem_append.1 hu with hu | hu
          · exact allOne_mem (bl_one _) u hu
          · obtain ⟨-, xA, xc, ex⟩ := own_sl (hF.dat x hx).2.1
            rw [ex] at hu
            exact allOne_mem (bkv_one _ _ _ _) u hu
        have hfix : ∀ (u : Value) (wz : World), wz.ownsRow v.heap.size 167 66 u (0 + dsi.length + 1) ([] ++ dsi.flatMap kEnc ++ KK) → wz.ownsRow v.heap.size 167 66 u (dsi ++ [(name, b, Value.slice dA b.data.length dc)]).length ((dsi ++ [(name, b, Value.slice dA b.data.length dc)]).flatMap kEnc) := fun u wz hh => by
          have e1 : (dsi ++ [(name, b, Value.slice dA b.data.length dc)]).length = 0 + dsi.length + 1 := by simp
          have e2 : (dsi ++ [(name, b, Value.slice dA b.data.length dc)]).flatMap kEnc = [] ++ dsi.flatMap kEnc ++ KK := by
            rw [List.flatMap_append, hKK]
            simp
          rw [e1, e2]
          exact hh
        clear hz1'
        simp [go_sem, IntWalk.iteOmega, IntWalk.toNatUp, f0, f2, f4, f9, f10, f11, f12, f13, f15, hq, hqa, c35, c35a, u0, u1, ul0, ul1, ln, l34, hz1, hz1s, hz2, lK]
        refine ⟨⟨?_, ?_⟩, ?_⟩
        · refine appendE v.heap.size 167 66 96 Tryz.underlying122 el167 (World.ownsRow_nil _ _ _ _) (Rd.of_own hFd.krow) h1k (by unfold maxLen; omega) (by omega) (Nat.le_refl _) ?_
          intro u1 w10 hr4 hg4 hb4
          have k4 : Below v.heap.size v w10 := (Below.refl _ _).grown hg4 (Nat.le_refl _) (fun j hj => by cases hj)
          have hq4 := hq.below k4
          simp [go_sem, IntWalk.iteOmega, IntWalk.toNatUp, hq4, lK]
          rw [hz3 _ rfl]
          have kI := ext_alloc w10 (.cells KK.toArray 167)
          have hrI := rd_one (Blk.self_ (w := w10) (t := 167) (cs := KK.toArray) rfl) lK
          have hr5 := row_below hr4 kI
          have k5 := k4.trans (kI.mono k4.size)
          refine ⟨hq.below k5, ?_⟩
          generalize w10.alloc (.cells KK.toArray 167) = w11 at *
          refine appendE v.heap.size 167 66 96 Tryz.underlying122 el167 hr5 hrI hoK (by unfold maxLen; omega) (by omega) k5.size ?_
          intro u2 w12 hr6 hg6 hb6
          have k6 := k5.grown hg6 k5.size fun j hj => (hr5.lt j hj).1
          have hfz := (hFd.keep k6).blk.frozen
          have c35x := (hFd.keep k6).c35 hokR
          have hq6 := hq.below k6
          have hrow := hfix _ _ hr6
          obtain ⟨-, uA, uc, rfl⟩ := own_sl hr6
          have hlA : 0 + dsi.length + 1 = dsi.length + 1 := by omega
          have hq7 := hq6.set (g := g) (o := 35) (.slice uA (0 + dsi.length + 1) uc) (by omega)
          rw [hlA] at hrow hq7
          simp [go_sem, IntWalk.iteOmega, IntWalk.toNatUp, hq6, hfz, c35x, hq7]
          have kW := k9d.trans (k6.mono k9d.size)
          have hN := hF.newK hokR.last kW (own_mono hrow k9d.size) hbo (row_below hdo8 k6)
          exact atCut.mk ⟨_, by simp [go_sem, f0], by simp [go_sem, f2], by simp [go_sem, f4], by simp [go_sem, f9], by simp [go_sem, f10], by simp [go_sem, f11], by simp [go_sem, f12], by simp [go_sem, f13], hN.1, hN.2, (Keeps.setCell (O := fun j => j ≠ g) _ _ _ fun hh => hh rfl).blk (h137.keep k6) (by omega)⟩
        · rw [hz3 _ rfl]
          have k3 := ext_alloc v (.cells KK.toArray 167)
          have hI3 : Blk (v.alloc (.cells KK.toArray 167)) v.heap.size 167 KK.toArray := Blk.self_ rfl
          generalize v.alloc (.cells KK.toArray 167) = w10 at *
          refine appendE v.heap.size 167 66 96 Tryz.underlying122 el167 (World.ownsRow_nil _ _ _ _) ((Rd.of_own hFd.krow).keep k3) h1k (by unfold maxLen; omega) (by omega) k3.size ?_
          intro u1 w11 hr5 hg4 hb4
          have k35 : Below w10.heap.size w10 w11 := (Below.refl _ _).grown hg4 (Nat.le_refl _) (fun j hj => by cases hj)
          have k5 := k3.trans (k35.mono k3.size)
          have hq5 := hq.below k5
          have hrI := rd_one (hI3.keep k35) lK
          simp [go_sem, IntWalk.iteOmega, IntWalk.toNatUp, hq5]
          refine appendE v.heap.size 167 66 96 Tryz.underlying122 el167 hr5 hrI hoK (by unfold maxLen; omega) (by omega) k5.size ?_
          intro u2 w12 hr6 hg6 hb6
          have k6 := k5.grown hg6 k5.size fun j hj => (hr5.lt j hj).1
          have hfz := (hFd.keep k6).blk.frozen
          have c35x := (hFd.keep k6).c35 hokR
          have hq6 := hq.below k6
          have hrow := hfix _ _ hr6
          obtain ⟨-, uA, uc, rfl⟩ := own_sl hr6
          have hlA : 0 + dsi.length + 1 = dsi.length + 1 := by omega
          have hq7 := hq6.set (g := g) (o := 35) (.slice uA (0 + dsi.length + 1) uc) (by omega)
          rw [hlA] at hrow hq7
          simp [go_sem, IntWalk.iteOmega, IntWalk.toNatUp, hq6, hfz, c35x, hq7]
          have kW := k9d.trans (k6.mono k9d.size)
          have hN := hF.newK hokR.last kW (own_mono hrow k9d.size) hbo (row_below hdo8 k6)
          exact atCut.mk ⟨_, by simp [go_sem, f0], by simp [go_sem, f2], by simp [go_sem, f4], by simp [go_sem, f9], by simp [go_sem, f10], by simp [go_sem, f11], by simp [go_sem, f12], by simp [go_sem, f13], hN.1, hN.2, (Keeps.setCell (O := fun j => j ≠ g) _ _ _ fun hh => hh rfl).blk (h137.keep k6) (by omega)⟩
        · rw [hz3 _ rfl]
          have k3 := ext_alloc v (.cells KK.toArray 167)
          have hI3 : Blk (v.alloc (.cells KK.toArray 167)) v.heap.size 167 KK.toArray := Blk.self_ rfl
          generalize v.alloc (.cells KK.toArray 167) = w10 at *
          refine appendE v.heap.size 167 66 96 Tryz.underlying122 el167 (World.ownsRow_nil _ _ _ _) ((Rd.of_own hFd.krow).keep k3) h1k (by unfold maxLen; omega) (by omega) k3.size ?_
          intro u1 w11 hr5 hg4 hb4
          have k35 : Below w10.heap.size w10 w11 := (Below.refl _ _).grown hg4 (Nat.le_refl _) (fun j hj => by cases hj)
          have k5 := k3.trans (k35.mono k3.size)
          have hq5 := hq.below k5
          have hrI := rd_one (hI3.keep k35) lK
          simp [go_sem, IntWalk.iteOmega, IntWalk.toNatUp, hq5]
          refine appendE v.heap.size 167 66 96 Tryz.underlying122 el167 hr5 hrI hoK (by unfold maxLen; omega) (by omega) k5.size ?_
          intro u2 w12 hr6 hg6 hb6
          have k6 := k5.grown hg6 k5.size fun j hj => (hr5.lt j hj).1
          have hfz := (hFd.keep k6).blk.frozen
          have c35x := (hFd.keep k6).c35 hokR
          have hq6 := hq.below k6
          have hrow := hfix _ _ hr6
          obtain ⟨-, uA, uc, rfl⟩ := own_sl hr6
          have hlA : 0 + dsi.length + 1 = dsi.length + 1 := by omega
          have hq7 := hq6.set (g := g) (o := 35) (.slice uA (0 + dsi.length + 1) uc) (by omega)
          rw [hlA] at hrow hq7
          simp [go_sem, IntWalk.iteOmega, IntWalk.toNatUp, hq6, hfz, c35x, hq7]
          have kW := k9d.trans (k6.mono k9d.size)
          have hN := hF.newK hokR.last kW (own_mono hrow k9d.size) hbo (row_below hdo8 k6)
          exact atCut.mk ⟨_, by simp [go_sem, f0], by simp [go_sem, f2], by simp [go_sem, f4], by simp [go_sem, f9], by simp [go_sem, f10], by simp [go_sem, f11], by simp [go_sem, f12], by simp [go_sem, f13], hN.1, hN.2, (Keeps.setCell (O := fun j => j ≠ g) _ _ _ fun hh => hh rfl).blk (h137.keep k6) (by omega)⟩
      · rintro s10 wz ⟨kv', g0, g2, g4, g9, g10, g11, g12, g13, hFz, hMz, hBz⟩
        have hsl : (Ri.K ++ [(name, b)]).length = Ri.K.length + 1 := by rw [List.length_append]; rfl
        obtain ⟨On, hOn⟩ : ∃ On : Nat → Prop, On = fun j => Oi j ∨ kv'.ownBlock = some j ∨ (Value.slice dA b.data.length dc).ownBlock = some j := ⟨_, rfl⟩
        rw [← hOn] at hFz hMz
        have hwrl : w.heap.size < wr.heap.size := hIw.lt
        have hwr2 : w2.heap.size < wr.heap.size := hLw.lt
        have hn1' : ¬ On w.heap.size := fun hO => (hMz.1 _ hO).elim hn1 fun hh => by omega
        have hn2' : ¬ On w2.heap.size := fun hO => (hMz.1 _ hO).elim hn2 fun hh => by omega
        have hIz := hMz.2.2.blk hIw hn1
        have hLz := hMz.2.2.blk hLw hn2
        have hMn := hMi.trans hMz
        have hE : IntKind.i64.wrap ((ahead.length : Int) + 1) = ((ahead.length + 1 : Nat) : Int) := by rw [wrap_i64_if, if_pos (by omega)]; omega
        have xb := readCells_all hBz 34 (by simpa using l34)
        have m2 := canWrite_all hLz 34 (by rw [List.size_toArray, bkv_len hlbw])
        have m3 := storeSeg_all hLz (bkv b (.slice dA b.data.length dc)) (by rw [List.size_toArray, bkv_len hlbw, l34])
        have hwr4 : wr.heap.size ≤ w4.heap.size := p4
        have hBy := hBz.farRow (b := w2.heap.size) (by omega) (bkv b (.slice dA b.data.length dc)).toArray
        have hIy := hIz.farRow (b := w2.heap.size) (by omega) (bkv b (.slice dA b.data.length dc)).toArray
        have lp : (bl b.parent).length = 32 := by rw [bl_length]; exact hbo.len
        have xp := readCells_blk hBy 32 0 0 (bl b.parent) lp (fun j v hj => by
          have := bkv_id (dv := Value.slice dA b.data.length dc) hbo.len hj
          simpa using this)
        have m4 := canWrite_all hIy 32 (by rw [List.size_toArray, bl_length]; exact hid)
        have m5 := storeSeg_all hIy (bl b.parent) (by rw [List.size_toArray, bl_length, bl_length, hid]; exact hbo.len)
        simp [go_sem, IntWalk.iteOmega, IntWalk.toNatUp, g0, g2, g4, g9, g10, g11, g12, g13, hE, xb, m2, m3, l34, hb1, xp, m4, m5, lp, bl_one]
        have kR : Keeps (fun j => j ≠ w2.heap.size ∧ j ≠ w.heap.size) wz ((wz.setRow w2.heap.size (bkv b (.slice dA b.data.length dc)).toArray).setRow w.heap.size (bl b.parent).toArray) := (Keeps.setRow _ _ _ fun hh => hh.1 rfl).trans (Keeps.setRow _ _ _ fun hh => hh.2 rfl)
        have hFy := hFz.keeps (kR.mono fun j _ hj => ⟨fun e => hn2' (by rw [← e]; exact hj), fun e => hn1' (by rw [← e]; exact hj)⟩)
        have hgO : ∀ {j : Nat}, O j → j < w.heap.size := fun {j} hj => h.lt j hj
        have hMy := hMn.afterHi (kR.mono fun j _ hj => ⟨fun e => by have := hj.2; omega, fun e => by have := hj.2; omega⟩)
        refine roundEnd.mk ⟨i + 1, _, b.parent, ahead ++ [b], On, kv', avi, _, b, .slice dA b.data.length dc, by omega, by omega, by simp [go_sem, g0], by simp [go_sem, g2], by simp [go_sem, g4], by simp [go_sem], by simp [go_sem, g10], by simp [go_sem, g11], by simp [go_sem], hL, hokN, hFy, hMy, hn1', hn2', Blk_setRow hIy, hbo.len, (Blk_setRow hLz).farRow (by omega) _, hbo.len, .inr ⟨by simp, name, by simp⟩, by rw [List.length_append]; show ahead.length + 1 ≤ i + 1; omega⟩ ?_
        simp [go_sem, intOf, g12]; omega
  · rintro st wr ⟨h9, h10, hn16, hM⟩
    by_cases hz : Z.2.1 = []
    · have hn : ¬ (0 : Int) < (Z.2.1.length : Int) := by rw [hz]; decide
      cases hful : Z.2.2 with
      | true =>
        have eE : gotE2 Z.2 = (0, 6) := by unfold gotE2; rw [if_neg (by simpa using hz), if_pos hful]
        rw [eE]
        rw [hz] at h9
        rw [hful] at h10
        simp [go_sem, IntWalk.iteOmega, IntWalk.toNatUp, h9, h10]
        exact hM
      | false =>
        have eE : gotE2 Z.2 = (0, 8) := by unfold gotE2; rw [if_neg (by simpa using hz), if_neg (by rw [hful]; decide)]
        rw [eE]
        rw [hz] at h9
        rw [hful] at h10
        simp [go_sem, IntWalk.iteOmega, IntWalk.toNatUp, h9, h10]
        exact hM
    · have hz' : 0 < Z.2.1.length := List.length_pos_iff.2 hz
      have hn : (0 : Int) < (Z.2.1.length : Int) := by omega
      have eE : gotE2 Z.2 = ((Z.2.1.length : Int), 0) := by unfold gotE2; rw [if_pos (by simpa using hz)]
      rw [eE]
      simp [go_sem, IntWalk.iteOmega, IntWalk.toNatUp, h9, h10, hn, hz']
      exact hM
end
end Go.Proofs.YtdjcjjodbniebaaGreatDoor
