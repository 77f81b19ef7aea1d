/-
  Texts joined: FSmallO, FIndexB, FNames5, FNones.
-/
import Derived.Test.YtdjcjjodbniebaaGreatDoorJoin33
namespace Go.Proofs.YtdjcjjodbniebaaGreatDoor
open Go.RowKit
set_option linter.unusedVariables false
set_option linter.unusedSimpArgs false
set_option maxRecDepth 10000
theorem flat_take : ∀ (l : List Op1) (m : Nat), (l.flatMap opc).take (m * 8) = (l.take m).flatMap opc
  | [], m => by simp
  | o :: l, 0 => by simp
  | o :: l, m + 1 => by
    show (opc o ++ l.flatMap opc).take ((m + 1) * 8) = opc o ++ (l.take m).flatMap opc
    rw [List.take_append, opc_len, List.take_of_length_le (by rw [opc_len]; omega), show (m + 1) * 8 - 8 = m * 8 by omega, flat_take l m]
theorem ops_at : ∀ (l : List Op1) (i : Nat) (o : Op1), l[i]? = some o → ∀ (j : Nat) (v : Value), (opc o)[j]? = some v → (l.flatMap opc)[i * 8 + j]? = some v
  | [], i, o, h, _, _, _ => by simp at h
  | y :: l, 0, o, h, j, v, hj => by
    simp at h
    subst h
    show (opc y ++ l.flatMap opc)[0 * 8 + j]? = some v
    rw [Nat.zero_mul, Nat.zero_add, List.getElem?_append_left (List.getElem?_eq_some_iff.1 hj).1]
    exact hj
  | y :: l, i + 1, o, h, j, v, hj => by
    show (opc y ++ l.flatMap opc)[(i + 1) * 8 + j]? = some v
    rw [List.getElem?_append_right (by rw [opc_len]; omega), opc_len, show (i + 1) * 8 + j - 8 = i * 8 + j by omega]
    exact ops_at l i o (by simpa using h) j v hj
theorem Sl.take_ {w : World} {A : Option Addr} {c : Nat} {l : List Op1} (h : Sl w 8 (.slice A l.length c) l.length (l.flatMap opc)) (m : Nat) : Sl w 8 (.slice A (l.take m).length c) (l.take m).length ((l.take m).flatMap opc) := by
  obtain ⟨A', c', e, hr, h0, h1, h2⟩ := h
  injection e with e1 e2 e3
  subst e1 e3
  have hle : (l.take m).length ≤ l.length := by rw [List.length_take]; omega
  refine ⟨A, c, rfl, ⟨?_, fun hp => ?_⟩, fun hA => ⟨by have := (h0 hA).1; omega, (h0 hA).2⟩, by omega, h2⟩
  · rw [← flat_take, List.length_take, hr.len, List.length_take]
    omega
  · obtain ⟨g, o, e, hg, hc⟩ := hr.cells (by omega)
    refine ⟨g, o, e, hg, fun j v hj => hc j v ?_⟩
    rw [← flat_take, List.getElem?_take] at hj
    split at hj
    · exact hj
    · cases hj
/-- an act of a row of acts -/
theorem rd_op {w : World} {A : Option Addr} {c : Nat} {l : List Op1} (h : Sl w 8 (.slice A l.length c) l.length (l.flatMap opc)) {i : Nat} (hi : i < l.length) : ∃ b o, A = some ⟨b, o, none⟩ ∧ b < w.heap.size ∧ ∀ W, Below w.heap.size w W → readCells W ⟨b, o + i * 8, none⟩ 0 8 = some (opc l[i]) := by
  obtain ⟨A', c', e, hr, -⟩ := h
  injection e with e1 e2 e3
  subst e1 e3
  obtain ⟨b, o, rfl, hb, hc⟩ := hr.cells (by omega)
  refine ⟨b, o, rfl, hb, fun W hW => readCells_cells 8 0 _ (opc_len _) fun j v hj => ?_⟩
  rw [show o + i * 8 + 0 + j = o + (i * 8 + j) by omega]
  exact (hW.cell (p := ⟨b, o + (i * 8 + j), none⟩) hb).trans (hc _ _ (ops_at l i _ (List.getElem?_eq_getElem hi) j v hj))
def zeroO : List Value := [.int .i64 0, .int .u8 0, .int .u8 0, .bool false, .slice none 0 0, .int .u8 0, .int .u8 0, .slice none 0 0]
def OpSmall (o : Op1) : Prop := o.fr.length ≤ 50 ∧ o.raw.length ≤ 300
set_option maxHeartbeats 3200000 in
theorem small_any {w : World} {v : Value} {l : List Op1} (hs : Sl w 8 v l.length (l.flatMap opc)) (ho : ∀ o ∈ l, OpIn w o) :
    callE Tryz.prog 25 #[v] w fun r w' => ((∃ A c, (∀ o ∈ l.take 40, OpSmall o) ∧ r = .tuple #[.slice A (l.take 40).length c, .bool true] ∧ Sl w 8 (.slice A (l.take 40).length c) (l.take 40).length ((l.take 40).flatMap opc)) ∨ r = .tuple #[.slice none 0 0, .bool false]) ∧ Below w.heap.size w w' := by
  obtain ⟨A, c, rfl, hr, h0, h1, h2⟩ := id hs
  have ht := Sl.take_ hs 40
  have hoT : ∀ o ∈ l.take 40, OpIn w o := fun o h => ho o (List.mem_of_mem_take h)
  have hmin : min (l.length : Int) 40 = ((l.take 40).length : Int) := by rw [List.length_take]; omega
  have hle : (l.take 40).length ≤ l.length := by rw [List.length_take]; omega
  have hlec : ((l.take 40).length : Int) ≤ c := by omega
  have hlec' : (l.take 40).length ≤ c := by omega
  have h40 : (l.take 40).length ≤ 40 := by rw [List.length_take]; omega
  generalize l.take 40 = L at *
  refine calls_E Tryz.func25 rfl rfl rfl (Nat.le_of_ble_eq_true rfl) ?_
  simp [go_sem, IntWalk.iteOmega, IntWalk.toNatUp, hmin, hlec, hlec']
  refine W_loop (fun st wr => ∃ i : Nat, i ≤ L.length ∧ st 0 = .slice A L.length c ∧ st 11 = .slice A L.length c ∧ st 12 = .int .i64 L.length ∧ st 13 = .int .i64 i ∧ (∀ m (hm : m < L.length), m < i → OpSmall L[m]) ∧ Below w.heap.size w wr) (fun st _ => L.length - (intOf (st 13)).toNat) ?_ ?_
  · exact ⟨0, by omega, by simp [go_sem], by simp [go_sem], by simp [go_sem], by simp [go_sem], fun m hm h => by omega, Below.refl _ _⟩
  · clear hmin hlec hlec' hle h0 h1 h2
    rintro st wr ⟨i, hi, e0, e11, e12, e13, hsm, hB⟩
    by_cases hlt : i < L.length
    · have hlt' : (i : Int) < L.length := by omega
      obtain ⟨b, o, rfl, hb, hat⟩ := rd_op ht hlt
      obtain ⟨fA, fc, efv, -, -, -⟩ := (hoT _ (List.getElem_mem hlt)).2
      obtain ⟨rA, rc, erv, -, -, -⟩ := (hoT _ (List.getElem_mem hlt)).1
      have hstep : OpSmall L[i] → ∀ m (hm : m < L.length), m < i + 1 → OpSmall L[m] := fun h m hm hmi => by
        by_cases hme : m = i
        · subst hme; exact h
        · exact hsm m hm (by omega)
      have x1 := hat wr hB
      have x1a : ∀ q, readCells (wr.alloc q) ⟨b, o + i * 8, none⟩ 0 8 = some (opc L[i]) := fun q => hat _ (hB.trans ((ext_alloc wr q).mono hB.size))
      have hst : L[i].fr.length ≤ 50 → L[i].raw.length ≤ 300 → OpSmall L[i] := fun h1 h2 => ⟨h1, h2⟩
      generalize L[i] = ob at *
      have l8 : (opc ob).length = 8 := rfl
      have h1c : allOne (opc ob) = true := by
        unfold opc opA opV
        rw [efv, erv]
        rfl
      have y2 : ∀ (k : Array Value) (t : TypeId), k.size = 8 → canWrite (wr.alloc (.cells k t)) ⟨wr.heap.size, 0, none⟩ 0 8 = true := fun k t hk => canWrite_all (Blk.self_ rfl) 8 hk
      have y3 : ∀ (k : Array Value) (t : TypeId) (l : List Value), k.size = 8 → l.length = 8 → storeSeg (wr.alloc (.cells k t)) ⟨wr.heap.size, 0, none⟩ 0 l = (wr.alloc (.cells k t)).setRow wr.heap.size l.toArray := fun k t l hk hl => storeSeg_all (Blk.self_ rfl) l (by omega)
      have hX : ∀ (k : Array Value) (t : TypeId), Blk ((wr.alloc (.cells k t)).setRow wr.heap.size (opc ob).toArray) wr.heap.size t (opc ob).toArray := fun k t => Blk_setRow (Blk.self_ rfl)
      have x4 : ∀ (k : Array Value) (t : TypeId), ((wr.alloc (.cells k t)).setRow wr.heap.size (opc ob).toArray).cell? ⟨wr.heap.size, 4, none⟩ = some (.slice fA ob.fr.length fc) := fun k t => by rw [(hX k t).cell, ← efv]; rfl
      have x7 : ∀ (k : Array Value) (t : TypeId), ((wr.alloc (.cells k t)).setRow wr.heap.size (opc ob).toArray).cell? ⟨wr.heap.size, 7, none⟩ = some (.slice rA ob.raw.length rc) := fun k t => by rw [(hX k t).cell, ← erv]; rfl
      have kS : ∀ (k : Array Value) (t : TypeId), Below w.heap.size w ((wr.alloc (.cells k t)).setRow wr.heap.size (opc ob).toArray) := fun k t => hB.trans ((below_setRow (ext_alloc wr _) (Nat.le_refl _) _).mono hB.size)
      by_cases h50 : 50 < ob.fr.length
      · have h50' : (50 : Int) < ob.fr.length := by omega
        simp [go_sem, IntWalk.iteOmega, IntWalk.toNatUp, e0, e11, e12, e13, hlt, hlt', x1, x1a, l8, h1c, y2, y3, x4, x7, h50, h50']
        exact kS _ _
      · have h50' : ¬ (50 : Int) < ob.fr.length := by omega
        by_cases h300 : 300 < ob.raw.length
        · have h300' : (300 : Int) < ob.raw.length := by omega
          simp [go_sem, IntWalk.iteOmega, IntWalk.toNatUp, e0, e11, e12, e13, hlt, hlt', x1, x1a, l8, h1c, y2, y3, x4, x7, h50, h50', h300, h300']
          exact kS _ _
        · have h300' : ¬ (300 : Int) < ob.raw.length := by omega
          simp [go_sem, IntWalk.iteOmega, IntWalk.toNatUp, e0, e11, e12, e13, hlt, hlt', x1, x1a, l8, h1c, y2, y3, x4, x7, h50, h50', h300, h300']
          refine roundEnd.mk ⟨i + 1, by omega, by simp [go_sem, e0], by simp [go_sem, e11], by simp [go_sem, e12], by simp [go_sem], hstep (hst (by omega) (by omega)), kS _ _⟩ ?_
          simp [go_sem, intOf, e13]; omega
    · have hlt' : ¬ (i : Int) < L.length := by omega
      simp [go_sem, IntWalk.iteOmega, IntWalk.toNatUp, e0, e11, e12, e13, hlt']
      exact ⟨⟨fun o hoo => by
        obtain ⟨m, hm, rfl⟩ := List.getElem_of_mem hoo
        exact hsm m hm (by omega), A, c, ⟨rfl, rfl⟩, ht⟩, hB⟩
end Go.Proofs.YtdjcjjodbniebaaGreatDoor
namespace Go.Proofs.YtdjcjjodbniebaaGreatDoor
open Go.RowKit
set_option linter.unusedVariables false
set_option linter.unusedSimpArgs false
set_option maxRecDepth 10000
set_option maxHeartbeats 1600000 in
theorem steps1_any {w : World} {b : Bk} {dv : Value} (hok : BkOk b) (hd : RdB w dv b.data) {p : Nat} {id : List UInt8} (hid : id.length = 32) (hp : Blk w p 27 (bl id).toArray) :
    callE Tryz.prog 20 #[.agg (bkv b dv).toArray, .pointer (some ⟨p, 0, none⟩)] w fun r w' => r = .bool ((idB b).1 == id) ∧ Below w.heap.size w w' := by
  have l34 : (bkv b dv).length = 34 := bkv_len hok.len
  have l32 : (bl id).length = 32 := by rw [bl_length]; exact hid
  have kA := ext_alloc w (.cells (bkv b dv).toArray 29)
  have hX : Blk (w.alloc (.cells (bkv b dv).toArray 29)) w.heap.size 29 (bkv b dv).toArray := Blk.self_ rfl
  have hpA := hp.keep kA
  refine calls_E Tryz.func20 rfl rfl rfl (Nat.le_of_ble_eq_true rfl) ?_
  simp [go_sem, IntWalk.iteOmega, IntWalk.toNatUp]
  generalize w.alloc (.cells (bkv b dv).toArray 29) = w2 at *
  refine W_flow (fun g => True) (.pure 0 (.pure 2 (.one 1 (.pure 3 (.pure 4 (.done)))))) follows (by kernel_rfl) ?_
  have hq := held_refl (fun g => True) w2.drew
  have x1 := readCells_all hX.drew 34 (by simpa using l34)
  have x2 := readCells_all hpA.drew 32 (by simpa using l32)
  have hl1 := hX.lt
  have hl2 := hpA.lt
  simp [go_sem, IntWalk.iteOmega, IntWalk.toNatUp, hq, x1, x2, hl1, hl2]
  refine callE_of (named_any hok ((hd.keep kA).keep (ext_drew w2))) ?_
  rintro _ w3 ⟨rfl, k3⟩
  have hqe := fun W => id_eq (idB b).1 id (idB_len b) hid W
  have hq3 := hq.below k3
  simp [go_sem, IntWalk.iteOmega, IntWalk.toNatUp, hq3, hqe]
  exact kA.trans ((ext_drew w2).trans (k3.mono (ext_drew w2).size) |>.mono kA.size)
set_option maxHeartbeats 1600000 in
theorem indexB_any {w : World} {lv : Value} {bs : List Bk} (hl : BksR w lv bs) (hlen : bs.length ≤ 100000) {p : Nat} {id : List UInt8} (hid : id.length = 32) (hp : Blk w p 27 (bl id).toArray) :
    callE Tryz.prog 19 #[lv, .func (.func 20) #[] #[.pointer (some ⟨p, 0, none⟩)]] w fun r w' => ((∃ k : Nat, ∃ hk : k < bs.length, r = .int .i64 k ∧ (idB bs[k]).1 = id ∧ ∀ m (hm : m < bs.length), m < k → (idB bs[m]).1 ≠ id) ∨ (r = .int .i64 (-1) ∧ ∀ m (hm : m < bs.length), (idB bs[m]).1 ≠ id)) ∧ Below w.heap.size w w' := by
  obtain ⟨A, c, -, rfl, -⟩ := _root_.id hl
  refine calls_E Tryz.func19 rfl rfl rfl (Nat.le_of_ble_eq_true rfl) ?_
  simp [go_sem, IntWalk.iteOmega, IntWalk.toNatUp]
  refine W_loop (fun st wr => ∃ i : Nat, i ≤ bs.length ∧ st 0 = .slice A bs.length c ∧ st 1 = .func (.func 20) #[] #[.pointer (some ⟨p, 0, none⟩)] ∧ st 7 = .int .i64 bs.length ∧ st 8 = .int .i64 i ∧ (∀ m (hm : m < bs.length), m < i → (idB bs[m]).1 ≠ id) ∧ Below w.heap.size w wr) (fun st _ => bs.length - (intOf (st 8)).toNat) ?_ ?_
  · exact ⟨0, by omega, by simp [go_sem], by simp [go_sem], by simp [go_sem], by simp [go_sem], fun m hm h => by omega, Below.refl _ _⟩
  · rintro st wr ⟨i, hi, e0, e1, e7, e8, hno, hB⟩
    by_cases hlt : i < bs.length
    · have hlt' : (i : Int) < bs.length := by omega
      obtain ⟨lb, lo, rfl, -, hlb, hla⟩ := hl.at2 (by omega)
      obtain ⟨dv, hok, hd, hrd⟩ := hla i hlt
      have ra' := hrd wr hB
      simp [go_sem, IntWalk.iteOmega, IntWalk.toNatUp, e0, e1, e7, e8, hlt, hlt', ra']
      refine callE_of (steps1_any hok (hd.keep hB) hid (hp.keep hB)) ?_
      rintro _ w3 ⟨rfl, k3⟩
      have hB3 := hB.trans (k3.mono hB.size)
      by_cases hq : (idB bs[i]).1 = id
      · have hq' : ((idB bs[i]).1 == id) = true := by simpa using hq
        simp [go_sem, IntWalk.iteOmega, IntWalk.toNatUp, e0, e1, e7, e8, hq']
        exact ⟨⟨i, rfl, ⟨hlt, hq⟩, fun m hm h => hno m hm h⟩, hB3⟩
      · have hq' : ((idB bs[i]).1 == id) = false := by simpa using hq
        simp [go_sem, IntWalk.iteOmega, IntWalk.toNatUp, e0, e1, e7, e8, hq']
        refine roundEnd.mk ⟨i + 1, by omega, by simp [go_sem, e0], by simp [go_sem, e1], by simp [go_sem, e7], by simp [go_sem], fun m hm h => ?_, hB3⟩ ?_
        · by_cases hmi : m = i
          · subst hmi; exact hq
          · exact hno m hm (by omega)
        · simp [go_sem, intOf, e8]; omega
    · have hlt' : ¬ (i : Int) < bs.length := by omega
      simp [go_sem, IntWalk.iteOmega, IntWalk.toNatUp, e0, e1, e7, e8, hlt']
      exact ⟨fun m hm => hno m hm (by omega), hB⟩
end Go.Proofs.YtdjcjjodbniebaaGreatDoor
namespace Go.Proofs.YtdjcjjodbniebaaGreatDoor
open Go.RowKit
def nm5_1 : List UInt8 := [198, 35, 250, 248, 7, 242, 130, 0, 36, 149, 165, 250, 171, 104, 207, 222, 240, 68, 174, 154, 191, 192, 39, 169, 174, 193, 2, 217, 20, 115, 229, 55]
theorem nm5_1_eq : sha (bytesB ⟨nm0, 1, [5]⟩) = nm5_1 := by decide +kernel
def nm5_2 : List UInt8 := [225, 164, 181, 131, 76, 22, 240, 158, 102, 27, 125, 95, 96, 117, 10, 96, 170, 226, 136, 78, 27, 195, 47, 89, 45, 147, 199, 27, 104, 25, 191, 155]
theorem nm5_2_eq : sha (bytesB ⟨nm5_1, 2, [5]⟩) = nm5_2 := by decide +kernel
def nm5_3 : List UInt8 := [150, 98, 236, 186, 60, 227, 90, 23, 136, 161, 103, 181, 120, 130, 127, 170, 127, 68, 56, 177, 115, 85, 65, 71, 193, 81, 251, 25, 156, 205, 40, 251]
theorem nm5_3_eq : sha (bytesB ⟨nm5_2, 3, [5]⟩) = nm5_3 := by decide +kernel
def nm5_4 : List UInt8 := [112, 112, 162, 68, 124, 229, 7, 54, 40, 0, 255, 90, 208, 162, 109, 88, 210, 120, 221, 61, 22, 212, 48, 211, 203, 99, 217, 35, 177, 16, 193, 76]
theorem nm5_4_eq : sha (bytesB ⟨nm5_3, 4, [5]⟩) = nm5_4 := by decide +kernel
def nm5_5 : List UInt8 := [202, 190, 167, 62, 67, 198, 18, 15, 171, 176, 95, 148, 1, 133, 69, 200, 17, 169, 58, 117, 183, 1, 89, 218, 230, 40, 42, 16, 43, 125, 59, 44]
theorem nm5_5_eq : sha (bytesB ⟨nm5_4, 5, [5]⟩) = nm5_5 := by decide +kernel
def nm5_6 : List UInt8 := [108, 213, 149, 244, 22, 44, 211, 185, 203, 162, 5, 195, 236, 117, 245, 202, 36, 53, 224, 150, 83, 79, 47, 30, 121, 96, 217, 94, 140, 119, 234, 33]
theorem nm5_6_eq : sha (bytesB ⟨nm5_5, 6, [5]⟩) = nm5_6 := by decide +kernel
def nm5_7 : List UInt8 := [74, 33, 164, 5, 96, 107, 243, 25, 245, 229, 230, 90, 193, 7, 255, 174, 239, 246, 29, 206, 141, 8, 93, 186, 2, 56, 117, 24, 63, 165, 63, 141]
theorem nm5_7_eq : sha (bytesB ⟨nm5_6, 7, [5]⟩) = nm5_7 := by decide +kernel
def nm5_8 : List UInt8 := [90, 106, 147, 137, 184, 61, 202, 188, 10, 87, 140, 117, 169, 169, 80, 42, 210, 54, 63, 155, 89, 220, 175, 95, 170, 172, 239, 184, 2, 52, 253, 49]
theorem nm5_8_eq : sha (bytesB ⟨nm5_7, 8, [5]⟩) = nm5_8 := by decide +kernel
def nm5_9 : List UInt8 := [127, 211, 232, 167, 89, 94, 28, 189, 44, 86, 105, 119, 209, 64, 10, 116, 102, 68, 138, 185, 164, 148, 79, 186, 116, 232, 139, 23, 112, 173, 55, 131]
theorem nm5_9_eq : sha (bytesB ⟨nm5_8, 9, [5]⟩) = nm5_9 := by decide +kernel
def nm5_10 : List UInt8 := [205, 30, 202, 142, 42, 225, 253, 128, 224, 69, 25, 134, 212, 134, 186, 111, 87, 239, 130, 189, 77, 105, 174, 198, 156, 69, 194, 158, 112, 109, 252, 118]
theorem nm5_10_eq : sha (bytesB ⟨nm5_9, 10, [5]⟩) = nm5_10 := by decide +kernel
def nm5_11 : List UInt8 := [253, 229, 223, 138, 45, 230, 200, 132, 207, 105, 77, 157, 107, 199, 77, 27, 128, 252, 124, 191, 139, 109, 177, 188, 19, 140, 13, 156, 190, 115, 124, 130]
theorem nm5_11_eq : sha (bytesB ⟨nm5_10, 11, [5]⟩) = nm5_11 := by decide +kernel
def nm5_12 : List UInt8 := [212, 234, 179, 131, 221, 141, 111, 39, 174, 75, 207, 121, 221, 216, 197, 248, 58, 236, 204, 95, 91, 83, 173, 221, 138, 184, 74, 198, 27, 121, 93, 204]
theorem nm5_12_eq : sha (bytesB ⟨nm5_11, 12, [5]⟩) = nm5_12 := by decide +kernel
def nm5_13 : List UInt8 := [40, 211, 254, 107, 202, 117, 216, 34, 193, 9, 66, 183, 82, 176, 210, 59, 247, 204, 3, 168, 230, 29, 110, 32, 169, 250, 109, 196, 79, 69, 121, 42]
theorem nm5_13_eq : sha (bytesB ⟨nm5_12, 13, [5]⟩) = nm5_13 := by decide +kernel
def nm5_14 : List UInt8 := [46, 192, 227, 59, 48, 5, 143, 82, 114, 37, 141, 86, 82, 137, 175, 154, 115, 124, 254, 77, 214, 97, 77, 221, 93, 195, 145, 214, 249, 162, 155, 246]
theorem nm5_14_eq : sha (bytesB ⟨nm5_13, 14, [5]⟩) = nm5_14 := by decide +kernel
def nm5_15 : List UInt8 := [98, 84, 63, 96, 158, 190, 23, 183, 199, 191, 72, 150, 243, 193, 204, 183, 72, 189, 74, 234, 59, 93, 201, 204, 239, 187, 107, 149, 37, 215, 29, 211]
theorem nm5_15_eq : sha (bytesB ⟨nm5_14, 15, [5]⟩) = nm5_15 := by decide +kernel
def nm5_16 : List UInt8 := [252, 211, 218, 119, 179, 109, 176, 33, 82, 60, 196, 110, 2, 185, 230, 193, 84, 17, 118, 109, 207, 164, 70, 88, 15, 154, 252, 114, 59, 65, 240, 228]
theorem nm5_16_eq : sha (bytesB ⟨nm5_15, 16, [5]⟩) = nm5_16 := by decide +kernel
def nm5_17 : List UInt8 := [9, 239, 74, 2, 242, 28, 213, 76, 177, 88, 2, 198, 209, 174, 48, 36, 255, 112, 204, 30, 190, 131, 4, 209, 59, 180, 66, 15, 135, 32, 150, 222]
theorem nm5_17_eq : sha (bytesB ⟨nm5_16, 17, [5]⟩) = nm5_17 := by decide +kernel
def nm5_18 : List UInt8 := [58, 68, 91, 127, 141, 111, 24, 224, 188, 11, 186, 91, 7, 85, 2, 200, 74, 101, 84, 222, 196, 31, 16, 156, 125, 249, 170, 209, 123, 199, 171, 10]
theorem nm5_18_eq : sha (bytesB ⟨nm5_17, 18, [5]⟩) = nm5_18 := by decide +kernel
def nm5_19 : List UInt8 := [148, 166, 203, 112, 237, 102, 14, 107, 134, 73, 77, 224, 213, 132, 200, 161, 27, 117, 83, 34, 129, 6, 67, 76, 39, 23, 211, 185, 0, 222, 198, 184]
theorem nm5_19_eq : sha (bytesB ⟨nm5_18, 19, [5]⟩) = nm5_19 := by decide +kernel
def nm5_20 : List UInt8 := [168, 61, 59, 35, 146, 72, 213, 44, 20, 96, 90, 186, 51, 133, 174, 255, 17, 127, 90, 37, 216, 254, 195, 69, 111, 176, 143, 188, 77, 120, 66, 230]
theorem nm5_20_eq : sha (bytesB ⟨nm5_19, 20, [5]⟩) = nm5_20 := by decide +kernel
def nm5_21 : List UInt8 := [130, 106, 200, 135, 192, 111, 209, 18, 146, 227, 223, 53, 163, 77, 131, 76, 173, 182, 65, 198, 173, 207, 130, 172, 243, 237, 138, 89, 195, 66, 119, 200]
theorem nm5_21_eq : sha (bytesB ⟨nm5_20, 21, [5]⟩) = nm5_21 := by decide +kernel
def nm5_22 : List UInt8 := [24, 140, 81, 111, 54, 101, 242, 203, 83, 249, 181, 20, 249, 132, 129, 255, 185, 157, 119, 43, 22, 52, 87, 99, 84, 17, 103, 251, 106, 202, 116, 237]
theorem nm5_22_eq : sha (bytesB ⟨nm5_21, 22, [5]⟩) = nm5_22 := by decide +kernel
def nm5_23 : List UInt8 := [130, 32, 160, 160, 160, 191, 39, 239, 122, 47, 10, 196, 164, 48, 81, 242, 240, 117, 120, 243, 63, 252, 30, 93, 73, 221, 173, 115, 121, 168, 156, 29]
theorem nm5_23_eq : sha (bytesB ⟨nm5_22, 23, [5]⟩) = nm5_23 := by decide +kernel
def nm5_24 : List UInt8 := [80, 185, 100, 42, 87, 169, 157, 37, 59, 7, 222, 186, 78, 240, 82, 201, 65, 150, 222, 239, 103, 181, 59, 140, 165, 192, 89, 245, 179, 225, 67, 251]
theorem nm5_24_eq : sha (bytesB ⟨nm5_23, 24, [5]⟩) = nm5_24 := by decide +kernel
def nm5_25 : List UInt8 := [114, 132, 146, 48, 89, 134, 137, 54, 219, 33, 142, 154, 57, 4, 69, 141, 86, 159, 118, 83, 180, 161, 138, 75, 4, 1, 116, 197, 20, 140, 54, 187]
theorem nm5_25_eq : sha (bytesB ⟨nm5_24, 25, [5]⟩) = nm5_25 := by decide +kernel
def nm5_26 : List UInt8 := [90, 225, 165, 124, 18, 90, 72, 232, 129, 17, 187, 80, 41, 215, 43, 163, 45, 44, 136, 170, 239, 127, 158, 38, 130, 138, 92, 212, 126, 189, 139, 0]
theorem nm5_26_eq : sha (bytesB ⟨nm5_25, 26, [5]⟩) = nm5_26 := by decide +kernel
def nm5_27 : List UInt8 := [138, 195, 126, 200, 131, 217, 86, 255, 149, 69, 149, 142, 166, 204, 0, 208, 28, 84, 143, 203, 169, 99, 69, 217, 106, 141, 140, 104, 82, 224, 233, 154]
theorem nm5_27_eq : sha (bytesB ⟨nm5_26, 27, [5]⟩) = nm5_27 := by decide +kernel
def nm5_28 : List UInt8 := [63, 125, 24, 58, 89, 101, 62, 80, 164, 2, 108, 235, 105, 17, 252, 67, 97, 134, 73, 4, 143, 230, 113, 65, 149, 35, 241, 66, 64, 200, 190, 62]
theorem nm5_28_eq : sha (bytesB ⟨nm5_27, 28, [5]⟩) = nm5_28 := by decide +kernel
def nm5_29 : List UInt8 := [6, 183, 149, 163, 168, 42, 49, 105, 243, 164, 77, 165, 228, 183, 126, 78, 83, 163, 223, 35, 43, 47, 224, 44, 63, 9, 30, 91, 246, 111, 11, 140]
theorem nm5_29_eq : sha (bytesB ⟨nm5_28, 29, [5]⟩) = nm5_29 := by decide +kernel
def nm5_30 : List UInt8 := [87, 135, 227, 245, 92, 206, 74, 255, 227, 139, 18, 249, 191, 231, 120, 176, 248, 220, 50, 66, 208, 88, 115, 131, 16, 126, 88, 78, 33, 254, 240, 109]
theorem nm5_30_eq : sha (bytesB ⟨nm5_29, 30, [5]⟩) = nm5_30 := by decide +kernel
def nm5_31 : List UInt8 := [78, 129, 117, 242, 198, 17, 87, 155, 171, 120, 93, 10, 63, 134, 210, 197, 107, 129, 250, 5, 58, 97, 139, 165, 251, 128, 84, 3, 226, 13, 30, 98]
theorem nm5_31_eq : sha (bytesB ⟨nm5_30, 31, [5]⟩) = nm5_31 := by decide +kernel
def nm5_32 : List UInt8 := [42, 95, 22, 161, 1, 221, 89, 13, 245, 21, 102, 73, 158, 194, 44, 26, 47, 172, 123, 36, 230, 148, 94, 220, 215, 35, 12, 7, 142, 200, 255, 62]
theorem nm5_32_eq : sha (bytesB ⟨nm5_31, 32, [5]⟩) = nm5_32 := by decide +kernel
def nm5_33 : List UInt8 := [130, 108, 43, 154, 94, 90, 147, 27, 23, 146, 44, 0, 72, 79, 109, 130, 92, 115, 213, 66, 108, 101, 118, 89, 63, 76, 188, 224, 146, 152, 19, 226]
theorem nm5_33_eq : sha (bytesB ⟨nm5_32, 33, [5]⟩) = nm5_33 := by decide +kernel
def nm5_34 : List UInt8 := [79, 141, 31, 207, 150, 78, 211, 29, 162, 47, 255, 235, 159, 196, 129, 140, 222, 91, 146, 43, 156, 43, 83, 174, 41, 219, 128, 119, 91, 76, 172, 103]
theorem nm5_34_eq : sha (bytesB ⟨nm5_33, 34, [5]⟩) = nm5_34 := by decide +kernel
def nm5_35 : List UInt8 := [210, 253, 16, 194, 170, 171, 77, 139, 109, 173, 136, 136, 29, 87, 62, 146, 46, 124, 141, 172, 85, 132, 101, 198, 175, 123, 32, 14, 158, 196, 79, 140]
theorem nm5_35_eq : sha (bytesB ⟨nm5_34, 35, [5]⟩) = nm5_35 := by decide +kernel
def nm5_36 : List UInt8 := [10, 137, 146, 150, 68, 4, 72, 14, 237, 86, 179, 24, 28, 133, 35, 210, 213, 159, 38, 203, 51, 15, 207, 242, 171, 201, 22, 146, 114, 137, 70, 172]
theorem nm5_36_eq : sha (bytesB ⟨nm5_35, 36, [5]⟩) = nm5_36 := by decide +kernel
def nm5_37 : List UInt8 := [173, 27, 99, 83, 199, 248, 159, 19, 10, 204, 222, 253, 182, 234, 100, 176, 119, 4, 241, 182, 75, 136, 97, 129, 82, 96, 111, 164, 105, 220, 155, 70]
theorem nm5_37_eq : sha (bytesB ⟨nm5_36, 37, [5]⟩) = nm5_37 := by decide +kernel
def nm5_38 : List UInt8 := [63, 14, 209, 100, 231, 144, 139, 42, 168, 82, 205, 129, 139, 210, 184, 237, 0, 70, 245, 175, 169, 55, 227, 26, 23, 103, 189, 14, 49, 80, 245, 246]
theorem nm5_38_eq : sha (bytesB ⟨nm5_37, 38, [5]⟩) = nm5_38 := by decide +kernel
def nm5_39 : List UInt8 := [193, 186, 189, 87, 184, 248, 33, 56, 223, 114, 241, 62, 86, 34, 182, 234, 23, 86, 8, 157, 64, 140, 156, 9, 232, 144, 179, 216, 105, 183, 25, 48]
theorem nm5_39_eq : sha (bytesB ⟨nm5_38, 39, [5]⟩) = nm5_39 := by decide +kernel
def nm5_40 : List UInt8 := [86, 1, 206, 244, 124, 73, 241, 209, 205, 5, 38, 98, 91, 67, 19, 74, 137, 177, 167, 100, 33, 124, 81, 75, 159, 24, 164, 216, 127, 50, 15, 0]
theorem nm5_40_eq : sha (bytesB ⟨nm5_39, 40, [5]⟩) = nm5_40 := by decide +kernel
def blks5 : List Bk := [⟨nm0, 1, [5]⟩, ⟨nm5_1, 2, [5]⟩, ⟨nm5_2, 3, [5]⟩, ⟨nm5_3, 4, [5]⟩, ⟨nm5_4, 5, [5]⟩, ⟨nm5_5, 6, [5]⟩, ⟨nm5_6, 7, [5]⟩, ⟨nm5_7, 8, [5]⟩, ⟨nm5_8, 9, [5]⟩, ⟨nm5_9, 10, [5]⟩, ⟨nm5_10, 11, [5]⟩, ⟨nm5_11, 12, [5]⟩, ⟨nm5_12, 13, [5]⟩, ⟨nm5_13, 14, [5]⟩, ⟨nm5_14, 15, [5]⟩, ⟨nm5_15, 16, [5]⟩, ⟨nm5_16, 17, [5]⟩, ⟨nm5_17, 18, [5]⟩, ⟨nm5_18, 19, [5]⟩, ⟨nm5_19, 20, [5]⟩, ⟨nm5_20, 21, [5]⟩, ⟨nm5_21, 22, [5]⟩, ⟨nm5_22, 23, [5]⟩, ⟨nm5_23, 24, [5]⟩, ⟨nm5_24, 25, [5]⟩, ⟨nm5_25, 26, [5]⟩, ⟨nm5_26, 27, [5]⟩, ⟨nm5_27, 28, [5]⟩, ⟨nm5_28, 29, [5]⟩, ⟨nm5_29, 30, [5]⟩, ⟨nm5_30, 31, [5]⟩, ⟨nm5_31, 32, [5]⟩, ⟨nm5_32, 33, [5]⟩, ⟨nm5_33, 34, [5]⟩, ⟨nm5_34, 35, [5]⟩, ⟨nm5_35, 36, [5]⟩, ⟨nm5_36, 37, [5]⟩, ⟨nm5_37, 38, [5]⟩, ⟨nm5_38, 39, [5]⟩, ⟨nm5_39, 40, [5]⟩]
def names5 : List (List UInt8) := [nm0, nm5_1, nm5_2, nm5_3, nm5_4, nm5_5, nm5_6, nm5_7, nm5_8, nm5_9, nm5_10, nm5_11, nm5_12, nm5_13, nm5_14, nm5_15, nm5_16, nm5_17, nm5_18, nm5_19, nm5_20, nm5_21, nm5_22, nm5_23, nm5_24, nm5_25, nm5_26, nm5_27, nm5_28, nm5_29, nm5_30, nm5_31, nm5_32, nm5_33, nm5_34, nm5_35, nm5_36, nm5_37, nm5_38, nm5_39, nm5_40]
theorem names5_nodup : names5.Pairwise (· ≠ ·) := by decide +kernel

end Go.Proofs.YtdjcjjodbniebaaGreatDoor
namespace Go.Proofs.YtdjcjjodbniebaaGreatDoor
open Go.RowKit
set_option linter.unusedVariables false
set_option linter.unusedSimpArgs false
set_option maxRecDepth 10000
def NoF (w : World) (p : Value) : Prop := p = .pointer none ∨ ∃ f cs, p = .pointer (some ⟨f, 0, none⟩) ∧ Blk w f 72 cs ∧ cs[35]? = some (.map none)
theorem NoF.keep {w w' : World} {p : Value} (h : NoF w p) (hk : Below w.heap.size w w') : NoF w' p := by
  rcases h with h | ⟨f, cs, h1, h2, h3⟩
  · exact .inl h
  · exact .inr ⟨f, cs, h1, h2.keep hk, h3⟩
theorem nof_runs {w : World} {p : Value} (h : NoF w p) : Runs Tryz.prog 43 #[p] w (.bool true) w := by
  rcases h with rfl | ⟨f, cs, rfl, h2, h3⟩
  · exact fnone_nil w
  · exact fnone_zero h2 h3
section
variable {w : World} {p : Value}
theorem none_ask (h : NoF w p) (v : Value) (hv : ∃ id : List UInt8, id.length = 32 ∧ v = .agg (bl id).toArray) : callE Tryz.prog 17 #[p, v] w fun r w' => r = .tuple #[.int .i64 0, .int .i64 2] ∧ Below w.heap.size w w' := by
  obtain ⟨id, hid, rfl⟩ := hv
  have kA := ext_alloc w (.cells (bl id).toArray 27)
  have r0 := fun k => callE_eq noinit_fnone (nof_runs (h.keep kA)) k
  refine calls_E Tryz.func17 rfl rfl rfl (Nat.le_of_ble_eq_true rfl) ?_
  simp [go_sem, IntWalk.iteOmega, IntWalk.toNatUp, r0]
  exact kA
theorem none_fail (h : NoF w p) (v : Value) (hv : ∃ id : List UInt8, id.length = 32 ∧ v = .agg (bl id).toArray) : callE Tryz.prog 18 #[p, v] w fun r w' => r = .int .i64 2 ∧ Below w.heap.size w w' := by
  obtain ⟨id, hid, rfl⟩ := hv
  have kA := ext_alloc w (.cells (bl id).toArray 27)
  have r0 := fun k => callE_eq noinit_fnone (nof_runs (h.keep kA)) k
  refine calls_E Tryz.func18 rfl rfl rfl (Nat.le_of_ble_eq_true rfl) ?_
  simp [go_sem, IntWalk.iteOmega, IntWalk.toNatUp, r0]
  exact kA
theorem none_got (h : NoF w p) (v u : Value) (hv : ∃ id : List UInt8, id.length = 32 ∧ v = .agg (bl id).toArray) : callE Tryz.prog 21 #[p, v, u] w fun r w' => r = .tuple #[.int .i64 0, .int .i64 2] ∧ Below w.heap.size w w' := by
  have hv' := hv
  obtain ⟨id, hid, rfl⟩ := hv
  have l32 : (bl id).length = 32 := by rw [bl_length]; exact hid
  have kA := ext_alloc w (.cells (bl id).toArray 27)
  have x1 := readCells_all (cs := (bl id).toArray) (t := 27) (w := w.alloc (.cells (bl id).toArray 27)) (g := w.heap.size) (Blk.self_ rfl) 32 (by simpa using l32)
  refine calls_E Tryz.func21 rfl rfl rfl (Nat.le_of_ble_eq_true rfl) ?_
  simp [go_sem, IntWalk.iteOmega, IntWalk.toNatUp, x1]
  refine callE_of (none_fail (h.keep kA) _ hv') ?_
  rintro _ w2 ⟨rfl, k2⟩
  simp [go_sem, IntWalk.iteOmega, IntWalk.toNatUp]
  exact kA.trans (k2.mono kA.size)
theorem none_state (h : NoF w p) (v : Value) (hv : ∃ id : List UInt8, id.length = 32 ∧ v = .agg (bl id).toArray) : callE Tryz.prog 30 #[p, v] w fun r w' => r = .tuple #[.int .i64 0, .int .i64 2] ∧ Below w.heap.size w w' := by
  obtain ⟨id, hid, rfl⟩ := hv
  have kA := ext_alloc w (.cells (bl id).toArray 27)
  have r0 := fun k => callE_eq noinit_fnone (nof_runs (h.keep kA)) k
  refine calls_E Tryz.func30 rfl rfl rfl (Nat.le_of_ble_eq_true rfl) ?_
  simp [go_sem, IntWalk.iteOmega, IntWalk.toNatUp, r0]
  exact kA
theorem none_chain (h : NoF w p) : callE Tryz.prog 23 #[p] w fun r w' => r = .tuple #[.slice none 0 0, .int .i64 2] ∧ w' = w := by
  have r0 := fun k => callE_eq noinit_fnone (nof_runs h) k
  refine calls_M Tryz.func23 rfl rfl rfl (Nat.le_of_ble_eq_true rfl) ?_
  simp [go_sem, IntWalk.iteOmega, IntWalk.toNatUp, r0]
theorem none_target (h : NoF w p) (v u : Value) (hv : ∃ id : List UInt8, id.length = 32 ∧ v = .agg (bl id).toArray) : callE Tryz.prog 13 #[p, v, u] w fun r w' => r = .int .i64 2 ∧ Below w.heap.size w w' := by
  obtain ⟨id, hid, rfl⟩ := hv
  have kA := ext_alloc w (.cells (bl id).toArray 27)
  have r0 := fun k => callE_eq noinit_fnone (nof_runs (h.keep kA)) k
  refine calls_E Tryz.func13 rfl rfl rfl (Nat.le_of_ble_eq_true rfl) ?_
  simp [go_sem, IntWalk.iteOmega, IntWalk.toNatUp, r0]
  exact kA
theorem none_len (h : NoF w p) : callE Tryz.prog 31 #[p] w fun r w' => r = .int .i64 0 ∧ w' = w := by
  have r0 := fun k => callE_eq noinit_fnone (nof_runs h) k
  refine calls_E Tryz.func31 rfl rfl rfl (Nat.le_of_ble_eq_true rfl) ?_
  simp [go_sem, IntWalk.iteOmega, IntWalk.toNatUp, r0]
theorem none_done (h : NoF w p) : callE Tryz.prog 16 #[p] w fun r w' => r = .bool false ∧ w' = w := by
  have r0 := fun k => callE_eq noinit_fnone (nof_runs h) k
  refine calls_E Tryz.func16 rfl rfl rfl (Nat.le_of_ble_eq_true rfl) ?_
  simp [go_sem, IntWalk.iteOmega, IntWalk.toNatUp, r0]
theorem none_clone (h : NoF w p) : callE Tryz.prog 32 #[p] w fun r w' => r = .pointer none ∧ w' = w := by
  have r0 := fun k => callE_eq noinit_fnone (nof_runs h) k
  refine calls_E Tryz.func32 rfl rfl rfl (Nat.le_of_ble_eq_true rfl) ?_
  simp [go_sem, IntWalk.iteOmega, IntWalk.toNatUp, r0]
theorem none_wants (h : NoF w p) : callE Tryz.prog 15 #[p] w fun r w' => r = .func (.func 51) #[] #[.pointer (some ⟨w.heap.size + 1, 0, none⟩)] ∧ Blk w' (w.heap.size + 1) 37 #[.slice none 0 0] ∧ Below w.heap.size w w' := by
  obtain ⟨pa, rfl⟩ : ∃ pa, p = .pointer pa := by
    rcases h with rfl | ⟨f, cs, rfl, _⟩
    · exact ⟨_, rfl⟩
    · exact ⟨_, rfl⟩
  have kA := ext_alloc w (.cells #[.pointer pa] 31)
  have kB := kA.alloc kA.size (.cells #[.slice none 0 0] 37)
  have r0 := fun k => callE_eq noinit_fnone (nof_runs (h.keep kB)) k
  have hpb : Blk ((w.alloc (.cells #[.pointer pa] 31)).alloc (.cells #[.slice none 0 0] 37)) w.heap.size 31 #[.pointer pa] := (Blk.self_ rfl).more _
  have hlb : Blk ((w.alloc (.cells #[.pointer pa] 31)).alloc (.cells #[.slice none 0 0] 37)) (w.heap.size + 1) 37 #[.slice none 0 0] := Blk.self_ (by simp)
  have hpc := hpb.cell
  refine calls_E Tryz.func15 rfl rfl rfl (Nat.le_of_ble_eq_true rfl) ?_
  simp [go_sem, IntWalk.iteOmega, IntWalk.toNatUp, hpc, r0]
  exact kB
end
end Go.Proofs.YtdjcjjodbniebaaGreatDoor
