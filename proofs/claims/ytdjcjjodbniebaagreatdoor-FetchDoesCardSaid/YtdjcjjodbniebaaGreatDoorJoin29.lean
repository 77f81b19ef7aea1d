/-
  Texts joined: FRefO, FRow, FNames7, FRound.
-/
import Derived.Test.YtdjcjjodbniebaaGreatDoorJoin28
import Derived.Lib.SlBytesConst
namespace Go.Proofs.YtdjcjjodbniebaaGreatDoor
open Go.RowKit
set_option linter.unusedVariables false
set_option linter.unusedSimpArgs false
set_option maxRecDepth 10000
set_option maxHeartbeats 3200000 in
theorem rbytes_own {w : World} {b : Bk} {dv : Value} (hok : BkOk b) (hd : RdB w dv b.data) :
    callE Tryz.prog 79 #[.agg (bkv b dv).toArray] w fun r w' => ((checkB b = 30 ∧ r = .tuple #[.slice none 0 0, .int .i64 30]) ∨
      (checkB b = 0 ∧ ∃ u, r = .tuple #[u, .int .i64 0] ∧ w'.ownsRow w.heap.size 5 1 u (bytesB b).length (bl (bytesB b)))) ∧ Below w.heap.size w w' := by
  have kA := ext_alloc w (.cells (bkv b dv).toArray 29)
  have l34 : ∀ dv : Value, (bkv b dv).length = 34 := fun dv => bkv_len hok.len
  refine calls_E Tryz.func79 rfl rfl rfl (Nat.le_of_ble_eq_true rfl) ?_
  have hX : Blk (w.alloc (.cells (bkv b dv).toArray 29)) w.heap.size 29 (bkv b dv).toArray := Blk.self_ rfl
  have x0 := readCells_all hX 34 (by simp [l34])
  simp [go_sem, IntWalk.iteOmega, IntWalk.toNatUp, x0]
  generalize (w.alloc (.cells (bkv b dv).toArray 29)) = w2 at *
  refine callE_of (rcheck_any hok (hd.keep kA)) ?_
  rintro v w3 ⟨rfl, hb⟩
  have hX3 := hX.keep hb
  have k3 := kA.trans (hb.mono kA.size)
  rcases checkB_or b with e0 | e0
  · simp [go_sem, IntWalk.iteOmega, IntWalk.toNatUp, e0]
    have hdl := checkB_data e0
    have hh0 := checkB_height e0
    have f1 : IntKind.u64.wrap b.height = b.height := by rw [wrap_u64_if, if_pos (by have := hok.hi; omega)]
    have f2 : IntKind.u64.wrap (b.data.length : Int) = b.data.length := by rw [wrap_u64_if, if_pos (by omega)]
    have hown0 : (w3.alloc (.cells #[.int .u8 0, .int .u8 0] 5)).ownsRow w3.heap.size 5 1 (.slice (some ⟨w3.heap.size, 0, none⟩) 2 2) 2 (bl (numB 2 0)) :=
      ⟨rfl, .inr ⟨w3.heap.size, 2, _, rfl, Nat.le_refl _, heap_alloc_new w3 _, Nat.le_refl _, by unfold maxLen; omega, rfl, rfl⟩⟩
    refine W_loop (fun st wr => ∃ (i : Nat) (v : Value), i ≤ 32 ∧ st 1 = .pointer (some ⟨w.heap.size, 0, none⟩) ∧ st 5 = v ∧ st 6 = .int .i64 i ∧ wr.ownsRow w3.heap.size 5 1 v (2 + i) (bl (numB 2 0 ++ b.parent.take i)) ∧ w3.heap.size ≤ wr.heap.size ∧ Below w3.heap.size w3 wr) (fun st _ => 32 - (intOf (st 6)).toNat) ?_ ?_
    · exact ⟨0, .slice (some ⟨w3.heap.size, 0, none⟩) 2 2, by omega, by simp [go_sem], by simp [go_sem], by simp [go_sem], by simpa using hown0, by simp, ext_alloc _ _⟩
    · rintro st wr ⟨i, v, hi, e1, e5, e6, hown, hsz, hB⟩
      have hXr := hX3.keep hB
      by_cases hlt : i < 32
      · have hlt' : (i : Int) < 32 := by omega
        have hip : i < b.parent.length := by rw [hok.len]; exact hlt
        have x1 := bkv_id (dv := dv) hok.len (bl_at2 b.parent i hip)
        simp [go_sem, IntWalk.iteOmega, IntWalk.toNatUp, e1, e5, e6, hlt, hlt', hXr.cell, x1]
        refine append_byte (w0 := w3) (b.parent[i]) rfl hown (Nat.le_refl _) hsz hB (by omega) ?_
        clear hB hown hsz
        intro v w4 hown hsz hB
        simp [go_sem, IntWalk.iteOmega, IntWalk.toNatUp, e6]
        refine roundEnd.mk ⟨i + 1, v, by omega, by simp [go_sem, e1], by simp [go_sem], by simp [go_sem], ?_, hsz, hB⟩ ?_
        · rw [take_snoc hip, ← List.append_assoc]; exact hown
        · simp [go_sem, intOf]; omega
      · obtain rfl : i = 32 := by omega
        rw [List.take_of_length_le (by rw [hok.len]; omega)] at hown
        have c32 : wr.cell? ⟨w.heap.size, 32, none⟩ = some (.int .i64 b.height) := by rw [hXr.cell, List.getElem?_toArray]; exact bkv_32 hok.len
        have hx : (Value.int IntKind.u64 b.height) = .int .u64 (b.height.toNat : Int) := by congr 1; omega
        obtain ⟨-, A5, c5, rfl⟩ := own_sl hown
        simp [go_sem, IntWalk.iteOmega, IntWalk.toNatUp, e1, e5, e6, c32, f1]
        rw [hx]
        refine callE_of (rnum_any 8 b.height.toNat (by omega) (by omega) (by have := hok.hi; omega) wr) ?_
        rintro u w4 ⟨hu, hb4⟩
        simp [go_sem, IntWalk.iteOmega, IntWalk.toNatUp]
        refine append_rdB (w0 := w3) (n := 2 + 32) (own_keep hown hb4) hu (Nat.le_refl _) (Nat.le_trans hsz hb4.size) (hB.trans (hb4.mono hsz)) (by rw [numB_len]; omega) ?_
        clear hown hB hsz hXr hb4 hu
        intro v5 w5 hown hsz hB
        have hX5 := hX3.keep hB
        have c33 : w5.cell? ⟨w.heap.size, 33, none⟩ = some dv := by rw [hX5.cell, List.getElem?_toArray]; exact bkv_33 hok.len
        obtain ⟨Ad, cd, rfl, hrd, -⟩ := id hd
        simp [go_sem, IntWalk.iteOmega, IntWalk.toNatUp, e1, c33, f2]
        refine callE_of (rnum_any 4 b.data.length (by omega) (by omega) (by omega) w5) ?_
        rintro u w6 ⟨hu, hb6⟩
        obtain ⟨-, A6, c6, rfl⟩ := own_sl hown
        simp [go_sem, IntWalk.iteOmega, IntWalk.toNatUp]
        refine append_rdB (w0 := w3) (own_keep hown hb6) hu (Nat.le_refl _) (Nat.le_trans hsz hb6.size) (hB.trans (hb6.mono hsz)) (by rw [numB_len, numB_len]; omega) ?_
        clear hown hB hsz hb6 hu
        intro v7 w7 hown hsz hB
        have hX7 := hX3.keep hB
        have c33 : w7.cell? ⟨w.heap.size, 33, none⟩ = some (.slice Ad b.data.length cd) := by rw [hX7.cell, List.getElem?_toArray]; exact bkv_33 hok.len
        have k7 := k3.trans (hB.mono k3.size)
        obtain ⟨-, A8, c8, rfl⟩ := own_sl hown
        simp [go_sem, IntWalk.iteOmega, IntWalk.toNatUp, e1, c33]
        refine append_rdB (w0 := w3) hown (hd.keep k7) (Nat.le_refl _) hsz hB (by rw [numB_len, numB_len]; omega) ?_
        clear hown hB hsz
        intro v9 w9 hown hsz hB
        have ho : w9.ownsRow w3.heap.size 5 1 v9 (bytesB b).length (bl (bytesB b)) := by
          have e : (bytesB b).length = 2 + 32 + (numB 8 b.height.toNat).length + (numB 4 b.data.length).length + b.data.length := by simp [bytesB, numB_len, hok.len]; omega
          rw [e]
          unfold bytesB
          exact hown
        have hr := own_mono (base' := w.heap.size) ho k3.size
        obtain ⟨-, A9, c9, rfl⟩ := own_sl ho
        simp [go_sem, IntWalk.iteOmega, IntWalk.toNatUp]
        exact ⟨⟨e0, hr⟩, k3.trans (hB.mono k3.size)⟩
  · simp [go_sem, IntWalk.iteOmega, IntWalk.toNatUp, e0]
    exact k3
def BksO (w : World) (base : Nat) (v : Value) (bs : List Bk) : Prop := ∃ xs, xs.map Prod.fst = bs ∧ w.ownsRow base 29 34 v bs.length (flat xs) ∧ ∀ x ∈ xs, BkOk x.1 ∧ w.ownsRow base 5 1 x.2 x.1.data.length (bl x.1.data)
theorem BksO.keep {w w' : World} {base : Nat} {v : Value} {bs : List Bk} (h : BksO w base v bs) (hk : Below w.heap.size w w') : BksO w' base v bs := by
  obtain ⟨xs, h1, h2, h3⟩ := h
  exact ⟨xs, h1, row_below h2 hk, fun x hx => ⟨(h3 x hx).1, row_below (h3 x hx).2 hk⟩⟩
theorem BksO.keeps {w w' : World} {O : Nat → Prop} {base : Nat} {v : Value} {bs : List Bk} (h : BksO w base v bs) (hk : Keeps O w w') (hO : ∀ j, base ≤ j → j < w.heap.size → O j) : BksO w' base v bs := by
  obtain ⟨xs, h1, h2, h3⟩ := h
  exact ⟨xs, h1, row_keeps h2 hk fun j hj => hO j (h2.lt j hj).1 (h2.lt j hj).2, fun x hx => ⟨(h3 x hx).1, row_keeps (h3 x hx).2 hk fun j hj => hO j ((h3 x hx).2.lt j hj).1 ((h3 x hx).2.lt j hj).2⟩⟩
theorem BksO.mono {w : World} {base base' : Nat} {v : Value} {bs : List Bk} (h : BksO w base v bs) (hb : base' ≤ base) : BksO w base' v bs := by
  obtain ⟨xs, h1, h2, h3⟩ := h
  exact ⟨xs, h1, own_mono h2 hb, fun x hx => ⟨(h3 x hx).1, own_mono (h3 x hx).2 hb⟩⟩
theorem BksO.rd {w : World} {base : Nat} {v : Value} {bs : List Bk} (h : BksO w base v bs) : BksR w v bs := by
  obtain ⟨xs, h1, h2, h3⟩ := h
  obtain ⟨⟨A', c', e, hr, hA, hc1, hc2⟩, A, c, rfl⟩ := own_sl h2
  injection e with e1 _ e3
  subst e1; subst e3
  exact ⟨_, _, xs, rfl, h1, hr, hc1, hc2, fun x hx => ⟨(h3 x hx).1, own_rdB (h3 x hx).2⟩⟩
theorem BksR.at_ {w : World} {v : Value} {bs : List Bk} (h : BksR w v bs) {i : Nat} (hi : i < bs.length) : ∃ b o c dv, v = .slice (some ⟨b, o, none⟩) bs.length c ∧ b < w.heap.size ∧ BkOk bs[i] ∧ RdB w dv bs[i].data ∧ ∀ W, Below w.heap.size w W → readCells W ⟨b, o + i * 34, none⟩ 0 34 = some (bkv bs[i] dv) := by
  obtain ⟨A, c, xs, rfl, h2, h3, h4, h5, h6⟩ := h
  obtain ⟨b, o, rfl, hb, hc⟩ := h3.cells (by omega)
  obtain ⟨dv, h7, h8, h9⟩ := rd_block h2 h6 hc hi
  refine ⟨b, o, c, dv, rfl, hb, h7, h8, fun W hW => readCells_cells 34 0 _ (bkv_len h7.len) (fun j v hj => ?_)⟩
  rw [show o + i * 34 + 0 + j = o + (34 * i + j) by omega]
  exact (hW.cell (p := ⟨b, o + (34 * i + j), none⟩) hb).trans (h9 j v hj)
def firstB : Bk := ⟨zeroId, 0, [103]⟩
theorem childB_ok {p : Bk} (hp : BkOk p) (d : List UInt8) : BkOk (childB p d).1 := by
  unfold childB
  split
  · exact zeroBk_ok
  · rename_i h
    have h1 : p.height ≠ 9223372036854775807 := fun e => h (.inr (.inl e))
    refine ⟨sha_length _, ?_, ?_⟩
    · show _ ≤ p.height + 1
      have := hp.lo; omega
    · show p.height + 1 ≤ _
      have := hp.hi; omega
def rowL (which : UInt8) : Nat → Bk → List Bk
  | 0, _ => []
  | n + 1, b => (childB b [which]).1 :: rowL which n (childB b [which]).1
set_option maxHeartbeats 3200000 in
theorem lfirst_any (w : World) : callE Tryz.prog 10 #[] w fun r w' => r = .agg (bkv firstB (.slice (some ⟨w.heap.size + 1, 0, none⟩) 1 1)).toArray ∧ RdB w' (.slice (some ⟨w.heap.size + 1, 0, none⟩) 1 1) firstB.data ∧ Below w.heap.size w w' := by
  have kc : ∀ (k : Array Value) (t : TypeId), (convert 22 22 (.slice (some ⟨w.heap.size + 1, 0, none⟩) 1 1)).run Tryz.prog ((w.alloc (.cells k t)).alloc (.cells #[.int .u8 103] 5)) = .ok (.slice (some ⟨w.heap.size + 1, 0, none⟩) 1 1) ((w.alloc (.cells k t)).alloc (.cells #[.int .u8 103] 5 (1, 2))) := fun k t => by
    have := Lib.run_convert_bytes_const (P := Tryz.prog) (w.alloc (.cells k t)) 22 5 #[.int .u8 103] 1 1 Tryz.underlying22 Tryz.underlying5
    simpa using this
  have hZ : ∀ (o : Obj), Blk ((w.alloc (.cells zeroB.toArray 29)).alloc o) w.heap.size 29 zeroB.toArray := fun o => (Blk.self_ rfl).more _
  have z1 := fun o => canWrite_all (hZ o) 34 rfl
  have z2 := fun o (m : List Value) (hm : m.length = 34) => storeSeg_all (hZ o) m (by rw [hm]; rfl)
  have z3 := fun o (m : List Value) (hm : m.length = 34) => readCells_all (Blk_setRow (hZ o) (cs' := m.toArray)) 34 (by simpa using hm)
  rw [zeroB_lit] at z1 z2 z3
  refine calls_E Tryz.func10 rfl rfl rfl (Nat.le_of_ble_eq_true rfl) ?_
  simp [go_sem, IntWalk.iteOmega, IntWalk.toNatUp, kc, z1, z2, z3]
  have key : ∀ (A : Obj) (cs : Array Value), RdB (((w.alloc A).alloc (.cells #[.int .u8 103] 5 (1, 2))).setRow w.heap.size cs) (.slice (some ⟨w.heap.size + 1, 0, none⟩) 1 1) firstB.data ∧ Below w.heap.size w (((w.alloc A).alloc (.cells #[.int .u8 103] 5 (1, 2))).setRow w.heap.size cs) := fun A cs => by
    have hh : (((w.alloc A).alloc (.cells #[.int .u8 103] 5 (1, 2))).setRow w.heap.size cs).heap[w.heap.size + 1]? = some (.cells #[.int .u8 103] 5 (1, 2)) := by
      rw [setRow_other _ _ _ _ (by omega), show w.heap.size + 1 = (w.alloc A).heap.size by simp]
      exact heap_alloc_new _ _
    refine ⟨⟨_, _, rfl, ⟨by simp [bl, firstB], fun _ => ⟨_, 0, rfl, (Array.getElem?_eq_some_iff.1 hh).1, fun j v hj => ?_⟩⟩, by simp, by simp [firstB], by omega⟩, below_setRow (((Below.refl _ _).alloc (Nat.le_refl _) _).alloc (by simp) _) (Nat.le_refl _) _⟩
    unfold World.cell?
    simp only [Nat.zero_add, hh]
    simpa [bl, firstB] using hj
  exact ⟨rfl, key _ _⟩
set_option maxHeartbeats 3200000 in
theorem named_any {w : World} {b : Bk} {dv : Value} (hok : BkOk b) (hd : RdB w dv b.data) : callE Tryz.prog 12 #[.agg (bkv b dv).toArray] w fun r w' => r = .agg (bl (idB b).1).toArray ∧ Below w.heap.size w w' := by
  have l34 : (bkv b dv).length = 34 := bkv_len hok.len
  have kA := ext_alloc w (.cells (bkv b dv).toArray 29)
  have kB := kA.alloc kA.size (.cells zeroI.toArray 27)
  have x0 : ∀ k t, readCells ((w.alloc (.cells (bkv b dv).toArray 29)).alloc (.cells k t)) ⟨w.heap.size, 0, none⟩ 0 34 = some (bkv b dv) := fun k t => by
    have := readCells_all (Blk.more (o := .cells k t) (Blk.self_ (w := w) (t := 29) (cs := (bkv b dv).toArray) rfl)) 34 (by simp [l34])
    simpa using this
  have hZ : Blk ((w.alloc (.cells (bkv b dv).toArray 29)).alloc (.cells zeroI.toArray 27)) (w.heap.size + 1) 27 zeroI.toArray := Blk.self_ (by simp)
  refine calls_E Tryz.func12 rfl rfl rfl (Nat.le_of_ble_eq_true rfl) ?_
  simp [go_sem, IntWalk.iteOmega, IntWalk.toNatUp, x0]
  rw [← zeroI_lit]
  generalize (w.alloc (.cells (bkv b dv).toArray 29)).alloc (.cells zeroI.toArray 27) = w2 at *
  refine callE_of (rid_any hok (hd.keep kB)) ?_
  rintro _ w3 ⟨rfl, k3⟩
  have hZ3 := hZ.keep k3
  have k3' := kB.trans (k3.mono kB.size)
  have hl : (bl (idB b).1).length = 32 := by rw [bl_length]; exact idB_len b
  have z2 : ∀ (k : Array Value) (t : TypeId), k.size = 32 → canWrite (w3.alloc (.cells k t)) ⟨w3.heap.size, 0, none⟩ 0 32 = true := fun k t hk => canWrite_all (Blk.self_ rfl) 32 hk
  have z3 : ∀ (k : Array Value) (t : TypeId) (l : List Value), k.size = 32 → l.length = 32 → storeSeg (w3.alloc (.cells k t)) ⟨w3.heap.size, 0, none⟩ 0 l = (w3.alloc (.cells k t)).setRow w3.heap.size l.toArray := fun k t l hk hl => storeSeg_all (Blk.self_ rfl) l (by omega)
  have z4 : ∀ (k : Array Value) (t : TypeId) (l : List Value), l.length = 32 → readCells ((w3.alloc (.cells k t)).setRow w3.heap.size l.toArray) ⟨w3.heap.size, 0, none⟩ 0 32 = some l := fun k t l hl => readCells_all (Blk_setRow (Blk.self_ rfl)) 32 (by simpa using hl)
  have hlt := hZ3.lt
  have hZ4 : ∀ (k : Array Value) (t : TypeId) (l : List Value), Blk ((w3.alloc (.cells k t)).setRow w3.heap.size l.toArray) (w.heap.size + 1) 27 zeroI.toArray := fun k t l => Blk.farRow (hZ3.more _) (by omega) _
  have z5 := fun (k : Array Value) (t : TypeId) (l : List Value) => canWrite_all (hZ4 k t l) 32 rfl
  have z6 := fun (k : Array Value) (t : TypeId) (l m : List Value) (hm : m.length = 32) => storeSeg_all (hZ4 k t l) m (by rw [hm]; rfl)
  have z7 := fun (k : Array Value) (t : TypeId) (l m : List Value) (hm : m.length = 32) => readCells_all (Blk_setRow (hZ4 k t l) (cs' := m.toArray)) 32 (by simpa using hm)
  simp [go_sem, IntWalk.iteOmega, IntWalk.toNatUp, hl, z2, z3, z4, z5, z6, z7, bl_one]
  exact below_setRow (below_setRow (k3'.alloc k3'.size _) (by omega) _) (by omega) _
set_option maxHeartbeats 3200000 in
theorem wrote_any {w : World} {b : Bk} {dv : Value} (hok : BkOk b) (hck : checkB b = 0) (hd : RdB w dv b.data) : callE Tryz.prog 40 #[.agg (bkv b dv).toArray] w fun r w' => w'.ownsRow w.heap.size 5 1 r (bytesB b).length (bl (bytesB b)) ∧ Below w.heap.size w w' := by
  have l34 : (bkv b dv).length = 34 := bkv_len hok.len
  have kA := ext_alloc w (.cells (bkv b dv).toArray 29)
  have x0 : readCells (w.alloc (.cells (bkv b dv).toArray 29)) ⟨w.heap.size, 0, none⟩ 0 34 = some (bkv b dv) := by
    have := readCells_all (Blk.self_ (w := w) (t := 29) (cs := (bkv b dv).toArray) rfl) 34 (by simp [l34])
    simpa using this
  refine calls_E Tryz.func40 rfl rfl rfl (Nat.le_of_ble_eq_true rfl) ?_
  simp [go_sem, IntWalk.iteOmega, IntWalk.toNatUp, x0]
  generalize w.alloc (.cells (bkv b dv).toArray 29) = w2 at *
  refine callE_of (rbytes_own hok (hd.keep kA)) ?_
  rintro _ w3 ⟨(⟨h, _⟩ | ⟨_, u, rfl, hu⟩), k3⟩
  · omega
  · have hu' := own_mono (base' := w.heap.size) hu kA.size
    obtain ⟨-, A, c, rfl⟩ := own_sl hu
    simp [go_sem, IntWalk.iteOmega, IntWalk.toNatUp]
    exact ⟨hu', kA.trans (k3.mono kA.size)⟩
set_option maxHeartbeats 3200000 in
theorem row_any {w : World} {p : Bk} {pv : Value} (hp : BkOk p) (hpd : RdB w pv p.data) (n : Nat) (hn : n ≤ 1000) (which : UInt8) : callE Tryz.prog 9 #[.agg (bkv p pv).toArray, .int .i64 n, .int .u8 (which.toNat : Int)] w fun r w' => BksO w' w.heap.size r (rowL which n p) ∧ Below w.heap.size w w' := by
  have l34 : (bkv p pv).length = 34 := bkv_len hp.len
  have kA := ext_alloc w (.cells (bkv p pv).toArray 29)
  have hX : Blk (w.alloc (.cells (bkv p pv).toArray 29)) w.heap.size 29 (bkv p pv).toArray := Blk.self_ rfl
  refine calls_E Tryz.func9 rfl rfl rfl (Nat.le_of_ble_eq_true rfl) ?_
  simp [go_sem, IntWalk.iteOmega, IntWalk.toNatUp]
  generalize w.alloc (.cells (bkv p pv).toArray 29) = w2 at *
  refine W_loop (fun st wr => ∃ i b dv lv xs, i ≤ n ∧ st 2 = .int .u8 (which.toNat : Int) ∧ st 3 = .pointer (some ⟨w.heap.size, 0, none⟩) ∧ st 7 = lv ∧ st 8 = .int .i64 n ∧ st 9 = .int .i64 i ∧ BkAt wr w.heap.size b dv ∧ xs.map Prod.fst ++ rowL which (n - i) b = rowL which n p ∧ xs.length = i ∧ wr.ownsRow (w.heap.size + 1) 29 34 lv i (flat xs) ∧ (∀ x ∈ xs, BkOk x.1 ∧ wr.ownsRow w.heap.size 5 1 x.2 x.1.data.length (bl x.1.data)) ∧ Below w.heap.size w wr) (fun st _ => n - (intOf (st 9)).toNat) ?_ ?_
  · exact ⟨0, p, pv, .slice none 0 0, [], by omega, by simp [go_sem], by simp [go_sem], by simp [go_sem], by simp [go_sem], by simp [go_sem], ⟨hX, hp, hpd.keep kA⟩, rfl, rfl, World.ownsRow_nil _ _ _ _, by simp, kA⟩
  · rintro st wr ⟨i, b, dv, lv, xs, hi, d2, d3, d7, d8, d9, hB0, hrow, hxl, hlv, hxo, hB⟩
    by_cases hlt : i < n
    · have hlt' : (i : Int) < n := by omega
      have x1 := hB0.all
      simp [go_sem, IntWalk.iteOmega, IntWalk.toNatUp, d2, d3, d7, d8, d9, hlt, hlt', x1]
      have kC := ext_alloc wr (.cells #[.int .u8 (which.toNat : Int)] 5)
      have hcb : Blk (wr.alloc (.cells #[.int .u8 (which.toNat : Int)] 5)) wr.heap.size 5 #[.int .u8 (which.toNat : Int)] := Blk.self_ rfl
      have hB1 := hB0.keep kC
      have kB1 := hB.trans (kC.mono hB.size)
      generalize wr.alloc (.cells #[.int .u8 (which.toNat : Int)] 5) = w3 at *
      have hcd : RdB w3 (.slice (some ⟨wr.heap.size, 0, none⟩) 1 1) [which] := ⟨_, _, rfl, ⟨by simp [bl], fun _ => ⟨_, _, rfl, hcb.lt, fun j v hj => by rw [hcb.cell, Nat.zero_add]; simpa [bl] using hj⟩⟩, by simp, by simp, by omega⟩
      refine callE_of (rchild_any hB1.ok hB1.rd hcd) ?_
      rintro _ w4 ⟨⟨dv', rfl, hdv⟩, k4⟩
      have hcok := childB_ok hB0.ok [which]
      have hstep : (childB b [which]).1 :: rowL which (n - (i + 1)) (childB b [which]).1 = rowL which (n - i) b := by
        rw [show n - i = (n - (i + 1)) + 1 by omega]
        rfl
      generalize (childB b [which]).1 = cb at *
      have hB4 := hB1.keep k4
      have l34' : (bkv cb dv').length = 34 := bkv_len hcok.len
      have kB4 := kB1.trans (k4.mono kB1.size)
      have hdv0 := own_mono (base' := w.heap.size) hdv kB1.size
      obtain ⟨-, eA, ec, rfl⟩ := own_sl hdv
      have hb1 := bkv_one cb eA cb.data.length ec
      have c1 := canWrite_all hB4.blk 34 (by rw [List.size_toArray]; exact bkv_len hB0.ok.len)
      have c2 := storeSeg_all hB4.blk (bkv cb (.slice eA cb.data.length ec)) (by rw [List.size_toArray, l34', bkv_len hB0.ok.len])
      have c3 := readCells_all (Blk_setRow hB4.blk (cs' := (bkv cb (.slice eA cb.data.length ec)).toArray)) 34 (by simpa using l34')
      simp [go_sem, IntWalk.iteOmega, IntWalk.toNatUp, d2, d3, d7, d8, d9, l34', hb1, c1, c2, c3]
      rw [fold_bk _ l34']
      have kS : Below wr.heap.size wr w4 := kC.trans (k4.mono kC.size)
      have hlv4 := row_below hlv kS
      have hne : ∀ {e size m : Nat} {u : Value} {us : List Value} {B : Nat}, w4.ownsRow B e size u m us → e ≠ 29 → (w4.setRow w.heap.size (bkv cb (.slice eA cb.data.length ec)).toArray).ownsRow B e size u m us := fun ho he => row_keeps (O := fun j => j ≠ w.heap.size) ho (Keeps.setRow _ _ _ (by simp)) (fun j hj e => row_ne ho hB4.blk he (e ▸ hj))
      have hlvS := row_keeps (O := fun j => j ≠ w.heap.size) hlv4 (Keeps.setRow w4 w.heap.size (bkv cb (.slice eA cb.data.length ec)).toArray (by simp)) (fun j hj e => by have := (hlv.lt j hj).1; omega)
      have hdvS := hne hdv0 (by decide)
      have hxoS : ∀ x ∈ xs, BkOk x.1 ∧ (w4.setRow w.heap.size (bkv cb (.slice eA cb.data.length ec)).toArray).ownsRow w.heap.size 5 1 x.2 x.1.data.length (bl x.1.data) := fun x hx => ⟨(hxo x hx).1, hne (row_below (hxo x hx).2 kS) (by decide)⟩
      have hBS : Blk (w4.setRow w.heap.size (bkv cb (.slice eA cb.data.length ec)).toArray) w.heap.size 29 (bkv cb (.slice eA cb.data.length ec)).toArray := Blk_setRow hB4.blk
      have kS5 := below_setRow kB4 (Nat.le_refl _) (bkv cb (.slice eA cb.data.length ec)).toArray
      have hsz5 : (w4.setRow w.heap.size (bkv cb (.slice eA cb.data.length ec)).toArray).heap.size = w4.heap.size := by simp [World.setRow]
      generalize w4.setRow w.heap.size (bkv cb (.slice eA cb.data.length ec)).toArray = w5 at *
      have kW := ext_alloc w5 (.cells (bkv cb (.slice eA cb.data.length ec)).toArray 29)
      have hrd : Rd (w5.alloc (.cells (bkv cb (.slice eA cb.data.length ec)).toArray 29)) 34 (some ⟨w5.heap.size, 0, none⟩) 1 (bkv cb (.slice eA cb.data.length ec)) := rd_one (Blk.self_ rfl) l34'
      rw [hsz5] at hrd
      have hlvW := row_below hlvS kW
      have hdvW := row_below hdvS kW
      have hBW := hBS.keep kW
      have kBW := kS5.trans (kW.mono kS5.size)
      have hxoW : ∀ x ∈ xs, BkOk x.1 ∧ (w5.alloc (.cells (bkv cb (.slice eA cb.data.length ec)).toArray 29)).ownsRow w.heap.size 5 1 x.2 x.1.data.length (bl x.1.data) := fun x hx => ⟨(hxoS x hx).1, row_below (hxoS x hx).2 kW⟩
      have hszW : w.heap.size + 1 ≤ (w5.alloc (.cells (bkv cb (.slice eA cb.data.length ec)).toArray 29)).heap.size := by have := hBS.lt; simp; omega
      generalize w5.alloc (.cells (bkv cb (.slice eA cb.data.length ec)).toArray 29) = wA at *
      refine appendE (w.heap.size + 1) 29 34 64 Tryz.underlying24 el29 hlvW hrd hb1 (by unfold maxLen; omega) (by omega) hszW ?_
      intro v' w7 hr7 hg7 hbk7
      have farG : ∀ {m : Nat} {u : Value} {us : List Value}, wA.ownsRow w.heap.size 5 1 u m us → w7.ownsRow w.heap.size 5 1 u m us := fun ho => row_keeps ho (Keeps.grown (O := fun j => lv.ownBlock ≠ some j) hg7 fun k hk h' => h' hk) (fun j hj e => rows_ne hlvW ho (by decide) j e hj)
      have hB7 : BkAt w7 w.heap.size cb (.slice eA cb.data.length ec) := ⟨(hg7.block _ hBW.lt (fun e => by have := (hlv.lt _ e.symm).1; omega)).trans hBW, hcok, own_rdB (farG hdvW)⟩
      have kB7 := kBW.grown hg7 kBW.size (fun k hk => by have := (hlv.lt k hk).1; omega)
      simp [go_sem, IntWalk.iteOmega, IntWalk.toNatUp, d2, d3, d7, d8, d9]
      refine roundEnd.mk ⟨i + 1, cb, .slice eA cb.data.length ec, v', xs ++ [(cb, .slice eA cb.data.length ec)], by omega, by simp [go_sem, d2], by simp [go_sem, d3], by simp [go_sem], by simp [go_sem, d8], by simp [go_sem], hB7, ?_, by simp [hxl], ?_, fun x hx => ?_, kB7⟩ ?_
      · rw [List.map_append, List.append_assoc, ← hrow, ← hstep]
        rfl
      · have h0 : flat xs ++ bkv cb (.slice eA cb.data.length ec) = flat (xs ++ [(cb, .slice eA cb.data.length ec)]) := by simp [flat]
        rw [h0] at hr7
        exact hr7
      · rcases List.mem_append.1 hx with hx | hx
        · exact ⟨(hxoW x hx).1, farG (hxoW x hx).2⟩
        · obtain rfl : x = _ := by simpa using hx
          exact ⟨hcok, farG hdvW⟩
      · simp [go_sem, intOf]; omega
    · obtain rfl : i = n := by omega
      have hlt' : ¬ (i : Int) < i := by omega
      rw [Nat.sub_self, show rowL which 0 b = [] from rfl, List.append_nil] at hrow
      have hxl' : (rowL which i p).length = i := by rw [← hrow]; simp [hxl]
      obtain ⟨-, A, c, rfl⟩ := own_sl hlv
      simp [go_sem, IntWalk.iteOmega, IntWalk.toNatUp, d2, d3, d7, d8, d9, hlt']
      exact ⟨⟨xs, hrow, by rw [hxl']; exact own_mono hlv (by omega), hxo⟩, hB⟩
end Go.Proofs.YtdjcjjodbniebaaGreatDoor
namespace Go.Proofs.YtdjcjjodbniebaaGreatDoor
set_option linter.unusedVariables false
set_option maxRecDepth 10000
def nm0 : List UInt8 := [203, 109, 143, 15, 131, 183, 166, 253, 241, 41, 10, 209, 213, 197, 38, 87, 104, 174, 22, 216, 156, 248, 126, 120, 122, 97, 242, 60, 73, 145, 77, 166]
theorem nm0_eq : sha (bytesB firstB) = nm0 := by decide +kernel
def nm7_1 : List UInt8 := [228, 13, 55, 72, 20, 12, 239, 33, 148, 37, 19, 37, 140, 82, 136, 204, 24, 217, 198, 4, 42, 77, 203, 36, 161, 237, 6, 202, 135, 247, 203, 238]
theorem nm7_1_eq : sha (bytesB ⟨nm0, 1, [7]⟩) = nm7_1 := by decide +kernel
def nm7_2 : List UInt8 := [151, 76, 116, 184, 41, 85, 37, 237, 233, 40, 225, 43, 121, 92, 196, 157, 192, 31, 33, 152, 61, 8, 220, 218, 165, 106, 95, 152, 74, 138, 126, 85]
theorem nm7_2_eq : sha (bytesB ⟨nm7_1, 2, [7]⟩) = nm7_2 := by decide +kernel
def nm7_3 : List UInt8 := [233, 46, 211, 35, 223, 97, 188, 34, 30, 75, 69, 23, 176, 109, 140, 161, 114, 50, 15, 10, 249, 95, 107, 98, 251, 231, 225, 32, 187, 3, 240, 223]
theorem nm7_3_eq : sha (bytesB ⟨nm7_2, 3, [7]⟩) = nm7_3 := by decide +kernel
def blks7 : List Bk := [⟨nm0, 1, [7]⟩, ⟨nm7_1, 2, [7]⟩, ⟨nm7_2, 3, [7]⟩]
end Go.Proofs.YtdjcjjodbniebaaGreatDoor
namespace Go.Proofs.YtdjcjjodbniebaaGreatDoor
set_option linter.unusedVariables false
set_option linter.unusedSimpArgs false
set_option maxRecDepth 10000
theorem numB_succ (n v : Nat) : numB (n + 1) v = numB n (v / 256) ++ [UInt8.ofNat v] := by
  unfold numB
  rw [List.range_succ, List.map_append]
  congr 1
  · apply List.map_congr_left
    intro i hi
    have hi' : i < n := List.mem_range.1 hi
    congr 1
    rw [Nat.div_div_eq_div_mul, show n + 1 - 1 - i = (n - 1 - i) + 1 by omega, Nat.pow_succ, Nat.mul_comm]
  · simp
theorem beN_numB : ∀ (n v : Nat), v < 256 ^ n → beN (numB n v) = v
  | 0, v, h => by simp at h; subst h; rfl
  | n + 1, v, h => by
    have h1 : v / 256 < 256 ^ n := by rw [Nat.pow_succ] at h; exact Nat.div_lt_of_lt_mul (by rw [Nat.mul_comm]; exact h)
    rw [numB_succ, beN_snoc, beN_numB n _ h1]
    have : (UInt8.ofNat v).toNat = v % 256 := by simp
    rw [this]
    omega
theorem takeL_app {x y : List UInt8} {n : Nat} (h : x.length = n) : takeL n (x ++ y) 0 = x := by
  unfold takeL
  rw [if_pos ⟨rfl, by simp; omega⟩, ← h, List.take_left]
theorem takeR_app {x y : List UInt8} {n : Nat} (h : x.length = n) : takeR n (x ++ y) 0 = y := by
  unfold takeR
  rw [if_pos ⟨rfl, by simp; omega⟩, ← h, List.drop_left]
theorem takeE_app {x y : List UInt8} {n : Nat} (h : x.length = n) : takeE n (x ++ y) 0 = 0 := by
  unfold takeE
  rw [if_neg (by rintro ⟨_, h'⟩; exact h' (by simp; omega))]
theorem parse_bytes {b : Bk} (hok : BkOk b) (hck : checkB b = 0) : parseB (bytesB b) = (b, 0) := by
  have hd := checkB_data hck
  have hh := checkB_height hck
  have hhi := hok.hi
  have e0 : bytesB b = numB 2 0 ++ (b.parent ++ (numB 8 b.height.toNat ++ (numB 4 b.data.length ++ b.data))) := by simp [bytesB]
  have q1 : pR1 (bytesB b) = b.parent ++ (numB 8 b.height.toNat ++ (numB 4 b.data.length ++ b.data)) := by rw [e0]; exact takeR_app (numB_len 2 0)
  have q2 : pE1 (bytesB b) = 0 := by rw [e0]; exact takeE_app (numB_len 2 0)
  have q3 : pR2 (bytesB b) = numB 8 b.height.toNat ++ (numB 4 b.data.length ++ b.data) := by unfold pR2; rw [q1, q2]; exact takeR_app hok.len
  have q4 : pE2 (bytesB b) = 0 := by unfold pE2; rw [q1, q2]; exact takeE_app hok.len
  have q5 : pPar (bytesB b) = b.parent := by unfold pPar; rw [q1, q2]; exact takeL_app hok.len
  have q6 : pR3 (bytesB b) = numB 4 b.data.length ++ b.data := by unfold pR3; rw [q3, q4]; exact takeR_app (numB_len 8 _)
  have q7 : pE3 (bytesB b) = 0 := by unfold pE3; rw [q3, q4]; exact takeE_app (numB_len 8 _)
  have q8 : pHei (bytesB b) = b.height.toNat := by
    unfold pHei
    rw [q3, q4, takeL_app (numB_len 8 _)]
    have p8 : (256 : Nat) ^ 8 = 18446744073709551616 := by decide
    exact beN_numB 8 _ (by omega)
  have q9 : pVer (bytesB b) = 0 := by
    unfold pVer
    rw [e0, takeL_app (numB_len 2 0)]
    rfl
  have q10 : pCnt (bytesB b) = (b.data, [], 0) := by
    unfold pCnt
    rw [q6, q7]
    have ht : (numB 4 b.data.length ++ b.data).take 4 = numB 4 b.data.length := by
      have := List.take_left (l₁ := numB 4 b.data.length) (l₂ := b.data)
      rwa [numB_len] at this
    have hdr : (numB 4 b.data.length ++ b.data).drop 4 = b.data := by
      have := List.drop_left (l₁ := numB 4 b.data.length) (l₂ := b.data)
      rwa [numB_len] at this
    have p4 : (256 : Nat) ^ 4 = 4294967296 := by decide
    have hb : beN (numB 4 b.data.length) = b.data.length := beN_numB 4 _ (by omega)
    unfold cntV
    rw [ht, hdr, hb, if_neg (by simp), if_neg (by simp [numB_len]), if_neg (by omega), if_neg (by simp [numB_len])]
    simp
  have q11 : pEnd (bytesB b) = 0 := by unfold pEnd; rw [q10]; simp
  have q12 : pBk (bytesB b) = b := by
    unfold pBk
    rw [q5, q8, q10]
    have : ((b.height.toNat : Nat) : Int) = b.height := by omega
    cases b
    simp at this ⊢
    exact this
  unfold parseB
  rw [if_neg (by have := bytesB_len hok hck; omega), if_neg (by rw [q11, q9, q8]; simp; omega), q12]
  unfold madeB
  rw [if_pos hck]
theorem childB_eq {p : Bk} {d : List UInt8} (hck : checkB p = 0) (hh : p.height < 9223372036854775807) (hd : d.length ≤ 200) : childB p d = (⟨sha (bytesB p), p.height + 1, d⟩, 0) := by
  unfold childB
  rw [if_neg (by rintro (h | h | h) <;> omega)]
theorem child_check {p : Bk} {d : List UInt8} (hck : checkB p = 0) (hd : d.length ≤ 200) : checkB ⟨sha (bytesB p), p.height + 1, d⟩ = 0 := by
  have := checkB_height hck
  unfold checkB
  rw [if_neg]
  rintro (h | h | ⟨h, _⟩)
  · exact absurd h (by show ¬ p.height + 1 < 0; omega)
  · exact absurd h (by show ¬ 200 < d.length; omega)
  · exact absurd h (by show ¬ p.height + 1 = 0; omega)
theorem child_linked {p : Bk} {d : List UInt8} (hck : checkB p = 0) (hh : p.height < 9223372036854775807) (hd : d.length ≤ 200) : linkedB ⟨sha (bytesB p), p.height + 1, d⟩ p = 0 := by
  unfold linkedB
  rw [if_neg (by rw [child_check hck hd, hck]; simp), if_neg]
  rintro (h | h | h)
  · exact h rfl
  · omega
  · exact h rfl
theorem firstB_ok : BkOk firstB := ⟨by simp [firstB, zeroId], by simp [firstB], by simp [firstB]⟩
theorem firstB_check : checkB firstB = 0 := by decide +kernel
structure RowOk (p : Bk) (L : List Bk) : Prop where
  ok : ∀ i (hi : i < L.length), BkOk L[i] ∧ checkB L[i] = 0 ∧ L[i].height = p.height + (i + 1)
  linked : ∀ i (hi : i < L.length), linkedB L[i] ((p :: L)[i]'(by simp; omega)) = 0 ∧ L[i].parent = sha (bytesB ((p :: L)[i]'(by simp; omega)))
theorem RowOk.cons {p c : Bk} {L : List Bk} (h : RowOk c L) (h1 : BkOk c) (h2 : checkB c = 0) (h3 : c.height = p.height + 1) (h4 : linkedB c p = 0) (h5 : c.parent = sha (bytesB p)) : RowOk p (c :: L) := by
  refine ⟨fun i hi => ?_, fun i hi => ?_⟩
  · cases i with
    | zero => exact ⟨h1, h2, by simpa using h3⟩
    | succ i =>
      obtain ⟨a1, a2, a3⟩ := h.ok i (by simpa using hi)
      refine ⟨a1, a2, ?_⟩
      simp only [List.getElem_cons_succ]
      rw [a3, h3]
      omega
  · cases i with
    | zero => exact ⟨h4, h5⟩
    | succ i => exact h.linked i (by simpa using hi)
theorem rowL_step {which : UInt8} {n : Nat} {p : Bk} {a : List UInt8} {h : Int} (hck : checkB p = 0) (hh : p.height < 9223372036854775807) (ha : sha (bytesB p) = a) (he : p.height + 1 = h) : rowL which (n + 1) p = ⟨a, h, [which]⟩ :: rowL which n ⟨a, h, [which]⟩ := by
  have e := childB_eq (d := [which]) hck hh (by simp)
  show (childB p [which]).1 :: rowL which n (childB p [which]).1 = _
  rw [e, ha, he]
theorem row_check {a : List UInt8} {h : Int} {d : UInt8} (hh : 0 < h) : checkB ⟨a, h, [d]⟩ = 0 := by
  unfold checkB
  rw [if_neg]
  rintro (h' | h' | ⟨h', _⟩)
  · exact absurd h' (by show ¬ h < 0; omega)
  · exact absurd h' (by show ¬ 200 < 1; omega)
  · exact absurd h' (by show ¬ h = 0; omega)
theorem row7_eq : rowL 7 3 firstB = blks7 := by
  rw [rowL_step (h := 1) firstB_check (by decide) nm0_eq (by decide), rowL_step (p := ⟨nm0, 1, [7]⟩) (h := 2) (row_check (by decide)) (by decide) nm7_1_eq (by decide),
    rowL_step (p := ⟨nm7_1, 2, [7]⟩) (h := 3) (row_check (by decide)) (by decide) nm7_2_eq (by decide)]
  rfl
end Go.Proofs.YtdjcjjodbniebaaGreatDoor
