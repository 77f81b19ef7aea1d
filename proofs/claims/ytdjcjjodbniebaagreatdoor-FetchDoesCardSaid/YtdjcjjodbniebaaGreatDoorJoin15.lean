/-
  Texts joined: FLinked, FRefI, FChild, FSame, FBks.
-/
import Derived.Test.YtdjcjjodbniebaaGreatDoorJoin14
import Derived.Shelf.Bytes.SlSmallAll
namespace Go.Proofs.YtdjcjjodbniebaaGreatDoor
open Go.RowKit
set_option linter.unusedVariables false
set_option linter.unusedSimpArgs false
set_option maxRecDepth 10000
def linkedB (c p : Bk) : Int := if checkB p ≠ 0 ∨ checkB c ≠ 0 then 30 else if c.parent ≠ sha (bytesB p) ∨ p.height = 9223372036854775807 ∨ c.height ≠ p.height + 1 then 31 else 0
theorem idB_len (b : Bk) : (idB b).1.length = 32 := by
  unfold idB
  split
  · exact sha_length _
  · simp [zeroId]
set_option maxHeartbeats 3200000 in
theorem blinked_any {w : World} {c p : Bk} {cv pv : Value} (hc : BkOk c) (hcd : RdB w cv c.data) (hp : BkOk p) (hpd : RdB w pv p.data) (hC : Cubes w) :
    callE Tryz.prog 54 #[.agg (bkv c cv).toArray, .agg (bkv p pv).toArray] w fun r w' => r = .int .i64 (linkedB c p) ∧ Below w.heap.size w w' := by
  have kA := ext_alloc w (.cells (bkv c cv).toArray 29)
  have kB := kA.alloc kA.size (.cells (bkv p pv).toArray 29)
  have lc : ∀ dv : Value, (bkv c dv).length = 34 := fun dv => bkv_len hc.len
  have lp : ∀ dv : Value, (bkv p dv).length = 34 := fun dv => bkv_len hp.len
  have hX : Blk ((w.alloc (.cells (bkv c cv).toArray 29)).alloc (.cells (bkv p pv).toArray 29)) w.heap.size 29 (bkv c cv).toArray := (Blk.self_ rfl).more _
  have hY : Blk ((w.alloc (.cells (bkv c cv).toArray 29)).alloc (.cells (bkv p pv).toArray 29)) (w.heap.size + 1) 29 (bkv p pv).toArray := Blk.self_ (by simp)
  have x0 := readCells_all hY 34 (by simp [lp])
  refine calls_E Tryz.func54 rfl rfl rfl (Nat.le_of_ble_eq_true rfl) ?_
  simp [go_sem, IntWalk.iteOmega, IntWalk.toNatUp, x0]
  generalize (w.alloc (.cells (bkv c cv).toArray 29)).alloc (.cells (bkv p pv).toArray 29) = w2 at *
  refine callE_of (bid_any hp (hpd.keep kB) (hC.keep kB)) ?_
  rintro v w3 ⟨rfl, hb⟩
  have k3 := kB.trans (hb.mono kB.size)
  have li : (bl (idB p).1).length = 32 := by rw [bl_length]; exact idB_len p
  have kI := k3.alloc k3.size (.cells (bl (idB p).1).toArray 27)
  have hI : Blk (w3.alloc (.cells (bl (idB p).1).toArray 27)) w3.heap.size 27 (bl (idB p).1).toArray := Blk.self_ rfl
  have hXI : Blk (w3.alloc (.cells (bl (idB p).1).toArray 27)) w.heap.size 29 (bkv c cv).toArray := (hX.keep hb).more _
  have hYI : Blk (w3.alloc (.cells (bl (idB p).1).toArray 27)) (w.heap.size + 1) 29 (bkv p pv).toArray := (hY.keep hb).more _
  have x1 := readCells_all hXI 34 (by simp [lc])
  have x2 : ∀ (k : Array Value) t, k.size = 32 → canWrite (w3.alloc (.cells k t)) ⟨w3.heap.size, 0, none⟩ 0 32 = true := fun k t hk => canWrite_all (Blk.self_ rfl) 32 hk
  rcases checkB_or p with e0 | e0
  · have em : idB p = (sha (bytesB p), 0) := by unfold idB; rw [if_pos e0]
    have em2 : (idB p).2 = 0 := by rw [em]
    simp [go_sem, IntWalk.iteOmega, IntWalk.toNatUp, li, bl_one, em2, x2, x1]
    refine callE_of (bcheck_any hc (hcd.keep kI)) ?_
    rintro v w4 ⟨rfl, hb4⟩
    have k4 := kI.trans (hb4.mono kI.size)
    have a1 : BkAt w4 w.heap.size c cv := ⟨hXI.keep hb4, hc, hcd.keep k4⟩
    have a2 : BkAt w4 (w.heap.size + 1) p pv := ⟨hYI.keep hb4, hp, hpd.keep k4⟩
    have a3 := readCells_all (hI.keep hb4) 32 (by simpa using li)
    rcases checkB_or c with e1 | e1
    · have hq := fun W => id_eq c.parent (idB p).1 hc.len (idB_len p) W
      by_cases h1 : c.parent = sha (bytesB p)
      · have hq1 : (c.parent == (idB p).1) = true := by rw [em]; simpa using h1
        by_cases h2 : p.height = 9223372036854775807
        · have el : linkedB c p = 31 := by unfold linkedB; rw [if_neg (by rintro (h | h); exact h e0; exact h e1), if_pos (.inr (.inl h2))]
          simp [go_sem, IntWalk.iteOmega, IntWalk.toNatUp, e1, a1.id, a1.height, a2.height, a3, hq, hq1, h2, el]
          exact k4
        · have h2' : (p.height == 9223372036854775807) = false := by simpa using h2
          have hE : IntKind.i64.wrap (p.height + 1) = p.height + 1 := by rw [wrap_i64_if, if_pos (by have := hp.lo; have := hp.hi; omega)]
          by_cases h3 : c.height = p.height + 1
          · have el : linkedB c p = 0 := by unfold linkedB; rw [if_neg (by rintro (h | h); exact h e0; exact h e1), if_neg (by rintro (h | h | h); exact h h1; exact h2 h; exact h h3)]
            simp [go_sem, IntWalk.iteOmega, IntWalk.toNatUp, e1, a1.id, a1.height, a2.height, a3, hq, hq1, h2', hE, h3, el]
            exact k4
          · have el : linkedB c p = 31 := by unfold linkedB; rw [if_neg (by rintro (h | h); exact h e0; exact h e1), if_pos (.inr (.inr h3))]
            have h3' : (c.height != p.height + 1) = true := by simpa using h3
            simp [go_sem, IntWalk.iteOmega, IntWalk.toNatUp, e1, a1.id, a1.height, a2.height, a3, hq, hq1, h2', hE, h3', el]
            exact k4
      · have hq1 : (c.parent == (idB p).1) = false := by rw [em]; simpa using h1
        have el : linkedB c p = 31 := by unfold linkedB; rw [if_neg (by rintro (h | h); exact h e0; exact h e1), if_pos (.inl h1)]
        simp [go_sem, IntWalk.iteOmega, IntWalk.toNatUp, e1, a1.id, a1.height, a2.height, a3, hq, hq1, el]
        exact k4
    · have el : linkedB c p = 30 := by unfold linkedB; rw [if_pos (.inr (by omega))]
      simp [go_sem, IntWalk.iteOmega, IntWalk.toNatUp, e1, el]
      exact k4
  · have em2 : (idB p).2 = 30 := by unfold idB; rw [if_neg (by omega)]
    have el : linkedB c p = 30 := by unfold linkedB; rw [if_pos (.inl (by omega))]
    simp [go_sem, IntWalk.iteOmega, IntWalk.toNatUp, li, bl_one, em2, x2, x1, el]
    exact kI
set_option maxHeartbeats 3200000 in
theorem rid_any {w : World} {b : Bk} {dv : Value} (hok : BkOk b) (hd : RdB w dv b.data) :
    callE Tryz.prog 42 #[.agg (bkv b dv).toArray] w fun r w' => r = .tuple #[.agg (bl (idB b).1).toArray, .int .i64 (idB b).2] ∧ Below w.heap.size w w' := by
  have kA := ext_alloc w (.cells (bkv b dv).toArray 29)
  have l34 : ∀ dv : Value, (bkv b dv).length = 34 := fun dv => bkv_len hok.len
  have x0 : ∀ k t, readCells ((w.alloc (.cells (bkv b dv).toArray 29)).alloc (.cells k t)) ⟨w.heap.size, 0, none⟩ 0 34 = some (bkv b dv) := fun k t => by
    have := readCells_all (Blk.more (o := .cells k t) (Blk.self_ (w := w) (t := 29) (cs := (bkv b dv).toArray) rfl)) 34 (by simp [l34])
    simpa using this
  refine calls_E Tryz.func42 rfl rfl rfl (Nat.le_of_ble_eq_true rfl) ?_
  simp [go_sem, IntWalk.iteOmega, IntWalk.toNatUp, x0]
  have kB := kA.alloc kA.size (.cells zeroI.toArray 27)
  have hZ : Blk ((w.alloc (.cells (bkv b dv).toArray 29)).alloc (.cells zeroI.toArray 27)) (w.heap.size + 1) 27 zeroI.toArray := Blk.self_ (by simp)
  change callE _ _ _ ((w.alloc (.cells (bkv b dv).toArray 29)).alloc (.cells zeroI.toArray 27)) _
  generalize (w.alloc (.cells (bkv b dv).toArray 29)).alloc (.cells zeroI.toArray 27) = w2 at *
  refine callE_of (rbytes_any hok (hd.keep kB)) ?_
  rintro v w3 ⟨hv, hb⟩
  have hZ3 := hZ.keep hb
  have k3 := kB.trans (hb.mono kB.size)
  rcases hv with ⟨e0, rfl⟩ | ⟨e0, u, rfl, hu⟩
  · have em : idB b = (zeroId, 30) := by unfold idB; rw [if_neg (by omega)]
    have x2 := canWrite_all hZ3 32 rfl
    have x3 : ∀ l : List Value, l.length = 32 → storeSeg w3 ⟨w.heap.size + 1, 0, none⟩ 0 l = w3.setRow (w.heap.size + 1) l.toArray := fun l hl => storeSeg_all hZ3 l (by rw [hl]; rfl)
    have x4 : ∀ l : List Value, l.length = 32 → readCells (w3.setRow (w.heap.size + 1) l.toArray) ⟨w.heap.size + 1, 0, none⟩ 0 32 = some l := fun l hl => readCells_all (Blk_setRow hZ3) 32 (by simpa using hl)
    simp [go_sem, IntWalk.iteOmega, IntWalk.toNatUp, x2, x3, x4]
    simp only [em]
    exact ⟨by first | trivial | exact ⟨rfl, trivial⟩ | exact ⟨trivial, trivial⟩ | rfl | exact ⟨rfl, rfl⟩, below_setRow k3 (by omega) _⟩
  · have em : idB b = (sha (bytesB b), 0) := by unfold idB; rw [if_pos e0]
    obtain ⟨Au, cu, rfl, hu1, hu2, hu3, hu4⟩ := hu
    simp [go_sem, IntWalk.iteOmega, IntWalk.toNatUp]
    refine callE_of (refSum_any Au cu (bytesB b) w3 hu1 hu2 (by have := bytesB_len hok e0; omega)) ?_
    rintro v w4 ⟨rfl, hb4⟩
    have hZ4 := hZ3.keep hb4
    have x2 := canWrite_all hZ4 32 rfl
    have ls : (bl (sha (bytesB b))).length = 32 := by rw [bl_length]; exact sha_length _
    have x3 := storeSeg_all hZ4 (bl (sha (bytesB b))) (by rw [ls]; rfl)
    have x4 : readCells (w4.setRow (w.heap.size + 1) (bl (sha (bytesB b))).toArray) ⟨w.heap.size + 1, 0, none⟩ 0 32 = some (bl (sha (bytesB b))) := readCells_all (Blk_setRow hZ4) 32 (by simpa using ls)
    simp [go_sem, IntWalk.iteOmega, IntWalk.toNatUp, x2, x3, x4, ls, bl_one]
    simp only [em]
    exact ⟨by first | trivial | exact ⟨rfl, trivial⟩ | exact ⟨trivial, trivial⟩ | rfl | exact ⟨rfl, rfl⟩, below_setRow (k3.trans (hb4.mono k3.size)) (by omega) _⟩
set_option maxHeartbeats 3200000 in
theorem rlinked_any {w : World} {c p : Bk} {cv pv : Value} (hc : BkOk c) (hcd : RdB w cv c.data) (hp : BkOk p) (hpd : RdB w pv p.data) :
    callE Tryz.prog 28 #[.agg (bkv c cv).toArray, .agg (bkv p pv).toArray] w fun r w' => r = .int .i64 (linkedB c p) ∧ Below w.heap.size w w' := by
  have kA := ext_alloc w (.cells (bkv c cv).toArray 29)
  have kB := kA.alloc kA.size (.cells (bkv p pv).toArray 29)
  have lc : ∀ dv : Value, (bkv c dv).length = 34 := fun dv => bkv_len hc.len
  have lp : ∀ dv : Value, (bkv p dv).length = 34 := fun dv => bkv_len hp.len
  have hX : Blk ((w.alloc (.cells (bkv c cv).toArray 29)).alloc (.cells (bkv p pv).toArray 29)) w.heap.size 29 (bkv c cv).toArray := (Blk.self_ rfl).more _
  have hY : Blk ((w.alloc (.cells (bkv c cv).toArray 29)).alloc (.cells (bkv p pv).toArray 29)) (w.heap.size + 1) 29 (bkv p pv).toArray := Blk.self_ (by simp)
  have x0 := readCells_all hY 34 (by simp [lp])
  refine calls_E Tryz.func28 rfl rfl rfl (Nat.le_of_ble_eq_true rfl) ?_
  simp [go_sem, IntWalk.iteOmega, IntWalk.toNatUp, x0]
  generalize (w.alloc (.cells (bkv c cv).toArray 29)).alloc (.cells (bkv p pv).toArray 29) = w2 at *
  refine callE_of (rid_any hp (hpd.keep kB)) ?_
  rintro v w3 ⟨rfl, hb⟩
  have k3 := kB.trans (hb.mono kB.size)
  have li : (bl (idB p).1).length = 32 := by rw [bl_length]; exact idB_len p
  have kI := k3.alloc k3.size (.cells (bl (idB p).1).toArray 27)
  have hI : Blk (w3.alloc (.cells (bl (idB p).1).toArray 27)) w3.heap.size 27 (bl (idB p).1).toArray := Blk.self_ rfl
  have hXI : Blk (w3.alloc (.cells (bl (idB p).1).toArray 27)) w.heap.size 29 (bkv c cv).toArray := (hX.keep hb).more _
  have hYI : Blk (w3.alloc (.cells (bl (idB p).1).toArray 27)) (w.heap.size + 1) 29 (bkv p pv).toArray := (hY.keep hb).more _
  have x1 := readCells_all hXI 34 (by simp [lc])
  have x2 : ∀ (k : Array Value) t, k.size = 32 → canWrite (w3.alloc (.cells k t)) ⟨w3.heap.size, 0, none⟩ 0 32 = true := fun k t hk => canWrite_all (Blk.self_ rfl) 32 hk
  rcases checkB_or p with e0 | e0
  · have em : idB p = (sha (bytesB p), 0) := by unfold idB; rw [if_pos e0]
    have em2 : (idB p).2 = 0 := by rw [em]
    simp [go_sem, IntWalk.iteOmega, IntWalk.toNatUp, li, bl_one, em2, x2, x1]
    refine callE_of (rcheck_any hc (hcd.keep kI)) ?_
    rintro v w4 ⟨rfl, hb4⟩
    have k4 := kI.trans (hb4.mono kI.size)
    have a1 : BkAt w4 w.heap.size c cv := ⟨hXI.keep hb4, hc, hcd.keep k4⟩
    have a2 : BkAt w4 (w.heap.size + 1) p pv := ⟨hYI.keep hb4, hp, hpd.keep k4⟩
    have a3 := readCells_all (hI.keep hb4) 32 (by simpa using li)
    rcases checkB_or c with e1 | e1
    · have hq := fun W => id_eq c.parent (idB p).1 hc.len (idB_len p) W
      have hp0 := checkB_height e0
      by_cases h0 : c.height < 1
      · have el : linkedB c p = 31 := by unfold linkedB; rw [if_neg (by rintro (h | h); exact h e0; exact h e1), if_pos (.inr (.inr (by omega)))]
        simp [go_sem, IntWalk.iteOmega, IntWalk.toNatUp, e1, a1.id, a1.height, a2.height, a3, hq, h0, el]
        exact k4
      · have hE : IntKind.i64.wrap (c.height - 1) = c.height - 1 := by rw [wrap_i64_if, if_pos (by have := hc.lo; have := hc.hi; omega)]
        by_cases h1 : c.parent = sha (bytesB p)
        · have hq1 : (c.parent == (idB p).1) = true := by rw [em]; simpa using h1
          by_cases h3 : c.height - 1 = p.height
          · have el : linkedB c p = 0 := by unfold linkedB; rw [if_neg (by rintro (h | h); exact h e0; exact h e1), if_neg (by have := hc.hi; rintro (h | h | h); exact h h1; omega; omega)]
            have h3' : (c.height - 1 != p.height) = false := by simpa using h3
            simp [go_sem, IntWalk.iteOmega, IntWalk.toNatUp, e1, a1.id, a1.height, a2.height, a3, hq, hq1, h0, hE, h3', el]
            exact k4
          · have el : linkedB c p = 31 := by unfold linkedB; rw [if_neg (by rintro (h | h); exact h e0; exact h e1), if_pos (.inr (.inr (by omega)))]
            have h3' : (c.height - 1 != p.height) = true := by simpa using h3
            simp [go_sem, IntWalk.iteOmega, IntWalk.toNatUp, e1, a1.id, a1.height, a2.height, a3, hq, hq1, h0, hE, h3', el]
            exact k4
        · have hq1 : (c.parent == (idB p).1) = false := by rw [em]; simpa using h1
          have el : linkedB c p = 31 := by unfold linkedB; rw [if_neg (by rintro (h | h); exact h e0; exact h e1), if_pos (.inl h1)]
          simp [go_sem, IntWalk.iteOmega, IntWalk.toNatUp, e1, a1.id, a1.height, a2.height, a3, hq, hq1, h0, hE, el]
          exact k4
    · have el : linkedB c p = 30 := by unfold linkedB; rw [if_pos (.inr (by omega))]
      simp [go_sem, IntWalk.iteOmega, IntWalk.toNatUp, e1, el]
      exact k4
  · have em2 : (idB p).2 = 30 := by unfold idB; rw [if_neg (by omega)]
    have el : linkedB c p = 30 := by unfold linkedB; rw [if_pos (.inl (by omega))]
    simp [go_sem, IntWalk.iteOmega, IntWalk.toNatUp, li, bl_one, em2, x2, x1, el]
    exact kI
def childB (p : Bk) (d : List UInt8) : Bk × Int := if checkB p ≠ 0 ∨ p.height = 9223372036854775807 ∨ 200 < d.length then (zeroBk, 30) else (⟨sha (bytesB p), p.height + 1, d⟩, 0)
theorem foldl_set : ∀ (l : List Value) (k : Nat) (C : Array Value), k + l.length ≤ C.size → List.foldl (fun cs x => cs.setIfInBounds x.snd x.fst) C (l.zipIdx k) = (C.toList.take k ++ l ++ C.toList.drop (k + l.length)).toArray
  | [], k, C, _ => by simp
  | v :: l, k, C, h => by
    simp only [List.length_cons] at h
    simp only [List.zipIdx_cons, List.foldl_cons]
    rw [foldl_set l (k + 1) (C.setIfInBounds k v) (by simp; omega)]
    congr 1
    have hi : k < C.toList.length := by simp; omega
    simp only [Array.toList_setIfInBounds, List.length_cons]
    rw [List.take_add_one, List.take_set_of_le (Nat.le_refl _), List.getElem?_set_self hi, List.drop_set_of_lt (by omega), show k + 1 + l.length = k + (l.length + 1) by omega]
    simp
theorem fold_id (x : List Value) (hx : x.length = 32) : List.foldl (fun (cs : Array Value) (x : Value × Nat) => cs.setIfInBounds x.snd x.fst) #[Value.int IntKind.u8 0, Value.int IntKind.u8 0, Value.int IntKind.u8 0, Value.int IntKind.u8 0, Value.int IntKind.u8 0, Value.int IntKind.u8 0, Value.int IntKind.u8 0, Value.int IntKind.u8 0, Value.int IntKind.u8 0, Value.int IntKind.u8 0, Value.int IntKind.u8 0, Value.int IntKind.u8 0, Value.int IntKind.u8 0, Value.int IntKind.u8 0, Value.int IntKind.u8 0, Value.int IntKind.u8 0, Value.int IntKind.u8 0, Value.int IntKind.u8 0, Value.int IntKind.u8 0, Value.int IntKind.u8 0, Value.int IntKind.u8 0, Value.int IntKind.u8 0, Value.int IntKind.u8 0, Value.int IntKind.u8 0, Value.int IntKind.u8 0, Value.int IntKind.u8 0, Value.int IntKind.u8 0, Value.int IntKind.u8 0, Value.int IntKind.u8 0, Value.int IntKind.u8 0, Value.int IntKind.u8 0, Value.int IntKind.u8 0, Value.int IntKind.i64 0, Value.slice none 0 0] x.zipIdx = (x ++ [Value.int .i64 0, Value.slice none 0 0]).toArray := by
  rw [foldl_set x 0 _ (by rw [hx]; decide), hx]
  rfl
set_option maxHeartbeats 3200000 in
theorem rchild_any {w : World} {p : Bk} {pv dv : Value} {d : List UInt8} (hp : BkOk p) (hpd : RdB w pv p.data) (hd : RdB w dv d) :
    callE Tryz.prog 41 #[.agg (bkv p pv).toArray, dv] w fun r w' => (∃ dv', r = .tuple #[.agg (bkv (childB p d).1 dv').toArray, .int .i64 (childB p d).2] ∧ OwnD w' w.heap.size (childB p d).1 dv') ∧ Below w.heap.size w w' := by
  have kA := ext_alloc w (.cells (bkv p pv).toArray 29)
  have lp : ∀ dv : Value, (bkv p dv).length = 34 := fun dv => bkv_len hp.len
  have x0 : ∀ k t, readCells ((w.alloc (.cells (bkv p pv).toArray 29)).alloc (.cells k t)) ⟨w.heap.size, 0, none⟩ 0 34 = some (bkv p pv) := fun k t => by
    have := readCells_all (Blk.more (o := .cells k t) (Blk.self_ (w := w) (t := 29) (cs := (bkv p pv).toArray) rfl)) 34 (by simp [lp])
    simpa using this
  obtain ⟨Ad, cd, rfl, hdr, -⟩ := id hd
  refine calls_E Tryz.func41 rfl rfl rfl (Nat.le_of_ble_eq_true rfl) ?_
  simp [go_sem, IntWalk.iteOmega, IntWalk.toNatUp, x0]
  have kB := kA.alloc kA.size (.cells zeroB.toArray 29)
  have hX : Blk ((w.alloc (.cells (bkv p pv).toArray 29)).alloc (.cells zeroB.toArray 29)) w.heap.size 29 (bkv p pv).toArray := (Blk.self_ rfl).more _
  have hZ : Blk ((w.alloc (.cells (bkv p pv).toArray 29)).alloc (.cells zeroB.toArray 29)) (w.heap.size + 1) 29 zeroB.toArray := Blk.self_ (by simp)
  change callE _ _ _ ((w.alloc (.cells (bkv p pv).toArray 29)).alloc (.cells zeroB.toArray 29)) _
  generalize (w.alloc (.cells (bkv p pv).toArray 29)).alloc (.cells zeroB.toArray 29) = w2 at *
  refine callE_of (rid_any hp (hpd.keep kB)) ?_
  rintro v w3 ⟨rfl, hb⟩
  have k3 := kB.trans (hb.mono kB.size)
  have li : (bl (idB p).1).length = 32 := by rw [bl_length]; exact idB_len p
  have kI := k3.alloc k3.size (.cells (bl (idB p).1).toArray 27)
  have hI : Blk (w3.alloc (.cells (bl (idB p).1).toArray 27)) w3.heap.size 27 (bl (idB p).1).toArray := Blk.self_ rfl
  have hXI : Blk (w3.alloc (.cells (bl (idB p).1).toArray 27)) w.heap.size 29 (bkv p pv).toArray := (hX.keep hb).more _
  have hZI : Blk (w3.alloc (.cells (bl (idB p).1).toArray 27)) (w.heap.size + 1) 29 zeroB.toArray := (hZ.keep hb).more _
  have x2 : ∀ (k : Array Value) t, k.size = 32 → canWrite (w3.alloc (.cells k t)) ⟨w3.heap.size, 0, none⟩ 0 32 = true := fun k t hk => canWrite_all (Blk.self_ rfl) 32 hk
  have a2 : BkAt (w3.alloc (.cells (bl (idB p).1).toArray 27)) w.heap.size p pv := ⟨hXI, hp, hpd.keep kI⟩
  have a3 := readCells_all hI 32 (by simpa using li)
  have hd3 := hd.keep kI
  have hzlt : w.heap.size + 1 < (w3.alloc (.cells (bl (idB p).1).toArray 27)).heap.size := hZI.lt
  have y2 := canWrite_all hZI 34 rfl
  have y3 : ∀ l : List Value, l.length = 34 → storeSeg (w3.alloc (.cells (bl (idB p).1).toArray 27)) ⟨w.heap.size + 1, 0, none⟩ 0 l = (w3.alloc (.cells (bl (idB p).1).toArray 27)).setRow (w.heap.size + 1) l.toArray := fun l hl => storeSeg_all hZI l (by rw [hl]; rfl)
  have y4 : ∀ l : List Value, l.length = 34 → readCells ((w3.alloc (.cells (bl (idB p).1).toArray 27)).setRow (w.heap.size + 1) l.toArray) ⟨w.heap.size + 1, 0, none⟩ 0 34 = some l := fun l hl => readCells_all (Blk_setRow hZI) 34 (by simpa using hl)
  by_cases hx : checkB p ≠ 0 ∨ p.height = 9223372036854775807 ∨ 200 < d.length
  · have e : childB p d = (zeroBk, 30) := by unfold childB; rw [if_pos hx]
    have kf := below_setRow kI (g := w.heap.size + 1) (by omega) zeroB.toArray
    rcases checkB_or p with e0 | e0
    · have em2 : (idB p).2 = 0 := by unfold idB; rw [if_pos e0]
      by_cases h1 : p.height = 9223372036854775807
      · simp [go_sem, IntWalk.iteOmega, IntWalk.toNatUp, li, bl_one, em2, x2, a2.height, h1]
        generalize w3.alloc (.cells (bl (idB p).1).toArray 27) = w4 at *
        simp [go_sem, IntWalk.iteOmega, IntWalk.toNatUp, y2, y3, y4]
        simp only [e]
        exact ⟨⟨.slice none 0 0, ⟨rfl, trivial⟩, World.ownsRow_nil _ _ _ _⟩, kf⟩
      · have h1' : (p.height == 9223372036854775807) = false := by simpa using h1
        have h2 : (200 : Int) < d.length := by rcases hx with h | h | h; exact absurd e0 h; exact absurd h h1; omega
        simp [go_sem, IntWalk.iteOmega, IntWalk.toNatUp, li, bl_one, em2, x2, a2.height, h1', h2]
        generalize w3.alloc (.cells (bl (idB p).1).toArray 27) = w4 at *
        simp [go_sem, IntWalk.iteOmega, IntWalk.toNatUp, y2, y3, y4]
        simp only [e]
        exact ⟨⟨.slice none 0 0, ⟨rfl, trivial⟩, World.ownsRow_nil _ _ _ _⟩, kf⟩
    · have em2 : (idB p).2 = 30 := by unfold idB; rw [if_neg (by omega)]
      simp [go_sem, IntWalk.iteOmega, IntWalk.toNatUp, li, bl_one, em2, x2]
      generalize w3.alloc (.cells (bl (idB p).1).toArray 27) = w4 at *
      simp [go_sem, IntWalk.iteOmega, IntWalk.toNatUp, y2, y3, y4]
      simp only [e]
      exact ⟨⟨.slice none 0 0, ⟨rfl, trivial⟩, World.ownsRow_nil _ _ _ _⟩, kf⟩
  · have e : childB p d = (⟨sha (bytesB p), p.height + 1, d⟩, 0) := by unfold childB; rw [if_neg hx]
    have e0 : checkB p = 0 := by by_cases h : checkB p = 0; exact h; exact absurd (.inl h) hx
    have h1 : ¬ p.height = 9223372036854775807 := fun h => hx (.inr (.inl h))
    have h1' : (p.height == 9223372036854775807) = false := by simpa using h1
    have h2 : ¬ (200 : Int) < d.length := fun h => hx (.inr (.inr (by omega)))
    have em : idB p = (sha (bytesB p), 0) := by unfold idB; rw [if_pos e0]
    have em2 : (idB p).2 = 0 := by rw [em]
    have hE : IntKind.i64.wrap (p.height + 1) = p.height + 1 := by rw [wrap_i64_if, if_pos (by have := hp.lo; have := hp.hi; omega)]
    have hp0 := checkB_height e0
    simp [go_sem, IntWalk.iteOmega, IntWalk.toNatUp, li, bl_one, em2, x2, a2.height, h1', h2]
    generalize w3.alloc (.cells (bl (idB p).1).toArray 27) = w4 at *
    have hfd := fold_id (bl (idB p).1) li
    simp [go_sem, IntWalk.iteOmega, IntWalk.toNatUp, a2.height, a3, hE, li, hfd]
    have ec : childB p d = (⟨(idB p).1, p.height + 1, d⟩, 0) := by rw [e, em]
    have hcok : BkOk ⟨(idB p).1, p.height + 1, d⟩ := ⟨idB_len p, by show _ ≤ p.height + 1; omega, by have := hp.hi; show p.height + 1 ≤ _; omega⟩
    change callE _ _ #[.agg (bkv ⟨(idB p).1, p.height + 1, d⟩ (.slice Ad d.length cd)).toArray] _ _
    have hdd : RdB w4 (.slice Ad d.length cd) (⟨(idB p).1, p.height + 1, d⟩ : Bk).data := hd3
    have hdl : (⟨(idB p).1, p.height + 1, d⟩ : Bk).data.length ≤ 100000 := by show d.length ≤ _; omega
    generalize (⟨(idB p).1, p.height + 1, d⟩ : Bk) = cb at *
    refine callE_of (rclone_any hcok hdd hdl) ?_
    rintro v w5 ⟨⟨dv', rfl, ho⟩, hb5⟩
    have hZ5 := hZI.keep hb5
    have c34 : (bkv cb dv').length = 34 := bkv_len hcok.len
    have z2 := canWrite_all hZ5 34 rfl
    have z3 := storeSeg_all hZ5 (bkv cb dv') (by rw [c34]; rfl)
    have z4 : readCells (w5.setRow (w.heap.size + 1) (bkv cb dv').toArray) ⟨w.heap.size + 1, 0, none⟩ 0 34 = some (bkv cb dv') := readCells_all (Blk_setRow hZ5) 34 (by simpa using c34)
    have k5 := kI.trans (hb5.mono kI.size)
    obtain ⟨-, A', c', rfl⟩ := own_sl ho
    simp [go_sem, IntWalk.iteOmega, IntWalk.toNatUp, z2, z3, z4, c34, bkv_one]
    simp only [ec]
    exact ⟨⟨_, ⟨rfl, trivial⟩, own_mono (own_high ho fun k hk => setRow_other _ _ _ _ (by omega)) kI.size⟩, below_setRow k5 (by omega) _⟩
deriving instance DecidableEq for Bk
theorem conv_rd {w : World} {v : Value} {l : List UInt8} (h : RdB w v l) : (convert 22 9 v).run Tryz.prog w = .ok (.string ⟨l.toArray⟩) w := by
  obtain ⟨A, c, rfl, hr, -⟩ := h
  by_cases h0 : 0 < l.length
  · obtain ⟨b, o, rfl, hlt, hc⟩ := hr.cells h0
    rw [run_convert_bytes_arg w 22 5 Tryz.underlying22 Tryz.underlying5 b o l.length c (l.map fun x => (x.toNat : Int)) (by simp) (fun i hi => ?_) 9 Tryz.underlying9]
    · simp [strOfNums, Function.comp_def]
    · rw [hc i _ (bl_at2 l i hi)]
      simp [List.getElem?_eq_getElem hi]
  · have hl : l = [] := List.length_eq_zero_iff.1 (by omega)
    subst hl
    exact run_convert_bytes_zero w 22 5 Tryz.underlying22 Tryz.underlying5 A c 9 Tryz.underlying9
set_option maxHeartbeats 3200000 in
theorem rsame_any {w : World} {a b : Bk} {av bv : Value} (ha : BkOk a) (had : RdB w av a.data) (hb : BkOk b) (hbd : RdB w bv b.data) :
    callE Tryz.prog 59 #[.agg (bkv a av).toArray, .agg (bkv b bv).toArray] w fun r w' => r = .bool (decide (a = b)) ∧ Below w.heap.size w w' := by
  have kA := ext_alloc w (.cells (bkv a av).toArray 29)
  have kB := kA.alloc kA.size (.cells (bkv b bv).toArray 29)
  have hX : Blk ((w.alloc (.cells (bkv a av).toArray 29)).alloc (.cells (bkv b bv).toArray 29)) w.heap.size 29 (bkv a av).toArray := (Blk.self_ rfl).more _
  have hY : Blk ((w.alloc (.cells (bkv a av).toArray 29)).alloc (.cells (bkv b bv).toArray 29)) (w.heap.size + 1) 29 (bkv b bv).toArray := Blk.self_ (by simp)
  refine calls_E Tryz.func59 rfl rfl rfl (Nat.le_of_ble_eq_true rfl) ?_
  have aX : BkAt ((w.alloc (.cells (bkv a av).toArray 29)).alloc (.cells (bkv b bv).toArray 29)) w.heap.size a av := ⟨hX, ha, had.keep kB⟩
  have aY : BkAt ((w.alloc (.cells (bkv a av).toArray 29)).alloc (.cells (bkv b bv).toArray 29)) (w.heap.size + 1) b bv := ⟨hY, hb, hbd.keep kB⟩
  have hq := fun W => id_eq a.parent b.parent ha.len hb.len W
  have e : a = b ↔ a.parent = b.parent ∧ a.height = b.height ∧ a.data = b.data := by
    constructor
    · rintro rfl; exact ⟨rfl, rfl, rfl⟩
    · obtain ⟨p, h, d⟩ := a; obtain ⟨p', h', d'⟩ := b; rintro ⟨rfl, rfl, rfl⟩; rfl
  by_cases h1 : a.parent = b.parent
  · have h1' : (a.parent == b.parent) = true := by simpa using h1
    by_cases h2 : a.height = b.height
    · have ka := bkv_33 (dv := av) ha.len
      have kb := bkv_33 (dv := bv) hb.len
      have ka2 := bkv_32 (dv := av) ha.len
      have kb2 := bkv_32 (dv := bv) hb.len
      have h2' : (a.height == b.height) = true := by simpa using h2
      obtain ⟨A, c, rfl, hr, -⟩ := id aX.rd
      obtain ⟨B, c', rfl, hr', -⟩ := id aY.rd
      have cx := conv_rd aX.rd
      have cy := conv_rd aY.rd
      have ee : decide (a = b) = (a.data == b.data) := by rw [Bool.eq_iff_iff]; simp [e, h1, h2]
      simp [go_sem, IntWalk.iteOmega, IntWalk.toNatUp, aX.id, aY.id, ka, kb, ka2, kb2, hq, h1', h2', cx, cy, ee]
      exact kB
    · have ka2 := bkv_32 (dv := av) ha.len
      have kb2 := bkv_32 (dv := bv) hb.len
      have ee : decide (a = b) = false := by simp [e, h2]
      have h2' : (a.height == b.height) = false := by simpa using h2
      simp [go_sem, IntWalk.iteOmega, IntWalk.toNatUp, aX.id, aY.id, ka2, kb2, hq, h1', h2', ee]
      exact kB
  · have h1' : (a.parent == b.parent) = false := by simpa using h1
    have ee : decide (a = b) = false := by simp [e, h1]
    simp [go_sem, IntWalk.iteOmega, IntWalk.toNatUp, aX.id, aY.id, hq, h1', ee]
    exact kB
def flat (xs : List (Bk × Value)) : List Value := xs.flatMap fun x => bkv x.1 x.2
theorem flat_at : ∀ (xs : List (Bk × Value)) (hok : ∀ x ∈ xs, x.1.parent.length = 32) (i : Nat) (x : Bk × Value), xs[i]? = some x → ∀ j v, (bkv x.1 x.2)[j]? = some v → (flat xs)[34 * i + j]? = some v
  | [], _, i, x, h, _, _, _ => by simp at h
  | y :: ys, hok, 0, x, h, j, v, hj => by
    simp at h
    subst h
    show ((bkv y.1 y.2) ++ flat ys)[34 * 0 + j]? = some v
    rw [Nat.mul_zero, Nat.zero_add, List.getElem?_append_left (List.getElem?_eq_some_iff.1 hj).1]
    exact hj
  | y :: ys, hok, i + 1, x, h, j, v, hj => by
    have hl : (bkv y.1 y.2).length = 34 := bkv_len (hok y (by simp))
    show ((bkv y.1 y.2) ++ flat ys)[34 * (i + 1) + j]? = some v
    rw [List.getElem?_append_right (by omega), hl, show 34 * (i + 1) + j - 34 = 34 * i + j by omega]
    exact flat_at ys (fun x hx => hok x (by simp [hx])) i x (by simpa using h) j v hj
theorem take_snoc' {α : Type} {l : List α} {i : Nat} (h : i < l.length) : l.take (i + 1) = l.take i ++ [l[i]] := by
  rw [List.take_add_one, List.getElem?_eq_getElem h]; rfl
def BksR (w : World) (v : Value) (bs : List Bk) : Prop := ∃ A c xs, v = .slice A bs.length c ∧ xs.map Prod.fst = bs ∧ Rd w 34 A bs.length (flat xs) ∧ bs.length ≤ c ∧ c ≤ 9223372036854775807 ∧ ∀ x ∈ xs, BkOk x.1 ∧ RdB w x.2 x.1.data
theorem BksR.keep {w w' : World} {v : Value} {bs : List Bk} (h : BksR w v bs) (hb : Below w.heap.size w w') : BksR w' v bs := by
  obtain ⟨A, c, xs, h1, h2, h3, h4, h5, h6⟩ := h
  exact ⟨A, c, xs, h1, h2, h3.keep hb, h4, h5, fun x hx => ⟨(h6 x hx).1, (h6 x hx).2.keep hb⟩⟩
theorem map_at {xs : List (Bk × Value)} {bs : List Bk} (h : xs.map Prod.fst = bs) {i : Nat} (hi : i < bs.length) : ∃ dv, xs[i]? = some (bs[i], dv) := by
  subst h
  have hi' : i < xs.length := by simpa using hi
  refine ⟨xs[i].2, ?_⟩
  rw [List.getElem?_eq_getElem hi']
  simp
theorem rd_block {w : World} {b o : Nat} {xs : List (Bk × Value)} {bs : List Bk} (hm : xs.map Prod.fst = bs) (hok : ∀ x ∈ xs, BkOk x.1 ∧ RdB w x.2 x.1.data) (hc : ∀ j v, (flat xs)[j]? = some v → w.cell? ⟨b, o + j, none⟩ = some v) {i : Nat} (hi : i < bs.length) :
    ∃ dv, BkOk bs[i] ∧ RdB w dv bs[i].data ∧ ∀ j v, (bkv bs[i] dv)[j]? = some v → w.cell? ⟨b, o + (34 * i + j), none⟩ = some v := by
  obtain ⟨dv, hx⟩ := map_at hm hi
  have hmem := List.mem_of_getElem? hx
  exact ⟨dv, (hok _ hmem).1, (hok _ hmem).2, fun j v hj => hc _ _ (flat_at xs (fun x hx => (hok x hx).1.len) i _ hx j v hj)⟩
theorem readCells_cells {w : World} {b o : Nat} : ∀ (n i : Nat) (l : List Value), l.length = n → (∀ j v, l[j]? = some v → w.cell? ⟨b, o + i + j, none⟩ = some v) → readCells w ⟨b, o, none⟩ i n = some l := by
  intro n
  induction n with
  | zero => intro i l hl _; rw [List.length_eq_zero_iff.1 hl]; rfl
  | succ n ih =>
    intro i l hl h
    rcases l with _ | ⟨v, l⟩
    · simp at hl
    · have h0 := h 0 v rfl
      have h1 := ih (i + 1) l (by simpa using hl) (fun j u hj => by have := h (j + 1) u (by simpa using hj); rw [show o + (i + 1) + j = o + i + (j + 1) by omega]; exact this)
      simp only [readCells, add_none, h1]
      rw [show o + i = o + i + 0 from rfl, h0]
      rfl
set_option maxHeartbeats 3200000 in
theorem sameAll_any {w : World} {av bv : Value} {es bs : List Bk} (ha : BksR w av es) (hb : BksR w bv bs) :
    callE Tryz.prog 24 #[av, bv] w fun r w' => r = .bool (decide (es = bs)) ∧ Below w.heap.size w w' := by
  obtain ⟨A, c, xs, rfl, hxm, hxr, hxc, hxc2, hxo⟩ := id ha
  obtain ⟨B, d, ys, rfl, hym, hyr, hyc, hyc2, hyo⟩ := id hb
  refine calls_E Tryz.func24 rfl rfl rfl (Nat.le_of_ble_eq_true rfl) ?_
  by_cases hl : es.length = bs.length
  · have hl' : ((es.length : Int) != bs.length) = false := by simp [hl]
    simp [go_sem, IntWalk.iteOmega, IntWalk.toNatUp, hl']
    refine W_loop (fun st wr => ∃ i : Nat, i ≤ es.length ∧ st 0 = .slice A es.length c ∧ st 1 = .slice B bs.length d ∧ st 5 = .int .i64 i ∧ es.take i = bs.take i ∧ Below w.heap.size w wr) (fun st _ => es.length - (intOf (st 5)).toNat) ?_ ?_
    · exact ⟨0, by omega, by simp [go_sem], by simp [go_sem], by simp [go_sem], by simp, Below.refl _ _⟩
    · rintro st wr ⟨i, hi, e0, e1, e5, ht, hB⟩
      by_cases hlt : i < es.length
      · have hlt' : (i : Int) < es.length := by omega
        have hltb : i < bs.length := by omega
        have hltb' : (i : Int) < bs.length := by omega
        obtain ⟨ab, ao, rfl, hab, hac⟩ := (hxr.keep hB).cells (by omega)
        obtain ⟨bb, bo, rfl, hbb, hbc⟩ := (hyr.keep hB).cells (by omega)
        obtain ⟨adv, hao, had, hacs⟩ := rd_block hxm (fun x hx => ⟨(hxo x hx).1, (hxo x hx).2.keep hB⟩) hac hlt
        obtain ⟨bdv, hbo, hbd, hbcs⟩ := rd_block hym (fun x hx => ⟨(hyo x hx).1, (hyo x hx).2.keep hB⟩) hbc hltb
        simp [go_sem, IntWalk.iteOmega, IntWalk.toNatUp, e0, e1, e5, hlt, hlt', hltb, hltb']
        refine W_flow (fun _ => True) (.pure 0 (.pure 1 (.pure 2 (.pure 3 (.pure 4 (.pure 5 (.pure 6 (.pure 7 (.one 8 (.pure 9 (.done))))))))))) follows (by kernel_rfl) ?_
        have hr := held_refl (fun _ => True) wr.drew
        have ra : readCells wr.drew ⟨ab, ao + i * 34, none⟩ 0 34 = some (bkv es[i] adv) := readCells_cells 34 0 _ (bkv_len hao.len) (fun j v hj => by rw [show ao + i * 34 + 0 + j = ao + (34 * i + j) by omega]; exact hacs j v hj)
        have rb : readCells wr.drew ⟨bb, bo + i * 34, none⟩ 0 34 = some (bkv bs[i] bdv) := readCells_cells 34 0 _ (bkv_len hbo.len) (fun j v hj => by rw [show bo + i * 34 + 0 + j = bo + (34 * i + j) by omega]; exact hbcs j v hj)
        simp [go_sem, IntWalk.iteOmega, IntWalk.toNatUp, e0, e1, e5, hlt, hlt', hltb, hltb', hr, hab, hbb, ra, rb]
        have hkd := ext_drew wr
        refine callE_of (rsame_any hao (had.keep hkd) hbo (hbd.keep hkd)) ?_
        rintro _ w4 ⟨rfl, k4⟩
        have k5 := hB.drew.trans (k4.mono hB.drew.size)
        have hs1 := take_snoc' hlt
        have hs2 := take_snoc' hltb
        by_cases hx : es[i] = bs[i]
        · simp [go_sem, IntWalk.iteOmega, IntWalk.toNatUp, e0, e1, e5, hr.below k4, hx]
          refine roundEnd.mk ⟨i + 1, by omega, by simp [go_sem, e0], by simp [go_sem, e1], by simp [go_sem, e5], ?_, k5⟩ ?_
          · rw [hs1, hs2, ht, hx]
          · simp [go_sem, intOf]; omega
        · have e : decide (es = bs) = false := by
            simp only [decide_eq_false_iff_not]
            rintro rfl
            exact hx rfl
          simp [go_sem, IntWalk.iteOmega, IntWalk.toNatUp, e0, e1, e5, hr.below k4, hx, e]
          exact k5
      · obtain rfl : i = es.length := by omega
        rw [List.take_of_length_le (Nat.le_refl _), List.take_of_length_le (by omega)] at ht
        have e : decide (es = bs) = true := by simp [ht]
        simp [go_sem, IntWalk.iteOmega, IntWalk.toNatUp, e0, e1, e5, e]
        exact hB
  · have hl' : ((es.length : Int) != bs.length) = true := by simp; omega
    have e : decide (es = bs) = false := by simp; rintro rfl; exact hl rfl
    simp [go_sem, IntWalk.iteOmega, IntWalk.toNatUp, hl', e]
    exact Below.refl _ _
end Go.Proofs.YtdjcjjodbniebaaGreatDoor
