/-
  Texts joined: FParse, FCompare, FLess, Cut, FGotL.
-/
import Derived.Test.YtdjcjjodbniebaaGreatDoorJoin24
import Derived.Lib.Bytealg
import Derived.Lib.BytesEntry
namespace Go.Proofs.YtdjcjjodbniebaaGreatDoor
open Go.RowKit
set_option linter.unusedVariables false
set_option linter.unusedSimpArgs false
set_option maxRecDepth 10000
def pVer (l : List UInt8) := beN (takeL 2 l 0)
def pR1 (l : List UInt8) := takeR 2 l 0
def pE1 (l : List UInt8) := takeE 2 l 0
def pPar (l : List UInt8) := takeL 32 (pR1 l) (pE1 l)
def pR2 (l : List UInt8) := takeR 32 (pR1 l) (pE1 l)
def pE2 (l : List UInt8) := takeE 32 (pR1 l) (pE1 l)
def pHei (l : List UInt8) := beN (takeL 8 (pR2 l) (pE2 l))
def pR3 (l : List UInt8) := takeR 8 (pR2 l) (pE2 l)
def pE3 (l : List UInt8) := takeE 8 (pR2 l) (pE2 l)
def pCnt (l : List UInt8) := cntV 4 200 (pR3 l) (pE3 l)
def pEnd (l : List UInt8) : Int := if (pCnt l).2.2 ≠ 0 then (pCnt l).2.2 else if (pCnt l).2.1 = [] then 0 else 12
def pBk (l : List UInt8) : Bk := ⟨pPar l, pHei l, (pCnt l).1⟩
def parseB (l : List UInt8) : Bk × Int := if 246 < l.length then (zeroBk, 30) else if pEnd l ≠ 0 ∨ pVer l ≠ 0 ∨ 9223372036854775807 < pHei l then (zeroBk, 30) else madeB (pBk l)
theorem RdB.grown {w w' : World} {v : Value} {l : List UInt8} {u : Nat} (h : RdB w v l) (hg : w.grownBy w' (some u)) (hne : ∀ g o m c, v = .slice (some ⟨g, o, none⟩) m c → g ≠ u) : RdB w' v l := by
  obtain ⟨A, c, rfl, h1, h2, h3, h4⟩ := h
  refine ⟨A, c, rfl, ⟨h1.len, fun h0 => ?_⟩, h2, h3, h4⟩
  obtain ⟨g, o, rfl, hlt, hc⟩ := h1.cells h0
  exact ⟨g, o, rfl, Nat.lt_of_lt_of_le hlt hg.size, fun j v hj => hg.cell (hc j v hj) (fun e => hne g o _ _ rfl (Option.some.inj e))⟩
theorem UnIn.lt {w : World} {B u : Nat} {l : List UInt8} {e : Int} (h : UnIn w B u l e) : u < w.heap.size := by
  obtain ⟨g, o, c, h1, h2, h3, h4, h5⟩ := h
  exact h4.lt
theorem takeE_zero {n : Nat} {l : List UInt8} {e : Int} (h : takeE n l e = 0) : e = 0 ∧ n ≤ l.length := by
  unfold takeE at h
  split at h
  · simp at h
  · rename_i hn
    exact ⟨h, by by_cases h2 : n ≤ l.length; exact h2; exact absurd ⟨h, h2⟩ hn⟩
theorem cntV_zero {head most : Nat} {l : List UInt8} {e : Int} (h : (cntV head most l e).2.2 = 0) : e = 0 := by
  unfold cntV at h
  by_cases h0 : e = 0
  · exact h0
  · rw [if_pos h0] at h; exact absurd h h0
theorem pBk_ok {l : List UInt8} (h : pEnd l = 0) (hh : pHei l ≤ 9223372036854775807) : BkOk (pBk l) := by
  have h1 : (pCnt l).2.2 = 0 := by
    unfold pEnd at h
    split at h
    · exact h
    · rename_i hn; simpa using hn
  have h3 := (takeE_zero (cntV_zero h1)).1
  have h2 := takeE_zero h3
  refine ⟨?_, ?_, ?_⟩
  · show (takeL 32 (pR1 l) (pE1 l)).length = 32
    unfold takeL
    rw [if_pos h2]
    simp [h2.2]
  · show _ ≤ ((pHei l : Nat) : Int)
    omega
  · show ((pHei l : Nat) : Int) ≤ _
    omega
set_option maxHeartbeats 3200000 in
theorem bparse_any {w : World} {v : Value} {l : List UInt8} (h : RdB w v l) (hl : l.length ≤ 9223372036854775807) :
    callE Tryz.prog 52 #[v] w fun r w' => (∃ dv', r = .tuple #[.agg (bkv (parseB l).1 dv').toArray, .int .i64 (parseB l).2] ∧ OwnD w' w.heap.size (parseB l).1 dv') ∧ Below w.heap.size w w' := by
  obtain ⟨A, c, rfl, hr, hA, hc, hc2⟩ := id h
  have kA := ext_alloc w (.cells zeroB.toArray 29)
  have hZ : Blk (w.alloc (.cells zeroB.toArray 29)) w.heap.size 29 zeroB.toArray := Blk.self_ rfl
  by_cases h1 : 246 < l.length
  · have e : parseB l = (zeroBk, 30) := by unfold parseB; rw [if_pos h1]
    have h1' : (246 : Int) < l.length := by omega
    have x2 : ∀ (k : Array Value) t, k.size = 34 → canWrite (w.alloc (.cells k t)) ⟨w.heap.size, 0, none⟩ 0 34 = true := fun k t hk => canWrite_all (Blk.self_ rfl) 34 hk
    have x4 : ∀ (k : List Value) t, k.length = 34 → readCells (w.alloc (.cells k.toArray t)) ⟨w.heap.size, 0, none⟩ 0 34 = some k := fun k t hk => readCells_all (Blk.self_ rfl) 34 (by simpa using hk)
    refine calls_E Tryz.func52 rfl rfl rfl (Nat.le_of_ble_eq_true rfl) ?_
    simp [go_sem, IntWalk.iteOmega, IntWalk.toNatUp, h1', x2, x4]
    simp only [e]
    exact ⟨⟨.slice none 0 0, ⟨rfl, trivial⟩, World.ownsRow_nil _ _ _ _⟩, kA⟩
  · have h1' : ¬ (246 : Int) < l.length := by omega
    refine calls_E Tryz.func52 rfl rfl rfl (Nat.le_of_ble_eq_true rfl) ?_
    simp [go_sem, IntWalk.iteOmega, IntWalk.toNatUp, h1']
    change callE _ _ _ (w.alloc (.cells zeroB.toArray 29)) _
    generalize w.alloc (.cells zeroB.toArray 29) = w2 at *
    refine callE_of (read_any (h.keep kA) (by omega)) ?_
    rintro r w3 ⟨u, rfl, hu, hb3⟩
    have z2 : w.heap.size < w2.heap.size := hZ.lt
    have hu2 : w2.heap.size ≤ u := by obtain ⟨g, o, c, q1, q2, q⟩ := hu; exact q2
    have hZ3 := hZ.keep hb3
    have k3 := kA.trans (hb3.mono kA.size)
    have gr : ∀ {a b : World}, Below w.heap.size w a → a.grownBy b (some u) → Below w.heap.size w b := fun k g => k.grown g k.size (fun k hk => by injection hk with hk; omega)
    have gz : ∀ {a b : World}, Blk a w.heap.size 29 zeroB.toArray → a.grownBy b (some u) → Blk b w.heap.size 29 zeroB.toArray := fun hz g => (g.block _ hz.lt (fun h => by injection h with h; omega)).trans hz
    simp [go_sem, IntWalk.iteOmega, IntWalk.toNatUp]
    refine callE_of (short_any hu) ?_
    rintro r w4 ⟨e4, hu4, g4⟩
    obtain rfl : r = .int .u16 (pVer l) := e4
    have k4 := gr k3 g4
    have hZ4 := gz hZ3 g4
    simp [go_sem, IntWalk.iteOmega, IntWalk.toNatUp]
    refine callE_of (fixed_any hu4 32 (by omega)) ?_
    rintro pv w5 ⟨hp5, hp5g, hu5, g5⟩
    have k5 := gr k4 g5
    have hZ5 := gz hZ4 g5
    simp [go_sem, IntWalk.iteOmega, IntWalk.toNatUp]
    refine callE_of (long_any hu5) ?_
    rintro r w6 ⟨e6, hu6, g6⟩
    obtain rfl : r = .int .u64 (pHei l) := e6
    have k6 := gr k5 g6
    have hZ6 := gz hZ5 g6
    simp [go_sem, IntWalk.iteOmega, IntWalk.toNatUp]
    refine callE_of (unbytes_any hu6 200 (by omega)) ?_
    rintro dv w7 ⟨hd7, hd7g, hu7, g7⟩
    have k7 := gr k6 g7
    have hZ7 := gz hZ6 g7
    have r1 : Runs Tryz.prog 93 #[.pointer (some ⟨u, 0, none⟩)] w7 (.int .i64 (pEnd l)) w7 := uend_runs (l := (pCnt l).2.1) (e := (pCnt l).2.2) hu7
    have r0 := fun k => callE_eq noinit_uend r1 k
    have x2 := canWrite_all hZ7 34 rfl
    have x3 : ∀ l : List Value, l.length = 34 → storeSeg w7 ⟨w.heap.size, 0, none⟩ 0 l = w7.setRow w.heap.size l.toArray := fun l hl => storeSeg_all hZ7 l (by rw [hl]; rfl)
    have x4 : ∀ l : List Value, l.length = 34 → readCells (w7.setRow w.heap.size l.toArray) ⟨w.heap.size, 0, none⟩ 0 34 = some l := fun l hl => readCells_all (Blk_setRow hZ7) 34 (by simpa using hl)
    by_cases hbad : pEnd l ≠ 0 ∨ pVer l ≠ 0 ∨ 9223372036854775807 < pHei l
    · have e : parseB l = (zeroBk, 30) := by unfold parseB; rw [if_neg h1, if_pos hbad]
      have kf := below_setRow k7 (Nat.le_refl _) zeroB.toArray
      by_cases b1 : pEnd l = 0
      · have b1' : (pEnd l != 0) = false := by simpa using b1
        by_cases b2 : pVer l = 0
        · have b2' : ((pVer l : Int) != 0) = false := by simp [b2]
          have b3 : (9223372036854775807 : Int) < pHei l := by rcases hbad with h | h | h; exact absurd b1 h; exact absurd b2 h; omega
          simp [go_sem, IntWalk.iteOmega, IntWalk.toNatUp, r0, b1', b2', b3, x2, x3, x4]
          simp only [e]
          exact ⟨⟨.slice none 0 0, ⟨rfl, trivial⟩, World.ownsRow_nil _ _ _ _⟩, kf⟩
        · have b2' : ((pVer l : Int) != 0) = true := by simp; omega
          simp [go_sem, IntWalk.iteOmega, IntWalk.toNatUp, r0, b1', b2', x2, x3, x4]
          simp only [e]
          exact ⟨⟨.slice none 0 0, ⟨rfl, trivial⟩, World.ownsRow_nil _ _ _ _⟩, kf⟩
      · have b1' : (pEnd l != 0) = true := by simpa using b1
        simp [go_sem, IntWalk.iteOmega, IntWalk.toNatUp, r0, b1', x2, x3, x4]
        simp only [e]
        exact ⟨⟨.slice none 0 0, ⟨rfl, trivial⟩, World.ownsRow_nil _ _ _ _⟩, kf⟩
    · have e : parseB l = madeB (pBk l) := by unfold parseB; rw [if_neg h1, if_neg hbad]
      have b1' : (pEnd l != 0) = false := by simp; by_cases h : pEnd l = 0; exact h; exact absurd (.inl h) hbad
      have b2' : ((pVer l : Int) != 0) = false := by simp; by_cases h : pVer l = 0; exact h; exact absurd (.inr (.inl h)) hbad
      have b3 : ¬ (9223372036854775807 : Int) < pHei l := by intro h; exact hbad (.inr (.inr (by omega)))
      have f1 : IntKind.i64.wrap (pHei l : Int) = pHei l := by rw [wrap_i64_if, if_pos (by omega)]
      have hok := pBk_ok (l := l) (by simpa using b1') (by omega)
      have hd7' : RdB w7 dv (pBk l).data := hd7
      have hp7 : RdB w7 pv (pBk l).parent := (RdB.grown (RdB.grown hp5 g6 (fun g o m c h => by have := hp5g g o m c h; have := hu4.lt; omega)) g7 (fun g o m c h => by have := hp5g g o m c h; have := hu4.lt; omega) :)
      have hei : (pBk l).height = pHei l := rfl
      have y2 : ∀ (k : Array Value) t, k.size = 34 → canWrite (w7.alloc (.cells k t)) ⟨w7.heap.size, 0, none⟩ 0 34 = true := fun k t hk => canWrite_all (Blk.self_ rfl) 34 hk
      generalize pBk l = b at *
      rw [e]
      clear e
      obtain ⟨Ad, cd, rfl, hrd, hAd, hcd, hcd2⟩ := id hd7'
      obtain ⟨Ap, cp, rfl, hrp, hAp, hcp, hcp2⟩ := id hp7
      have hlen : (bl b.parent).length = 32 := by rw [bl_length]; exact hok.len
      simp [go_sem, IntWalk.iteOmega, IntWalk.toNatUp, r0, b1', b2', b3, f1, y2]
      refine copyE (te := 29) (o := 0) Tryz.underlying22 (by kernel_rfl) (bl b.parent) (Blk.self_ rfl) (by rw [hlen]; show 32 = min b.parent.length 32; rw [hok.len]; rfl) (fun _ => rfl) (fun hp => ?_) (by rw [hlen]; simp) (bl_one _) ?_
      · obtain ⟨g, o, rfl, hlt, hcell⟩ := hrp.cells (by rw [hok.len]; omega)
        exact ⟨_, rfl, fun j v hj => by rw [add_none, (ext_alloc w7 _).cell hlt]; exact hcell j v hj⟩
      · intro w8 cur hN hcur hg8 hs8
        have hcur2 : cur.toList = bkv b (.slice Ad b.data.length cd) := by
          rw [hcur, hlen]
          unfold bkv
          rw [hei]
          rfl
        have kx := (ext_alloc w7 (.cells (bkv ⟨zeroId, pHei l, b.data⟩ (.slice Ad b.data.length cd)).toArray 29))
        have k8 : Below w7.heap.size w7 w8 := kx.grown hg8 kx.size (fun k hk => by injection hk with hk; omega)
        have x5 : readCells w8 ⟨w7.heap.size, 0, none⟩ 0 34 = some (bkv b (.slice Ad b.data.length cd)) := by rw [← hcur2]; exact readCells_all hN 34 (by rw [← Array.length_toList, hcur2]; exact bkv_len hok.len)
        have hZ8 := hZ7.keep k8
        have kk := k7.trans (k8.mono k7.size)
        clear hcur hg8 kx
        simp [go_sem, IntWalk.iteOmega, IntWalk.toNatUp, x5]
        refine callE_of (made_any hok (hd7'.keep k8)) ?_
        rintro r w9 ⟨⟨dv', rfl, ho⟩, hb9⟩
        have hZ9 := hZ8.keep hb9
        have m34 : (bkv (madeB b).1 dv').length = 34 := bkv_len (by unfold madeB; split; exact hok.len; simp [zeroBk, zeroId])
        have z2 := canWrite_all hZ9 34 rfl
        have z3 := storeSeg_all hZ9 (bkv (madeB b).1 dv') (by rw [m34]; rfl)
        have z4 : readCells (w9.setRow w.heap.size (bkv (madeB b).1 dv').toArray) ⟨w.heap.size, 0, none⟩ 0 34 = some (bkv (madeB b).1 dv') := readCells_all (Blk_setRow hZ9) 34 (by simpa using m34)
        obtain ⟨-, A', c', rfl⟩ := own_sl ho
        simp [go_sem, IntWalk.iteOmega, IntWalk.toNatUp, z2, z3, z4, m34, bkv_one]
        exact ⟨⟨_, rfl, own_mono (own_high ho fun k hk => setRow_other _ _ _ _ (by have := hZ8.lt; omega)) kk.size⟩, below_setRow (kk.trans (hb9.mono kk.size)) (Nat.le_refl _) _⟩
theorem compare_take : ∀ (i : Nat) (x y : List UInt8), i ≤ x.length → i ≤ y.length → x.take i = y.take i → Lib.compareBytes x y = Lib.compareBytes (x.drop i) (y.drop i)
  | 0, x, y, _, _, _ => rfl
  | i + 1, [], y, h, _, _ => by simp at h
  | i + 1, _ :: _, [], _, h, _ => by simp at h
  | i + 1, a :: x, b :: y, h1, h2, h => by
    simp only [List.take_succ_cons, List.cons.injEq] at h
    obtain ⟨rfl, h⟩ := h
    have hh : ¬ a < a := by simp [UInt8.lt_iff_toNat_lt]
    simp only [Lib.compareBytes, hh, if_false, List.drop_succ_cons]
    exact compare_take i x y (by simpa using h1) (by simpa using h2) h
theorem compare_at (x y : List UInt8) (i : Nat) (hx : i < x.length) (hy : i < y.length) (ht : x.take i = y.take i) :
    Lib.compareBytes x y = if byteAt x i < byteAt y i then -1 else if byteAt y i < byteAt x i then 1 else Lib.compareBytes (x.drop (i + 1)) (y.drop (i + 1)) := by
  rw [compare_take i x y (by omega) (by omega) ht, List.drop_eq_getElem_cons hx, List.drop_eq_getElem_cons hy]
  simp only [Lib.compareBytes, byteAt, List.getD, List.getElem?_eq_getElem hx, List.getElem?_eq_getElem hy, Option.getD_some, UInt8.lt_iff_toNat_lt]
theorem compare_self (x : List UInt8) : Lib.compareBytes x x = 0 := by
  induction x with
  | nil => rfl
  | cons a x ih =>
    have hh : ¬ a < a := by simp [UInt8.lt_iff_toNat_lt]
    simp [Lib.compareBytes, hh, ih]
theorem take_same (x y : List UInt8) (i : Nat) (hx : i < x.length) (hy : i < y.length) (ht : x.take i = y.take i) (h : byteAt x i = byteAt y i) : x.take (i + 1) = y.take (i + 1) := by
  rw [List.take_add_one, List.take_add_one, ht, List.getElem?_eq_getElem hx, List.getElem?_eq_getElem hy]
  simp only [byteAt, List.getD, List.getElem?_eq_getElem hx, List.getElem?_eq_getElem hy, Option.getD_some] at h
  rw [UInt8.toNat_inj.1 h]
theorem bytesOf_any (l : List UInt8) (A : Option Addr) (c : Nat) (w : World) (h : Rd w 1 A l.length (bl l)) : (Extern.Bytes.bytesOf (.slice A l.length c)).run Tryz.prog w = .ok ⟨l.toArray⟩ w := by
  have hb : Lib.bytesOf (l.map fun x => (x.toNat : Int)) = l := by simp [Lib.bytesOf, Function.comp_def]
  rcases Nat.eq_zero_or_pos l.length with h0 | hpos
  · obtain rfl := List.length_eq_zero_iff.1 h0
    rcases A with _ | a
    · rfl
    · simp [Extern.Bytes.bytesOf, Extern.Bytes.loadBytes]; rfl
  · obtain ⟨b, o, rfl, hlt, hc⟩ := h.cells hpos
    have hr := Lib.run_loadBytesX (P := Tryz.prog) (w := w) (l.map fun x => (x.toNat : Int)) ⟨b, o, none⟩ .empty (fun j x hj => by
      have h1 : (bl l)[j]? = some (.int .u8 x) := by
        simp only [bl, List.getElem?_map] at hj ⊢
        rcases hl : l[j]? with _ | u
        · rw [hl] at hj; simp at hj
        · rw [hl] at hj; simp at hj; simp [← hj]
      have := hc j _ h1
      rw [show (⟨b, o, none⟩ : Addr).add j = ⟨b, o + j, none⟩ by unfold Addr.add; split <;> simp_all]
      exact this)
    rw [hb, List.length_map] at hr
    simp only [Extern.Bytes.bytesOf]
    rw [hr]
    simp
theorem bytealg_any (x y : List UInt8) (A B : Option Addr) (c d : Nat) (w : World) (hx : Rd w 1 A x.length (bl x)) (hy : Rd w 1 B y.length (bl y)) :
    (callFunc 158 #[.slice A x.length c, .slice B y.length d]).run Tryz.prog w = .ok (.value (.int .i64 (Lib.compareBytes x y))) w := by
  rw [run_callFunc_extern Tryz.func158 (by kernel_rfl) (by kernel_rfl) (by kernel_rfl) (e := Extern.BytealgCompare.compare) (by kernel_rfl)]
  have h : (Extern.BytealgCompare.compare #[.slice A x.length c, .slice B y.length d]).run Tryz.prog w = .ok (.int .i64 (Lib.compareBytes x y)) w := by
    change Sem.run Tryz.prog (do pure (goInt (Extern.BytealgCompare.cmp (← Extern.Bytes.bytesOf (.slice A x.length c)) (← Extern.Bytes.bytesOf (.slice B y.length d))))) w = _
    simp only [Sem.run_bind, Sem.run_pure, Result.andThen, bytesOf_any x A c w hx, bytesOf_any y B d w hy]
    rw [Lib.cmp_eq]
    rfl
  rw [h]; rfl
theorem bytesCompare_any (x y : List UInt8) (A B : Option Addr) (c d : Nat) (w : World) (hx : Rd w 1 A x.length (bl x)) (hy : Rd w 1 B y.length (bl y)) :
    callE Tryz.prog 135 #[.slice A x.length c, .slice B y.length d] w fun v w' => v = .int .i64 (Lib.compareBytes x y) ∧ w' = w := by
  refine calls_E Tryz.func135 rfl rfl rfl (Nat.le_of_ble_eq_true rfl) ?_
  simp [go_sem, IntWalk.iteOmega, IntWalk.toNatUp, bytealg_any x y A B c d w hx hy]
theorem refCompare_any (x y : List UInt8) (w : World) (hx : x.length = 32) (hy : y.length = 32) :
    callE Tryz.prog 108 #[.agg (bl x).toArray, .agg (bl y).toArray] w fun v w' => v = .int .i64 (Lib.compareBytes x y) ∧ Below w.heap.size w w' := by
  have x5 : (bl x).length = 32 := by rw [bl_length, hx]
  have y5 : (bl y).length = 32 := by rw [bl_length, hy]
  refine calls_E Tryz.func108 rfl rfl rfl (Nat.le_of_ble_eq_true rfl) ?_
  simp [go_sem, IntWalk.iteOmega, IntWalk.toNatUp, x5, y5]
  refine W_at fun W hW => ?_
  obtain ⟨b0, b1, hB, hS⟩ := news2 hW
  clear hW
  refine W_loop (fun s wr => ∃ i : Nat, i ≤ 32 ∧ x.take i = y.take i ∧ s 2 = .pointer (some ⟨w.heap.size, 0, none⟩) ∧ s 3 = .pointer (some ⟨w.heap.size + 1, 0, none⟩) ∧ s 5 = .int .i64 i ∧ Below W.heap.size W wr) (fun s _ => 32 - (intOf (s 5)).toNat) ?_ ?_
  · exact ⟨0, by omega, rfl, by simp [go_sem], by simp [go_sem], by simp [go_sem], Below.refl _ _⟩
  · rintro s wr ⟨i, hi, ht, e2, e3, e5, hwr⟩
    have b0' := b0.keep hwr
    have b1' := b1.keep hwr
    have hBw := ext_trans hB hwr
    by_cases hlt : i < 32
    · have hlt' : (i : Int) < 32 := by omega
      have z0 : wr.cell? ⟨w.heap.size, i, none⟩ = some (.int .u8 (byteAt x i)) := by rw [b0'.cell, List.getElem?_toArray, bl_at x i (by omega)]
      have z1 : wr.cell? ⟨w.heap.size + 1, i, none⟩ = some (.int .u8 (byteAt y i)) := by rw [b1'.cell, List.getElem?_toArray, bl_at y i (by omega)]
      have hcmp := compare_at x y i (by omega) (by omega) ht
      simp [go_sem, IntWalk.iteOmega, IntWalk.toNatUp, e5, e2, e3, hlt']
      refine W_still follows (by kernel_rfl) ?_
      by_cases h1 : byteAt x i < byteAt y i
      · rw [if_pos h1] at hcmp
        simp [go_sem, IntWalk.iteOmega, IntWalk.toNatUp, e5, e2, e3, hlt', z0, z1, h1]
        exact ⟨hcmp.symm, hBw.drew⟩
      · simp [go_sem, IntWalk.iteOmega, IntWalk.toNatUp, e5, e2, e3, hlt', z0, z1, h1]
        refine W_still follows (by kernel_rfl) ?_
        rw [if_neg h1] at hcmp
        by_cases h2 : byteAt y i < byteAt x i
        · rw [if_pos h2] at hcmp
          simp [go_sem, IntWalk.iteOmega, IntWalk.toNatUp, e5, e2, e3, hlt', z0, z1, h1, h2]
          exact ⟨hcmp.symm, hBw.drew.drew⟩
        · simp [go_sem, IntWalk.iteOmega, IntWalk.toNatUp, e5, e2, e3, hlt', z0, z1, h1, h2]
          refine roundEnd.mk ⟨i + 1, by omega, take_same x y i (by omega) (by omega) ht (by omega), by simp [go_sem, e2], by simp [go_sem, e3], by simp [go_sem], hwr.drew.drew⟩ ?_
          simp [go_sem, intOf]; omega
    · obtain rfl : i = 32 := by omega
      simp [go_sem, IntWalk.iteOmega, IntWalk.toNatUp, e5, e2, e3]
      rw [List.take_of_length_le (by omega), List.take_of_length_le (by omega)] at ht
      subst ht
      exact ⟨(compare_self x).symm, hBw⟩
theorem shaCompare_any (x y : List UInt8) (w : World) (hx : x.length = 32) (hy : y.length = 32) :
    callE Tryz.prog 100 #[.agg (bl x).toArray, .agg (bl y).toArray] w fun v w' => v = .int .i64 (Lib.compareBytes x y) ∧ Below w.heap.size w w' := by
  have x5 : (bl x).length = 32 := by rw [bl_length, hx]
  have y5 : (bl y).length = 32 := by rw [bl_length, hy]
  refine calls_E Tryz.func100 rfl rfl rfl (Nat.le_of_ble_eq_true rfl) ?_
  simp [go_sem, IntWalk.iteOmega, IntWalk.toNatUp, x5, y5]
  refine W_at fun W hW => ?_
  obtain ⟨b0, b1, hB, hS⟩ := news2 hW
  clear hW
  refine W_plan [(0, true), (1, true), (2, false), (3, true)] follows (by kernel_rfl) ?_
  simp [go_sem, IntWalk.iteOmega, IntWalk.toNatUp, x5, y5]
  have h := bytesCompare_any x y (some ⟨w.heap.size, 0, none⟩) (some ⟨w.heap.size + 1, 0, none⟩) 32 32 W.drew
    ⟨by rw [bl_length]; omega, fun _ => ⟨_, 0, rfl, b0.lt, fun j u hu => by rw [b0.drew.cell]; simpa using hu⟩⟩ ⟨by rw [bl_length]; omega, fun _ => ⟨_, 0, rfl, b1.lt, fun j u hu => by rw [b1.drew.cell]; simpa using hu⟩⟩
  rw [hx, hy] at h
  refine callE_of h ?_
  rintro v w1 ⟨rfl, rfl⟩
  simp [go_sem, IntWalk.iteOmega, IntWalk.toNatUp]
  exact hB.drew
theorem shaLess_any (x y : List UInt8) (w : World) (hx : x.length = 32) (hy : y.length = 32) :
    callE Tryz.prog 56 #[.agg (bl x).toArray, .agg (bl y).toArray] w fun v w' => v = .bool (decide (Lib.compareBytes x y < 0)) ∧ Below w.heap.size w w' := by
  have x5 : (bl x).length = 32 := by rw [bl_length, hx]
  have y5 : (bl y).length = 32 := by rw [bl_length, hy]
  refine calls_E Tryz.func56 rfl rfl rfl (Nat.le_of_ble_eq_true rfl) ?_
  simp [go_sem, IntWalk.iteOmega, IntWalk.toNatUp, x5, y5]
  generalize hW : (w.alloc (.cells (bl x).toArray 27)).alloc (.cells (bl y).toArray 27) = W
  obtain ⟨b0, b1, hB, hS⟩ := news2 hW.symm
  clear hW
  have z0 : readCells W ⟨w.heap.size, 0, none⟩ 0 32 = some (bl x) := readCells_all b0 32 (by simpa using x5)
  have z1 : readCells W ⟨w.heap.size + 1, 0, none⟩ 0 32 = some (bl y) := readCells_all b1 32 (by simpa using y5)
  simp [go_sem, IntWalk.iteOmega, IntWalk.toNatUp, x5, y5, z0, z1]
  refine callE_of (shaCompare_any x y W hx hy) ?_
  rintro v w1 ⟨rfl, hB1⟩
  simp [go_sem, IntWalk.iteOmega, IntWalk.toNatUp]
  exact ext_trans hB hB1
end Go.Proofs.YtdjcjjodbniebaaGreatDoor
namespace Go.Proofs.YtdjcjjodbniebaaGreatDoor
open Go.RowKit
set_option linter.unusedVariables false
theorem opsE_mono {P : Program} {n : Nat} {ops : Array Oper} {K K' : Slots → World → Prop} (hK : ∀ s w, K s w → K' s w) : ∀ (l : List Oper) (s : Slots) (w : World), opsE P n ops K l s w → opsE P n ops K' l s w := by
  intro l
  induction l with
  | nil => intro s w h; exact hK s w h
  | cons o rest ih =>
    intro s w h
    have hrun : resE P (opR P o s w) (fun v w' => opsE P n ops K rest (put n s o.dst v) w') → resE P (opR P o s w) (fun v w' => opsE P n ops K' rest (put n s o.dst v) w') := fun h => resE_mono h fun v w hk => ih _ _ hk
    unfold opsE at h ⊢
    cases hg : o.guard with
    | none => simp only [hg] at h ⊢; exact hrun h
    | some jw =>
      obtain ⟨j, want⟩ := jw
      simp only [hg] at h ⊢
      generalize guardS ops s j = g at h
      cases g with
      | bool b =>
        simp only at h ⊢
        split
        · rename_i e1; rw [if_pos e1] at h; exact hrun h
        · rename_i e1; rw [if_neg e1] at h; exact ih _ _ h
      | _ => simp only at h ⊢; exact ih _ _ h
theorem W_mono {P : Program} {n : Nat} {c : Code} {s : Slots} {w : World} {Q Q' : Exit → Slots → World → Prop} (hQ : ∀ e s w, Q e s w → Q' e s w) (h : W P n c s w Q) : W P n c s w Q' :=
  fun ro ds a hf => wpIn_mono (h ro ds a hf) fun e a' w' ⟨s', hf', hq⟩ => ⟨s', hf', hQ _ _ _ hq⟩
theorem E_mono {P : Program} {n : Nat} : ∀ (c : Code) (s : Slots) (w : World) (Q Q' : Exit → Slots → World → Prop), (∀ e s w, Q e s w → Q' e s w) → E P n c s w Q → E P n c s w Q' := by
  intro c
  induction c with
  | skip => intro s w Q Q' hQ h; exact hQ _ _ _ h
  | label l => intro s w Q Q' hQ h; exact hQ _ _ _ h
  | seq x y ihx ihy =>
    intro s w Q Q' hQ h
    refine ihx _ _ _ _ (fun e s w hq => ?_) h
    cases e with
    | normal => exact ihy _ _ _ _ hQ hq
    | _ => exact hQ _ _ _ hq
  | cond c x y ihx ihy =>
    intro s w Q Q' hQ h
    rcases h with ⟨hc, h⟩ | ⟨hc, h⟩
    · exact .inl ⟨hc, ihx _ _ _ _ hQ h⟩
    · exact .inr ⟨hc, ihy _ _ _ _ hQ h⟩
  | block id c ih =>
    intro s w Q Q' hQ h
    refine ih _ _ _ _ (fun e s w hq => ?_) h
    cases e with
    | exit i =>
      simp only [blockE] at hq ⊢
      split
      · rename_i e1; rw [if_pos e1] at hq; exact hQ _ _ _ hq
      · rename_i e1; rw [if_neg e1] at hq; exact hQ _ _ _ hq
    | _ => exact hQ _ _ _ hq
  | exit id => intro s w Q Q' hQ h; exact hQ _ _ _ h
  | ret => intro s w Q Q' hQ h; exact hQ _ _ _ h
  | region id ops draw =>
    intro s w Q Q' hQ h
    cases draw with
    | true => exact W_mono hQ h
    | false => exact opsE_mono (fun s w h => hQ _ _ _ h) _ _ _ h
  | loop c ih => intro s w Q Q' hQ h; exact W_mono hQ h
  | rangeFunc f p x y ihx ihy => intro s w Q Q' hQ h; exact W_mono hQ h
  | goto l => intro s w Q Q' hQ h; exact W_mono hQ h
  | scope c ih =>
    intro s w Q Q' hQ h
    refine ih _ _ _ _ (fun e s w hq => ?_) h
    cases e with
    | goto l => exact hq.elim
    | _ => exact hQ _ _ _ hq
  | refuse y => intro s w Q Q' hQ h; exact W_mono hQ h
def atCut [b : Box (Slots → World → Prop)] (s : Slots) (w : World) : Prop := b.of s w
theorem atCut.mk {I : Slots → World → Prop} {s : Slots} {w : World} (h : I s w) : @atCut ⟨I⟩ s w := h
theorem atCut_congr {b : Box (Slots → World → Prop)} {s : Slots} {w w' : World} (h : w = w') : @atCut b s w = @atCut b s w' := by rw [h]
def cutE [b : Box (Slots → World → Prop)] (Q : Exit → Slots → World → Prop) : Exit → Slots → World → Prop
  | .normal, s, w => atCut s w
  | e, s, w => Q e s w
theorem cutE_congr {b : Box (Slots → World → Prop)} {Q : Exit → Slots → World → Prop} {e : Exit} {s : Slots} {w w' : World} (h : w = w') : @cutE b Q e s w = @cutE b Q e s w' := by rw [h]
attribute [congr] atCut_congr cutE_congr
section
variable (b : Box (Slots → World → Prop)) (Q : Exit → Slots → World → Prop) (s : Slots) (w : World)
@[go_sem] theorem cutE_normal : @cutE b Q .normal s w = @atCut b s w := propext Iff.rfl
@[go_sem] theorem cutE_exit (i : Nat) : @cutE b Q (.exit i) s w = Q (.exit i) s w := propext Iff.rfl
@[go_sem] theorem cutE_ret : @cutE b Q .ret s w = Q .ret s w := propext Iff.rfl
end
theorem condC_cut {P : Program} {n : Nat} {v : Value} {x y : Code} {s : Slots} {w : World} {Q : Exit → Slots → World → Prop} (I : Slots → World → Prop) (h1 : condC P n v x y s w (@cutE ⟨I⟩ Q)) (h2 : ∀ s w, I s w → Q .normal s w) : condC P n v x y s w Q := by
  have hm : ∀ e s w, @cutE ⟨I⟩ Q e s w → Q e s w := fun e s w h => by
    cases e with
    | normal => exact h2 s w h
    | _ => exact h
  rcases h1 with ⟨hc, h⟩ | ⟨hc, h⟩
  · exact .inl ⟨hc, E_mono _ _ _ _ _ hm h⟩
  · exact .inr ⟨hc, E_mono _ _ _ _ _ hm h⟩
theorem condN_cut {P : Program} {n i : Nat} {x y : Code} {s : Slots} {w : World} {Q : Exit → Slots → World → Prop} (I : Slots → World → Prop) (h1 : condN P n i x y s w (@cutE ⟨I⟩ Q)) (h2 : ∀ s w, I s w → Q .normal s w) : condN P n i x y s w Q := by
  have hm : ∀ e s w, @cutE ⟨I⟩ Q e s w → Q e s w := fun e s w h => by
    cases e with
    | normal => exact h2 s w h
    | _ => exact h
  unfold condN at h1 ⊢
  split
  · rename_i e; rw [if_pos e] at h1; exact E_mono _ _ _ _ _ hm h1
  · rename_i e; rw [if_neg e] at h1; exact E_mono _ _ _ _ _ hm h1
theorem W_cutE {P : Program} {n : Nat} {c : Code} {s : Slots} {w : World} {Q : Exit → Slots → World → Prop} (I : Slots → World → Prop) (h1 : W P n c s w (@cutE ⟨I⟩ Q)) (h2 : ∀ s w, I s w → Q .normal s w) : W P n c s w Q :=
  W_mono (fun e s w h => by
    cases e with
    | normal => exact h2 s w h
    | _ => exact h) h1
end Go.Proofs.YtdjcjjodbniebaaGreatDoor
namespace Go.Proofs.YtdjcjjodbniebaaGreatDoor
open Go.RowKit
set_option linter.unusedVariables false
set_option linter.unusedSimpArgs false
set_option maxRecDepth 10000
theorem Cubes.keeps {w w' : World} {O : Nat → Prop} (h : Cubes w) (hk : Keeps (fun j => ¬ O j) w w') (h0 : ¬ O 0) : Cubes w' := fun t ht => (hk.cell (p := ⟨0, t, none⟩) h.pos h0).trans (h t ht)
theorem parse_ok {l : List UInt8} (h : (parseB l).2 = 0) : BkOk (parseB l).1 ∧ checkB (parseB l).1 = 0 := by
  unfold parseB at h ⊢
  split at h
  · simp at h
  · rename_i h1
    rw [if_neg h1]
    split at h
    · simp at h
    · rename_i h2
      rw [if_neg h2]
      unfold madeB at h ⊢
      split at h
      · rename_i h3
        rw [if_pos h3]
        have h4 : pEnd l = 0 := Decidable.byContradiction fun h => h2 (.inl h)
        have h5 : pHei l ≤ 9223372036854775807 := Nat.not_lt.1 fun h => h2 (.inr (.inr h))
        exact ⟨pBk_ok h4 h5, h3⟩
      · simp at h
theorem parse_bk (l : List UInt8) : BkOk (parseB l).1 := by
  by_cases h : (parseB l).2 = 0
  · exact (parse_ok h).1
  · have e : (parseB l).1 = zeroBk := by
      unfold parseB at h ⊢
      split
      · rfl
      · rename_i h1
        rw [if_neg h1] at h
        split
        · rfl
        · rename_i h2
          rw [if_neg h2] at h
          unfold madeB at h ⊢
          split
          · rename_i h3
            rw [if_pos h3] at h
            simp at h
          · rfl
    rw [e]
    exact zeroBk_ok
theorem parse_short {l : List UInt8} (h : (parseB l).2 = 0) : l.length ≤ 246 := by
  unfold parseB at h
  split at h
  · simp at h
  · omega
theorem FIn.lenK {w : World} {O : Nat → Prop} {f : Nat} {S : FS} {tv : Value} {rk ra ro : Nat} {vs : List Value} {K : List (List UInt8 × Bk × Value)} (h : FIn w O f S tv rk ra ro vs K) : (Builtin.len_ #[68] 3 #[.map (some rk)]).run Tryz.prog w = .ok (.int .i64 S.kept.length) w := by
  obtain ⟨es, c, h1, h2, _⟩ := id h.mpk
  have hl : es.size = S.kept.length := by
    have := congrArg List.length h2
    have hk := congrArg List.length h.kept
    simp [keptL] at this hk
    omega
  rw [← hl]
  simp [Builtin.len_, run_underlying Tryz.underlying68, MapKept.run_getObj_map h1, goInt, Result.andThen]
def gotBad (id : List UInt8) (ahead : List Bk) (name : List UInt8) (b : Bk) : Prop := name ≠ id ∧ (ahead = [] ∨ ∃ c, ahead.getLast? = some c ∧ linkedB c b ≠ 0)
open Classical in
noncomputable def gotL (id : List UInt8) : List (List UInt8) → FS → List Bk → FS × List Bk × Bool
  | [], S, ahead => (S, ahead, false)
  | raw :: rest, S, ahead =>
    if (parseB raw).2 ≠ 0 then (S, ahead, false)
    else if gotBad id ahead (sha raw) (parseB raw).1 then (S, ahead, false)
    else if keptOf S (sha raw) ≠ none ∨ sha raw = S.last then (S, ahead, false)
    else if S.room ≤ S.kept.length then (S, ahead, true)
    else gotL id rest { S with kept := S.kept ++ [(sha raw, (parseB raw).1)] } (ahead ++ [(parseB raw).1])
open Classical in
theorem gotL_cons (id raw : List UInt8) (rest : List (List UInt8)) (S : FS) (ahead : List Bk) : gotL id (raw :: rest) S ahead = if (parseB raw).2 ≠ 0 then (S, ahead, false)
    else if gotBad id ahead (sha raw) (parseB raw).1 then (S, ahead, false)
    else if keptOf S (sha raw) ≠ none ∨ sha raw = S.last then (S, ahead, false)
    else if S.room ≤ S.kept.length then (S, ahead, true)
    else gotL id rest { S with kept := S.kept ++ [(sha raw, (parseB raw).1)] } (ahead ++ [(parseB raw).1]) := by
  conv => lhs; unfold gotL
theorem gotL_nil (id : List UInt8) (S : FS) (ahead : List Bk) : gotL id [] S ahead = (S, ahead, false) := rfl
noncomputable def gotE (r : FS × List Bk × Bool) : Int × Int := if r.2.1 ≠ [] then (r.2.1.length, 0) else if r.2.2 = true then (0, 6) else (0, 8)
noncomputable def gotF (S : FS) (id : List UInt8) (raws : List (List UInt8)) : (Int × Int) × FS :=
  if askedB S.asked id = true then (gotE (gotL id (raws.take 16) { S with asked := delB id S.asked } []), (gotL id (raws.take 16) { S with asked := delB id S.asked } []).1) else ((0, 4), S)
theorem RdB.on {w w' : World} {N : Nat → Prop} {v : Value} {l : List UInt8} (h : RdB w v l) (hk : Keeps N w w') (hN : ∀ A n c, v = .slice A n c → ∀ j, atB n A j → N j) : RdB w' v l := by
  obtain ⟨A, c, rfl, h1, h2⟩ := h
  exact ⟨A, c, rfl, Rd_on h1 hk (hN _ _ _ rfl), h2⟩
section
variable {w w' : World} {O O' : Nat → Prop} {f : Nat} {S : FS} {tv : Value} {rk ra ro : Nat} {vs : List Value} {K : List (List UInt8 × Bk × Value)}
theorem FIn.lift {w0 w1 w2 : World} (h : FIn w2 (Since O w0 w1) f S tv rk ra ro vs K) (hs : w1.heap.size ≤ w2.heap.size) (h0 : 0 < w0.heap.size) : FIn w2 (Since O w0 w2) f S tv rk ra ro vs K :=
  h.mono (fun j hj => hj.imp (fun h => h) fun h => ⟨h.1, Nat.lt_of_lt_of_le h.2 hs⟩) (fun j hj => hj.elim (fun h' => h.lt j (.inl h')) fun h => h.2) (fun hj => hj.elim (fun h' => h.zero (.inl h')) fun h => by omega)
theorem FIn.offRow (h : FIn w O f S tv rk ra ro vs K) {B e size n : Nat} {v : Value} {xs : List Value} (hov : w.ownsRow B e size v n xs) (h1 : e ≠ 72) (h2 : e ≠ 97) (h3 : e ≠ 3) (h4 : e ≠ 5) (hg : w.grownBy w' v.ownBlock) : FIn w' O f S tv rk ra ro vs K := by
  have hk : Keeps (fun j => v.ownBlock ≠ some j) w w' := Keeps.grown hg fun k hk h => h hk
  have hm : ∀ {r L}, MpI w r L → MpI w' r L := fun hm => hm.keeps hk (row_map hov hm)
  exact ⟨h.of, h.ok, h.oa, h.oo, h.ka, h.ko, h.ao, fun j hj => Nat.lt_of_lt_of_le (h.lt j hj) hk.size, h.zero, hk.blk h.blk (row_ne hov h.blk h1), row_keeps h.row hk (fun j hj e => rows_ne hov h.row h2 j e hj), h.orow,
    ⟨h.rows.len, fun i u m hu hm => ⟨row_keeps (h.rows.at_ i u m hu hm).1 hk (fun j hj e => rows_ne hov (h.rows.at_ i u m hu hm).1 h3 j e hj), (h.rows.at_ i u m hu hm).2⟩, h.rows.apart⟩, h.kept, hm h.mpk,
    fun x hx => ⟨(h.dat x hx).1, row_keeps (h.dat x hx).2.1 hk (fun j hj e => rows_ne hov (h.dat x hx).2.1 h4 j e hj), (h.dat x hx).2.2⟩, hm h.ma, hm h.mo⟩
theorem FIn.addK (h : FIn w O f S tv rk ra ro vs K) (hk : Keeps (fun j => j ≠ rk) w w') {name : List UInt8} {b : Bk} {dv : Value} (hm : MpI w' rk (putId name (.agg (bkv b dv).toArray) (keptL K))) (hn : keptOf S name = none) (hbo : BkOk b)
    (hd : w.ownsRow 0 5 1 dv b.data.length (bl b.data)) (hdO : ∀ j, dv.ownBlock = some j → O j) : FIn w' O f { S with kept := S.kept ++ [(name, b)] } tv rk ra ro vs (K ++ [(name, b, dv)]) := by
  obtain ⟨h1, h2, h3, h4, h5, h6⟩ := h.rest h.mpk hk
  have hl := h.look name
  rw [hn] at hl
  have hat : atId name (keptL K) = none := hl
  have hm' : MpI w' rk (keptL (K ++ [(name, b, dv)])) := by
    rw [putId_new hat] at hm
    simpa [keptL] using hm
  refine ⟨h.of, h.ok, h.oa, h.oo, h.ka, h.ko, h.ao, h6, h.zero, h1, h2, h.orow, h3, ?_, hm', fun x hx => ?_, h5 _ _ (Ne.symm h.ka) h.ma, h5 _ _ (Ne.symm h.ko) h.mo⟩
  · rw [List.map_append, h.kept]
    rfl
  · rcases List.mem_append.1 hx with hx | hx
    · exact h4 x hx
    · obtain rfl : x = (name, b, dv) := by simpa using hx
      exact ⟨hbo, row_keeps hd hk (fun j hj e => row_map hd h.mpk (e ▸ hj)), hdO⟩
end
theorem FOk.addK {S : FS} (h : FOk S) {name : List UInt8} {b : Bk} (hn : ¬ S.room ≤ S.kept.length) (hb : BkOk b ∧ checkB b = 0) : FOk { S with kept := S.kept ++ [(name, b)] } :=
  ⟨h.last, h.hlo, h.hhi, h.room, h.tsn, h.ts, by have := h.room.2; simp; omega, fun x hx => by
    rcases List.mem_append.1 hx with hx | hx
    · exact h.kept x hx
    · obtain rfl : x = (name, b) := by simpa using hx
      exact hb⟩
theorem FOk.asked_ {S : FS} (h : FOk S) (L : List (List UInt8 × Bool)) : FOk { S with asked := L } := ⟨h.last, h.hlo, h.hhi, h.room, h.tsn, h.ts, h.keptn, h.kept⟩
end Go.Proofs.YtdjcjjodbniebaaGreatDoor
