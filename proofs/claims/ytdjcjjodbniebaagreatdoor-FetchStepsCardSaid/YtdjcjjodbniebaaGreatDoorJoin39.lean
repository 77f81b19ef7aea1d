/-
  Texts joined: FSteps.
-/
import Derived.Test.YtdjcjjodbniebaaGreatDoorJoin38
namespace Go.Proofs.YtdjcjjodbniebaaGreatDoor
open Go.RowKit
set_option linter.unusedVariables false
set_option linter.unusedSimpArgs false
set_option maxRecDepth 10000
theorem u8_mod (n : UInt8) (k : Nat) (hk : 0 < k) : (n.toNat : Int).tmod k = ((n.toNat % k : Nat) : Int) := by
  rw [Int.tmod_eq_emod_of_nonneg (by omega)]
  omega
theorem row0_at {n r : Nat} (hr : r ≤ n) : (firstB :: rowL 5 n firstB)[r]? = some (qB 5 r) := by
  cases r with
  | zero => rfl
  | succ r => rw [List.getElem?_cons_succ]; exact row_at (by omega)
theorem blk_grown {w w' : World} {g h : Nat} {t : TypeId} {cs : Array Value} (hb : Blk w h t cs) (hg : w.grownBy w' (some g)) (hne : h ≠ g) : Blk w' h t cs :=
  (hg.block h hb.lt fun e => hne (by injection e)).trans hb
def dataQ (w : World) (h : Nat) (dv : Value) (d : List UInt8) : Prop := RdB w dv d ∧ ∀ A n c, dv = .slice A n c → ∀ j, atB n A j → j ≠ h
theorem far_lt {w : World} {h : Nat} {dv : Value} {d : List UInt8} (hd : RdB w dv d) (hh : w.heap.size ≤ h) : ∀ A n c, dv = .slice A n c → ∀ j, atB n A j → j ≠ h := by
  intro A n c e j hj
  obtain ⟨A', c', e', hr, -⟩ := hd
  rw [e'] at e
  injection e with e1 e2 e3
  subst e1 e2 e3
  have := atB_lt hr hj
  omega
set_option maxHeartbeats 12800000 in
theorem steps_any {w : World} (hC : Cubes w) {n root many : UInt8} {fv : Value} {fails : List UInt8} (hf : RdB w fv fails) :
    callE Tryz.prog 3 #[.int .u8 n.toNat, .int .u8 root.toNat, .int .u8 many.toNat, fv] w fun r w' => r = .bool true ∧ Below w.heap.size w w' := by
  have hpos := hC.pos
  obtain ⟨m0, hm0⟩ : ∃ m0, m0 = n.toNat % 40 := ⟨_, rfl⟩
  obtain ⟨m, hm⟩ : ∃ m, m = 1 + m0 := ⟨_, rfl⟩
  have hm1 : 1 ≤ m := by omega
  have hm40 : m ≤ 40 := by omega
  have hq : QRow (qB 5) m := q5_row.mono hm40
  have hlen := row_len m
  obtain ⟨r, hr⟩ : ∃ r, r = root.toNat % m := ⟨_, rfl⟩
  have hrm : r < m := by rw [hr]; exact Nat.mod_lt _ (by omega)
  obtain ⟨t, ht⟩ : ∃ t, t = 1 + many.toNat % 16 := ⟨_, rfl⟩
  have ht1 : 1 ≤ t := by omega
  have ht16 : t ≤ 16 := by omega
  have v1 : (n.toNat : Int).tmod 40 = (m0 : Int) := by rw [hm0]; exact u8_mod n 40 (by decide)
  have v2 : IntKind.i64.wrap (m0 : Int) = (m0 : Int) := by rw [wrap_i64_if, if_pos (by omega)]
  have v3 : IntKind.i64.wrap (1 + (m0 : Int)) = (m : Int) := by rw [wrap_i64_if, if_pos (by omega)]; omega
  obtain ⟨fA, fc, rfl, -⟩ := id hf
  refine calls_E Tryz.func3 rfl rfl rfl (Nat.le_of_ble_eq_true rfl) ?_
  simp [go_sem, IntWalk.iteOmega, IntWalk.toNatUp]
  refine callE_of (begun_any hC) ?_
  rintro _ w1 ⟨rfl, k1⟩
  simp [go_sem, IntWalk.iteOmega, IntWalk.toNatUp]
  refine callE_of (lfirst_any w1) ?_
  rintro _ w2 ⟨rfl, hd2, k2⟩
  have k02 := k1.trans (k2.mono k1.size)
  simp [go_sem, IntWalk.iteOmega, IntWalk.toNatUp, v1, v2, v3]
  refine callE_of (row_any' firstB_ok hd2 m (by omega) 5 m 5 rfl rfl) ?_
  rintro lv w3 ⟨hl3, k3⟩
  have k03 := k02.trans (k3.mono k02.size)
  obtain ⟨-, lA, lc, rfl⟩ := own_sl (id hl3).choose_spec.2.1
  simp [go_sem, IntWalk.iteOmega, IntWalk.toNatUp]
  rw [hlen]
  refine W_cutE (fun s wr => ∃ g dv, s 3 = .slice fA fails.length fc ∧ s 2 = .int .u8 many.toNat ∧ s 9 = .slice lA m lc ∧ s 10 = .pointer (some ⟨g, 0, none⟩) ∧ Blk wr g 29 (bkv (qB 5 r) dv).toArray ∧ RdB wr dv (qB 5 r).data ∧ Below w3.heap.size w3 wr) ?_ ?_
  · refine W_flow (fun g => g < w3.heap.size) (.pure 2 (.pure 4 (.pure 5 (.pure 6 (.pure 7 (.pure 8 (.two 0 (.two 1 (.two 3 (.pure 9 (.two 10 (.one 11 (.one 12 (.done))) 11 (.one 10 (.one 12 (.done))))) 11 (.one 3 (.pure 9 (.one 10 (.one 12 (.done)))))) 11 (.one 1 (.one 3 (.pure 9 (.one 10 (.one 12 (.done))))))) 11 (.one 0 (.one 1 (.one 3 (.pure 9 (.one 10 (.one 12 (.done)))))))))))))) follows (by kernel_rfl) ?_
    have hq3 := held_refl (fun g => g < w3.heap.size) w3.drew
    have v4 : IntKind.i64.wrap (root.toNat : Int) = (root.toNat : Int) := by rw [wrap_i64_if, if_pos (by have := root.toNat_lt; omega)]
    have v5 : (root.toNat : Int).tmod (m : Int) = (r : Int) := by rw [hr]; exact u8_mod root m (by omega)
    simp [go_sem, IntWalk.iteOmega, IntWalk.toNatUp, hq3, hlen, v4, v5]
    have k03d := k03.drew
    have k33 : Below w3.heap.size w3 w3.drew := ext_drew w3
    obtain ⟨A_, c_, xs, exs, hxm, hxr, -, -, hxo⟩ := hl3.rd.keep k33
    injection exs with ex1 ex2 ex3
    subst ex1 ex3
    rw [hlen] at hxr
    have hsd : w3.heap.size = w3.drew.heap.size := rfl
    have hlen1 : (firstB :: rowL 5 m firstB).length = m + 1 := by rw [List.length_cons, hlen]
    generalize hv3 : w3.drew = v3 at *
    refine ⟨?_, ?_⟩
    · have k3v : Below v3.heap.size v3 v3 := Below.refl _ _
      refine callE_of (lfirst_any v3) ?_
      rintro _ w5 ⟨rfl, hd5, k5⟩
      have k35 : Below v3.heap.size v3 w5 := k3v.trans (k5.mono k3v.size)
      have hq5 := hq3.below k35
      generalize hfv : (Value.slice (some ⟨v3.heap.size + 1, 0, none⟩) 1 1) = fv at *
      have l34 : (bkv firstB fv).length = 34 := bkv_len firstB_ok.len
      have hqa : ∀ o, heldE (fun g => g < w3.heap.size) v3 (w5.alloc o) := fun o => hq5.alloc o
      have hqaa : ∀ o o', heldE (fun g => g < w3.heap.size) v3 ((w5.alloc o).alloc o') := fun o o' => (hq5.alloc o).alloc o'
      simp [go_sem, IntWalk.iteOmega, IntWalk.toNatUp, hq5, hqa, hqaa, l34]
      rw [fold_bk (bkv firstB fv) l34, ← zeroB_lit]
      refine ⟨⟨?_, ?_⟩, ?_⟩
      · have kA : Below w5.heap.size w5 (w5.alloc (.cells (bkv firstB fv).toArray 29)) := ext_alloc _ _
        have hgB : Blk (w5.alloc (.cells (bkv firstB fv).toArray 29)) w5.heap.size 29 (bkv firstB fv).toArray := Blk.self_ rfl
        generalize w5.alloc (.cells (bkv firstB fv).toArray 29) = wA at *
        refine app_firstQ kA hgB (by omega) firstB_ok hxm hlen (hxr.keep k35) (fun x hx => ⟨(hxo x hx).1, (hxo x hx).2.keep k35⟩) (by omega) (RdB w5) hd5 (fun x hx => (hxo x hx).2.keep k35) ?_
        rintro _ w6 lb lo c6 rfl hlb hat k56 hg6
        have k36 : Below v3.heap.size v3 w6 := k35.trans (k56.mono k35.size)
        have hq6 := hq3.below k36
        have hr1 : r < (firstB :: rowL 5 m firstB).length := by rw [hlen1]; omega
        obtain ⟨dv, hokr, hdv, hrd⟩ := hat r hr1
        have her : (firstB :: rowL 5 m firstB)[r] = qB 5 r := by
          have h1 := row0_at (n := m) (Nat.le_of_lt hrm)
          rw [List.getElem?_eq_getElem hr1] at h1
          exact Option.some.inj h1
        rw [her] at hokr hdv hrd
        have hrm1 : r < m + 1 := by omega
        have hrm2 : (r : Int) < (m : Int) + 1 := by omega
        have l34r : (bkv (qB 5 r) dv).length = 34 := bkv_len hokr.len
        obtain ⟨dA, dc, edv, -⟩ := id hdv
        have hone : allOne (bkv (qB 5 r) dv) = true := by rw [edv]; exact bkv_one _ _ _ _
        have x6 := hrd w6 (Below.refl _ _)
        have x6a : ∀ o, readCells (w6.alloc o) ⟨lb, lo + r * 34, none⟩ 0 34 = some (bkv (qB 5 r) dv) := fun o => hrd _ (ext_alloc w6 o)
        have hqb : ∀ o, heldE (fun g => g < w3.heap.size) v3 (w6.alloc o) := fun o => hq6.alloc o
        have hs36 : w3.heap.size ≤ w6.heap.size := by have := k36.size; omega
        have hqs : ∀ o cs, heldE (fun g => g < w3.heap.size) v3 ((w6.alloc o).setRow w6.heap.size cs) := fun o cs => (hq6.alloc o).row cs (by omega)
        have y2 : ∀ (k : Array Value) (t : TypeId), k.size = 34 → canWrite (w6.alloc (.cells k t)) ⟨w6.heap.size, 0, none⟩ 0 34 = true := fun k t hk => canWrite_all (Blk.self_ rfl) 34 hk
        have y3 : ∀ (k : Array Value) (t : TypeId) (l : List Value), k.size = 34 → l.length = 34 → storeSeg (w6.alloc (.cells k t)) ⟨w6.heap.size, 0, none⟩ 0 l = (w6.alloc (.cells k t)).setRow w6.heap.size l.toArray := fun k t l hk hl => storeSeg_all (Blk.self_ rfl) l (by omega)
        simp [go_sem, IntWalk.iteOmega, IntWalk.toNatUp, hlen1, hq6, hqb, hqs, hrm1, hrm2, x6, x6a, hone, l34r, y2, y3, v4, v5]
        rw [← zeroB_lit]
        have kE : Below w6.heap.size w6 ((w6.alloc (.cells zeroB.toArray 29)).setRow w6.heap.size (bkv (qB 5 r) dv).toArray) := below_setRow (ext_alloc w6 _) (Nat.le_refl _) _
        refine ⟨?_, ?_⟩ <;>
        refine atCut.mk ⟨w6.heap.size, dv, by simp [go_sem], by simp [go_sem], by simp [go_sem], by simp [go_sem], Blk_setRow (Blk.self_ rfl), (hdv.keep k56).keep kE, k33.trans ((k36.trans (kE.mono k36.size)).mono k33.size)⟩
      · have kA : Below w5.heap.size w5 ((w5.alloc (.cells (bkv firstB fv).toArray 29)).alloc (.cells zeroB.toArray 29)) := ext_trans (ext_alloc _ _) (ext_alloc _ _)
        have hgB : Blk ((w5.alloc (.cells (bkv firstB fv).toArray 29)).alloc (.cells zeroB.toArray 29)) w5.heap.size 29 (bkv firstB fv).toArray := (Blk.self_ rfl).more _
        have hZ : Blk ((w5.alloc (.cells (bkv firstB fv).toArray 29)).alloc (.cells zeroB.toArray 29)) (w5.heap.size + 1) 29 zeroB.toArray := Blk.self_ (by simp)
        have hs35 := k35.size
        generalize (w5.alloc (.cells (bkv firstB fv).toArray 29)).alloc (.cells zeroB.toArray 29) = wA at *
        refine app_firstQ kA hgB (by omega) firstB_ok hxm hlen (hxr.keep k35) (fun x hx => ⟨(hxo x hx).1, (hxo x hx).2.keep k35⟩) (by omega) (dataQ w5 (w5.heap.size + 1)) (And.intro hd5 (far_lt hd5 (by omega))) (fun x hx => And.intro ((hxo x hx).2.keep k35) (far_lt ((hxo x hx).2.keep k35) (by omega))) ?_
        rintro _ w6 lb lo c6 rfl hlb hat k56 hg6
        have k36 : Below v3.heap.size v3 w6 := k35.trans (k56.mono k35.size)
        have hq6 := hq3.below k36
        have hr1 : r < (firstB :: rowL 5 m firstB).length := by rw [hlen1]; omega
        obtain ⟨dv, hokr, hdv, hrd⟩ := hat r hr1
        have her : (firstB :: rowL 5 m firstB)[r] = qB 5 r := by
          have h1 := row0_at (n := m) (Nat.le_of_lt hrm)
          rw [List.getElem?_eq_getElem hr1] at h1
          exact Option.some.inj h1
        rw [her] at hokr hdv hrd
        have hrm1 : r < m + 1 := by omega
        have hrm2 : (r : Int) < (m : Int) + 1 := by omega
        have l34r : (bkv (qB 5 r) dv).length = 34 := bkv_len hokr.len
        obtain ⟨dA, dc, edv, -⟩ := id hdv.1
        have hone : allOne (bkv (qB 5 r) dv) = true := by rw [edv]; exact bkv_one _ _ _ _
        have x6 := hrd w6 (Below.refl _ _)
        have hZ6 : Blk w6 (w5.heap.size + 1) 29 zeroB.toArray := blk_grown hZ hg6 (by omega)
        have hlo : w3.heap.size ≤ (w5.heap.size + 1) := by omega
        have hqs : ∀ cs, heldE (fun g => g < w3.heap.size) v3 (w6.setRow (w5.heap.size + 1) cs) := fun cs => hq6.row cs (by omega)
        have y2 : canWrite w6 ⟨w5.heap.size + 1, 0, none⟩ 0 34 = true := canWrite_all hZ6 34 rfl
        have y3 : ∀ (l : List Value), l.length = 34 → storeSeg w6 ⟨w5.heap.size + 1, 0, none⟩ 0 l = w6.setRow (w5.heap.size + 1) l.toArray := fun l hl => storeSeg_all hZ6 l (by rw [hl]; rfl)
        simp [go_sem, IntWalk.iteOmega, IntWalk.toNatUp, hlen1, hq6, hqs, hrm1, hrm2, x6, hone, l34r, y2, y3, v4, v5]
        have kE : Below v3.heap.size w6 (w6.setRow (w5.heap.size + 1) (bkv (qB 5 r) dv).toArray) := below_setRow ((Below.refl _ _).mono k36.size) (by omega) _
        refine atCut.mk ⟨w5.heap.size + 1, dv, by simp [go_sem], by simp [go_sem], by simp [go_sem], by simp [go_sem], Blk_setRow hZ6, hdv.1.on ((Keeps.of_ext k56).trans (Keeps.setRow _ _ _ (fun h => h rfl))) hdv.2, k33.trans ((k36.trans kE).mono k33.size)⟩
      · have kA : Below w5.heap.size w5 ((w5.alloc (.cells zeroB.toArray 29)).alloc (.cells (bkv firstB fv).toArray 29)) := ext_trans (ext_alloc _ _) (ext_alloc _ _)
        have hgB : Blk ((w5.alloc (.cells zeroB.toArray 29)).alloc (.cells (bkv firstB fv).toArray 29)) (w5.heap.size + 1) 29 (bkv firstB fv).toArray := Blk.self_ (by simp)
        have hZ : Blk ((w5.alloc (.cells zeroB.toArray 29)).alloc (.cells (bkv firstB fv).toArray 29)) w5.heap.size 29 zeroB.toArray := (Blk.self_ rfl).more _
        have hs35 := k35.size
        generalize (w5.alloc (.cells zeroB.toArray 29)).alloc (.cells (bkv firstB fv).toArray 29) = wA at *
        refine app_firstQ kA hgB (by omega) firstB_ok hxm hlen (hxr.keep k35) (fun x hx => ⟨(hxo x hx).1, (hxo x hx).2.keep k35⟩) (by omega) (dataQ w5 (w5.heap.size)) (And.intro hd5 (far_lt hd5 (by omega))) (fun x hx => And.intro ((hxo x hx).2.keep k35) (far_lt ((hxo x hx).2.keep k35) (by omega))) ?_
        rintro _ w6 lb lo c6 rfl hlb hat k56 hg6
        have k36 : Below v3.heap.size v3 w6 := k35.trans (k56.mono k35.size)
        have hq6 := hq3.below k36
        have hr1 : r < (firstB :: rowL 5 m firstB).length := by rw [hlen1]; omega
        obtain ⟨dv, hokr, hdv, hrd⟩ := hat r hr1
        have her : (firstB :: rowL 5 m firstB)[r] = qB 5 r := by
          have h1 := row0_at (n := m) (Nat.le_of_lt hrm)
          rw [List.getElem?_eq_getElem hr1] at h1
          exact Option.some.inj h1
        rw [her] at hokr hdv hrd
        have hrm1 : r < m + 1 := by omega
        have hrm2 : (r : Int) < (m : Int) + 1 := by omega
        have l34r : (bkv (qB 5 r) dv).length = 34 := bkv_len hokr.len
        obtain ⟨dA, dc, edv, -⟩ := id hdv.1
        have hone : allOne (bkv (qB 5 r) dv) = true := by rw [edv]; exact bkv_one _ _ _ _
        have x6 := hrd w6 (Below.refl _ _)
        have hZ6 : Blk w6 (w5.heap.size) 29 zeroB.toArray := blk_grown hZ hg6 (by omega)
        have hlo : w3.heap.size ≤ (w5.heap.size) := by omega
        have hqs : ∀ cs, heldE (fun g => g < w3.heap.size) v3 (w6.setRow (w5.heap.size) cs) := fun cs => hq6.row cs (by omega)
        have y2 : canWrite w6 ⟨w5.heap.size, 0, none⟩ 0 34 = true := canWrite_all hZ6 34 rfl
        have y3 : ∀ (l : List Value), l.length = 34 → storeSeg w6 ⟨w5.heap.size, 0, none⟩ 0 l = w6.setRow (w5.heap.size) l.toArray := fun l hl => storeSeg_all hZ6 l (by rw [hl]; rfl)
        simp [go_sem, IntWalk.iteOmega, IntWalk.toNatUp, hlen1, hq6, hqs, hrm1, hrm2, x6, hone, l34r, y2, y3, v4, v5]
        have kE : Below v3.heap.size w6 (w6.setRow (w5.heap.size) (bkv (qB 5 r) dv).toArray) := below_setRow ((Below.refl _ _).mono k36.size) (by omega) _
        refine atCut.mk ⟨w5.heap.size, dv, by simp [go_sem], by simp [go_sem], by simp [go_sem], by simp [go_sem], Blk_setRow hZ6, hdv.1.on ((Keeps.of_ext k56).trans (Keeps.setRow _ _ _ (fun h => h rfl))) hdv.2, k33.trans ((k36.trans kE).mono k33.size)⟩
    · rw [← zeroB_lit]
      have kz : Below v3.heap.size v3 (w3.alloc (.cells zeroB.toArray 29)).drew := hv3 ▸ ext_alloc v3 (.cells zeroB.toArray 29)
      have hZ3 : Blk (w3.alloc (.cells zeroB.toArray 29)).drew w3.heap.size 29 zeroB.toArray := Blk.drew (Blk.self_ rfl)
      have hq3z := hq3.below kz
      generalize (w3.alloc (.cells zeroB.toArray 29)).drew = vz at *
      refine ⟨hq3z, ?_⟩
      have k3v := kz
      refine callE_of (lfirst_any vz) ?_
      rintro _ w5 ⟨rfl, hd5, k5⟩
      have k35 : Below v3.heap.size v3 w5 := k3v.trans (k5.mono k3v.size)
      have hq5 := hq3.below k35
      generalize hfv : (Value.slice (some ⟨vz.heap.size + 1, 0, none⟩) 1 1) = fv at *
      have l34 : (bkv firstB fv).length = 34 := bkv_len firstB_ok.len
      have hqa : ∀ o, heldE (fun g => g < w3.heap.size) v3 (w5.alloc o) := fun o => hq5.alloc o
      have hqaa : ∀ o o', heldE (fun g => g < w3.heap.size) v3 ((w5.alloc o).alloc o') := fun o o' => (hq5.alloc o).alloc o'
      have hZ5 := hZ3.keep k5
      simp [go_sem, IntWalk.iteOmega, IntWalk.toNatUp, hq5, hqa, hqaa, l34]
      rw [fold_bk (bkv firstB fv) l34]
      have kA : Below w5.heap.size w5 (w5.alloc (.cells (bkv firstB fv).toArray 29)) := ext_alloc _ _
      have hgB : Blk (w5.alloc (.cells (bkv firstB fv).toArray 29)) w5.heap.size 29 (bkv firstB fv).toArray := Blk.self_ rfl
      have hZ := hZ5.more (.cells (bkv firstB fv).toArray 29)
      have hs35 := k35.size
      have hz5 := hZ5.lt
      have hzs := kz.size
      have hz3 := hZ3.lt
      generalize w5.alloc (.cells (bkv firstB fv).toArray 29) = wA at *
      refine app_firstQ kA hgB (by omega) firstB_ok hxm hlen (hxr.keep k35) (fun x hx => ⟨(hxo x hx).1, (hxo x hx).2.keep k35⟩) (by omega) (dataQ w5 w3.heap.size) (And.intro hd5 (fun A n c e j hj => by rw [← hfv] at e; injection e with e1 e2 e3; subst e1; obtain ⟨_, b, o, e, rfl⟩ := hj; injection e with e; injection e with e; omega)) (fun x hx => And.intro ((hxo x hx).2.keep k35) (far_lt (hxo x hx).2 (by omega))) ?_
      rintro _ w6 lb lo c6 rfl hlb hat k56 hg6
      have k36 : Below v3.heap.size v3 w6 := k35.trans (k56.mono k35.size)
      have hq6 := hq3.below k36
      have hr1 : r < (firstB :: rowL 5 m firstB).length := by rw [hlen1]; omega
      obtain ⟨dv, hokr, hdv, hrd⟩ := hat r hr1
      have her : (firstB :: rowL 5 m firstB)[r] = qB 5 r := by
        have h1 := row0_at (n := m) (Nat.le_of_lt hrm)
        rw [List.getElem?_eq_getElem hr1] at h1
        exact Option.some.inj h1
      rw [her] at hokr hdv hrd
      have hrm1 : r < m + 1 := by omega
      have hrm2 : (r : Int) < (m : Int) + 1 := by omega
      have l34r : (bkv (qB 5 r) dv).length = 34 := bkv_len hokr.len
      obtain ⟨dA, dc, edv, -⟩ := id hdv.1
      have hone : allOne (bkv (qB 5 r) dv) = true := by rw [edv]; exact bkv_one _ _ _ _
      have x6 := hrd w6 (Below.refl _ _)
      have hZ6 : Blk w6 (w3.heap.size) 29 zeroB.toArray := blk_grown hZ hg6 (by omega)
      have hlo : w3.heap.size ≤ (w3.heap.size) := by omega
      have hqs : ∀ cs, heldE (fun g => g < w3.heap.size) v3 (w6.setRow (w3.heap.size) cs) := fun cs => hq6.row cs (by omega)
      have y2 : canWrite w6 ⟨w3.heap.size, 0, none⟩ 0 34 = true := canWrite_all hZ6 34 rfl
      have y3 : ∀ (l : List Value), l.length = 34 → storeSeg w6 ⟨w3.heap.size, 0, none⟩ 0 l = w6.setRow (w3.heap.size) l.toArray := fun l hl => storeSeg_all hZ6 l (by rw [hl]; rfl)
      simp [go_sem, IntWalk.iteOmega, IntWalk.toNatUp, hlen1, hq6, hqs, hrm1, hrm2, x6, hone, l34r, y2, y3, v4, v5]
      have kE : Below v3.heap.size w6 (w6.setRow (w3.heap.size) (bkv (qB 5 r) dv).toArray) := below_setRow ((Below.refl _ _).mono k36.size) (by omega) _
      refine atCut.mk ⟨w3.heap.size, dv, by simp [go_sem], by simp [go_sem], by simp [go_sem], by simp [go_sem], Blk_setRow hZ6, hdv.1.on ((Keeps.of_ext k56).trans (Keeps.setRow _ _ _ (fun h => h rfl))) hdv.2, k33.trans ((k36.trans kE).mono k33.size)⟩
  · rintro s4 w4 ⟨g, dv, d3, d2, d9, d10, hX4, hd4, k4⟩
    obtain ⟨okr, ckr, hhr⟩ := hq.ok r (Nat.le_of_lt hrm)
    have l34 : (bkv (qB 5 r) dv).length = 34 := bkv_len okr.len
    have k04 := k03.trans (k4.mono k03.size)
    simp [go_sem, IntWalk.iteOmega, IntWalk.toNatUp, d3, d2, d9, d10]
    refine W_flow (fun j => j = g) (.pure 0 (.pure 2 (.pure 3 (.one 1 (.one 4 (.pure 5 (.pure 6 (.pure 7 (.pure 8 (.pure 9 (.done))))))))))) follows (by kernel_rfl) ?_
    have hq4 := held_refl (fun j => j = g) w4.drew
    have hX4d := hX4.drew
    have hd4d := hd4.keep (ext_drew w4)
    have k4d := k4.drew
    have k04d := k04.drew
    generalize w4.drew = v4 at *
    have xg := readCells_all hX4d 34 (by simpa using l34)
    have xgc := hX4d.cell
    have xgl := hX4d.lt
    have x32 : v4.cell? ⟨g, 32, none⟩ = some (.int .i64 (qB 5 r).height) := by rw [xgc, List.getElem?_toArray]; exact bkv_32 (dv := dv) okr.len
    simp [go_sem, IntWalk.iteOmega, IntWalk.toNatUp, d3, d2, d9, d10, hq4, xg, xgl, x32]
    refine callE_of (named_any okr hd4d) ?_
    rintro _ w5 ⟨rfl, k5⟩
    rw [named_q hq (Nat.le_of_lt hrm)]
    have hq5 := hq4.below k5
    simp [go_sem, IntWalk.iteOmega, IntWalk.toNatUp, hq5]
    have k35 : Below w3.heap.size w3 w5 := k4d.trans (k5.mono k4d.size)
    have k05 := k04d.trans (k5.mono k04d.size)
    have hX5 := hX4d.keep k5
    refine callE_of (fat_new (sha_length _) (by have := k05.size; omega)) ?_
    rintro _ w6 ⟨(⟨hbad, _⟩ | ⟨_, f, O, rfl, hF6, hO6⟩), k6⟩
    · exfalso
      rw [hhr] at hbad
      omega
    rw [hhr] at hF6
    have hq6 := hq5.below k6
    obtain ⟨lb, lo, rfl, -, hlb, hat⟩ := hl3.rd.at2 (by rw [hlen]; omega)
    have hlR : BksR w3 (.slice (some ⟨lb, lo, none⟩) m lc) (rowL 5 m firstB) := by
      have h := hl3.rd
      rwa [hlen] at h
    have hm0m : m0 < (rowL 5 m firstB).length := by rw [hlen]; omega
    obtain ⟨tv, hokt, hdt, hrt⟩ := hat m0 hm0m
    have het : (rowL 5 m firstB)[m0] = qB 5 m := by
      have h1 := row_at (n := m) (i := m0) (by omega)
      rw [List.getElem?_eq_getElem hm0m] at h1
      rw [Option.some.inj h1, show m0 + 1 = m by omega]
    rw [het] at hokt hdt hrt
    have k36 : Below w3.heap.size w3 w6 := k35.trans (k6.mono k35.size)
    have k06 := k05.trans (k6.mono k05.size)
    have xt := hrt w6 k36
    have v6 : IntKind.i64.wrap ((m : Int) - 1) = (m0 : Int) := by rw [wrap_i64_if, if_pos (by omega)]; omega
    have hm0a : m0 < m := by omega
    have hm0b : (m0 : Int) < m := by omega
    simp [go_sem, IntWalk.iteOmega, IntWalk.toNatUp, d9, hq6, v6, hm0a, hm0b, xt]
    refine callE_of (named_any hokt (hdt.keep k36)) ?_
    rintro _ w7 ⟨rfl, k7⟩
    rw [named_q hq (Nat.le_refl _)]
    simp [go_sem, IntWalk.iteOmega, IntWalk.toNatUp]
    have hI8 : Blk (w7.alloc (.cells #[.int .i64 0, .int .i64 3, .int .i64 5] 3)) w7.heap.size 3 #[.int .i64 0, .int .i64 3, .int .i64 5] := Blk.self_ rfl
    have kA7 := ext_alloc w7 (.cells #[.int .i64 0, .int .i64 3, .int .i64 5] 3)
    have hF7 := (hF6.keep k7).keep kA7
    have k68 : Below w6.heap.size w6 (w7.alloc (.cells #[.int .i64 0, .int .i64 3, .int .i64 5] 3)) := k7.trans (kA7.mono k7.size)
    have hs67 := k7.size
    have hs56 := k6.size
    generalize w7.alloc (.cells #[.int .i64 0, .int .i64 3, .int .i64 5] 3) = w8 at *
    have hO : ∀ j, O j → w5.heap.size ≤ j ∧ j < w6.heap.size := fun j hj => ⟨hO6 j hj, hF6.lt j hj⟩
    obtain ⟨N0, hN0⟩ : ∃ N0 : Nat → Prop, N0 = fun j => ¬ O j ∧ j < w6.heap.size := ⟨_, rfl⟩
    have hNlow : ∀ j, j < w5.heap.size → N0 j := fun j h => by rw [hN0]; exact ⟨fun h' => by have := (hO j h').1; omega, by omega⟩
    have step : ∀ {O1 O2 : Nat → Prop} {wa wc : World}, Keeps N0 w6 wa → (∀ j, O1 j → O j ∨ w6.heap.size ≤ j) → Mine O1 O2 wa wc → Keeps N0 w6 wc ∧ (∀ j, O2 j → O j ∨ w6.heap.size ≤ j) := fun {O1 O2 wa wc} g1 g2 g3 => ⟨g1.trans (g3.2.2.mono fun j _ hj hO' => by
      rw [hN0] at hj
      rcases g2 j hO' with h | h
      · exact hj.1 h
      · omega), fun j hj => by
      rcases g3.1 j hj with h | h
      · exact g2 j h
      · exact .inr (Nat.le_trans g1.size h)⟩
    have bel5 : ∀ {wa : World}, Keeps N0 w6 wa → Below w5.heap.size w5 wa := fun {wa} h => k6.trans (h.below (by omega) fun k hk => hNlow k (by omega))
    have bel3 : ∀ {wa : World}, Keeps N0 w6 wa → Below w3.heap.size w3 wa := fun {wa} h => k35.trans ((bel5 h).mono k35.size)
    have bel : ∀ {wa : World}, Keeps N0 w6 wa → Below w.heap.size w wa := fun {wa} h => k05.trans ((bel5 h).mono k05.size)
    have cub : ∀ {wa : World}, Keeps N0 w6 wa → Cubes wa := fun {wa} h => hC.keep (bel h)
    have kN8 : Keeps N0 w6 w8 := Keeps.of_ext k68
    have hrf : Rd w8 1 (some ⟨w7.heap.size, 0, none⟩) [(0:Int), 3, 5].length (intsK .i64 [0, 3, 5]) := ⟨rfl, fun _ => ⟨_, _, rfl, hI8.lt, fun j v hj => by rw [Nat.zero_add, hI8.cell, List.getElem?_toArray]; exact hj⟩⟩
    have ok0 : FOk ⟨nq (qB 5) r, r, 100, [], [], [], []⟩ := ⟨sha_length _, by show (0:Int) ≤ r; omega, by show (r:Int) ≤ _; omega, by show (1:Int) ≤ 100 ∧ (100:Int) ≤ 4096; decide, by show (0:Nat) ≤ 32; decide, by simp, by show (0:Nat) ≤ 4096; decide, by simp⟩
    refine callE_of (fat_target (us := [0, 3, 5]) (id := nq (qB 5) m) hF7 ok0 (sha_length _) hrf (by decide) (fun j hj hO' => by
      obtain ⟨_, b, o, e, rfl⟩ := hj
      injection e with e
      injection e with e
      have := (hO _ hO').2
      omega)) ?_
    rintro _ w9 ⟨rfl, O1, hF9, hM9⟩
    rw [target_ST] at hF9 ⊢
    dsimp only at hF9
    obtain ⟨kN9, hO9⟩ := step kN8 (fun j hj => .inl hj) hM9
    obtain ⟨t0, ht0⟩ : ∃ t0, t0 = many.toNat % 16 := ⟨_, rfl⟩
    have htt : t = 1 + t0 := by omega
    have u1 : (many.toNat : Int).tmod 16 = (t0 : Int) := by rw [ht0]; exact u8_mod many 16 (by decide)
    have u2 : IntKind.i64.wrap (t0 : Int) = (t0 : Int) := by rw [wrap_i64_if, if_pos (by omega)]
    have u3 : IntKind.i64.wrap (1 + (t0 : Int)) = (t : Int) := by rw [wrap_i64_if, if_pos (by omega)]; omega
    obtain ⟨D, hD⟩ : ∃ D, D = m - r := ⟨_, rfl⟩
    obtain ⟨E, hE⟩ : ∃ E, E = D + t := ⟨_, rfl⟩
    obtain ⟨F, hF⟩ : ∃ F, F = D + t - 1 := ⟨_, rfl⟩
    obtain ⟨need, hneed⟩ : ∃ need, need = F / t := ⟨_, rfl⟩
    have u4 : IntKind.i64.wrap ((m : Int) - (r : Int)) = (D : Int) := by rw [wrap_i64_if, if_pos (by omega)]; omega
    have u5 : IntKind.i64.wrap ((D : Int) + (t : Int)) = (E : Int) := by rw [wrap_i64_if, if_pos (by omega)]; omega
    have u6 : IntKind.i64.wrap ((E : Int) - 1) = (F : Int) := by rw [wrap_i64_if, if_pos (by omega)]; omega
    have hnle : need ≤ D := by rw [hneed, hF]; exact need_small ht1 (by omega)
    have u7 : IntKind.i64.wrap ((F : Int).tdiv (t : Int)) = (need : Int) := by
      have e : (F : Int).tdiv (t : Int) = (need : Int) := by
        rw [Int.tdiv_eq_ediv_of_nonneg (by omega), hneed]
        exact (Int.natCast_ediv F t).symm
      rw [e, wrap_i64_if, if_pos (by omega)]
    have u8 : ((t : Int) == 0) = false := by simp; omega
    have u9 : ¬ (t : Int) = 0 := by omega
    have u10 : ¬ t = 0 := by omega
    have k49 : Below v4.heap.size v4 w9 := k5.trans ((bel5 kN9).mono k5.size)
    have k45 : Below v4.heap.size v4 w5 := k5
    have x32r : v4.cell? ⟨g, 32, none⟩ = some (.int .i64 r) := by rw [← hhr]; exact x32
    have hmlc : m ≤ lc := by
      obtain ⟨_, _, _, e, -, -, h, -⟩ := hlR
      injection e with _ e2 e3
      rw [hlen] at h
      omega
    have x32b : w9.cell? ⟨g, 32, none⟩ = some (.int .i64 r) := by
      rw [← hhr]
      exact (k49.cell (p := ⟨g, 32, none⟩) xgl).trans x32
    have u11 : (F : Int) / (t : Int) = (need : Int) := by rw [hneed]; exact (Int.natCast_ediv F t).symm
    simp [go_sem, IntWalk.iteOmega, IntWalk.toNatUp, d2, d3, d9, d10, x32b, u1, u2, u3, u4, u5, u6, u7, u8, u9, u10, u11]
    have hr' : r ≤ m := Nat.le_of_lt hrm
    refine W_loop (fun st wr => ∃ (i k : Nat) (Oi : Nat → Prop) (often : List (List UInt8 × Int)), i ≤ need ∧ k = min (i * t) (m - r) ∧ st 3 = .slice fA fails.length fc ∧ st 9 = .slice (some ⟨lb, lo, none⟩) m lc ∧ st 10 = .pointer (some ⟨g, 0, none⟩) ∧ st 11 = .pointer (some ⟨f, 0, none⟩) ∧ st 13 = .int .i64 t ∧ st 87 = .int .i64 need ∧ st 88 = .int .i64 i ∧ FAt wr Oi f (ST (qB 5) r m k [] often) ∧ OftenOk (5 * i) (ST (qB 5) r m k [] often) ∧ (∀ j, Oi j → O j ∨ w6.heap.size ≤ j) ∧ Keeps N0 w6 wr) (fun st _ => need - (intOf (st 88)).toNat) ?_ ?_
    · exact ⟨0, 0, O1, [], by omega, by simp, by simp [go_sem, d3], by simp [go_sem, d9], by simp [go_sem, d10], by simp [go_sem], by simp [go_sem], by simp [go_sem], by simp [go_sem], hF9, by intro x hx; simp [ST] at hx, hO9, kN9⟩
    · clear v1 v2 v3 v6 u1 u2 u3 u4 u5 u6 u7 u8 u9 u10 u11 hm0a hm0b hm0m xt hrt hdt hokt het hrf hI8 kA7 hF7 k68 hs67 ok0 hM9 kN8 hF9 hO9 kN9 x32b k49 k7 hO6 hF6 hlb hat d2 d3 d9 d10 hd2 k2 k1 k02 hd4 hX4 k4 xg xgc hq4 hq5 hq6 k5 k6 k06 hN0 ht0 htt hE hl3 hhr ckr okr
      rintro s5 w10 ⟨i, k, Oi, often, hi, hk, e3, e9, e10, e11, e13, e87, e88, hFi, hOf, hOi, hKi⟩
      have hkm : k ≤ m - r := by omega
      by_cases hlt : i < need
      · have hltI : (i : Int) < need := by omega
        have hkt : i * t < m - r := by rw [← hD]; exact need_lt ht1 (by rw [← hF, ← hneed]; exact hlt)
        have hkl : k < m - r := by omega
        have hok := ok_ST (asked := []) (often := often) hq hr' hm40 (by omega : k ≤ m)
        simp [go_sem, IntWalk.iteOmega, IntWalk.toNatUp, e3, e9, e10, e11, e13, e87, e88, hltI, hlt]
        refine callE_of (fat_wants hFi hok (cub hKi)) ?_
        rintro wv w11 ⟨hwv, k11⟩
        rw [wants_ST hq hr' hkl] at hwv
        have hF11 := hFi.keep k11
        have hK11 := hKi.trans (Keeps.of_ext k11)
        simp [go_sem, IntWalk.iteOmega, IntWalk.toNatUp, e3, e9, e10, e11, e13, e87, e88]
        refine callE_of (told_wants hwv 1 (by decide) 1 rfl) ?_
        rintro rv w12 ⟨hrv, k12⟩
        have hF12 := hF11.keep k12
        have hK12 := hK11.trans (Keeps.of_ext k12)
        obtain ⟨x, hx⟩ : ∃ x, x = nq (qB 5) (m - k) := ⟨_, rfl⟩
        rw [← hx] at hrv
        have hx32 : x.length = 32 := by rw [hx]; exact sha_length _
        have l32 : (bl x).length = 32 := by rw [bl_length]; exact hx32
        obtain ⟨-, rA, rc, rfl⟩ := own_sl hrv
        obtain ⟨xb, xo, rfl, hxb, hxc⟩ := (Rd.of_own hrv).cells (by simp)
        have hxr : ∀ W, Below w12.heap.size w12 W → readCells W ⟨xb, xo, none⟩ 0 32 = some (bl x) := fun W hW => readCells_cells 32 0 _ l32 (fun j v hj => by
          rw [Nat.add_zero]
          exact (hW.cell (p := ⟨xb, xo + j, none⟩) hxb).trans (hxc j v (by simpa [flatI] using hj)))
        have h1l : ([x].take 1).length = 1 := rfl
        rw [h1l]
        simp [go_sem, IntWalk.iteOmega, IntWalk.toNatUp, e3, e9, e10, e11, e13, e87, e88]
        refine callE_of (fat_done hF12 hok (cub hK12)) ?_
        rintro _ w13 ⟨rfl, k13⟩
        have hms : decide (missL (ST (qB 5) r m k [] often) = []) = false := by
          rw [miss_ST hq hr' hkm, if_neg (by omega)]
          rfl
        rw [hms]
        have hF13 := hF12.keep k13
        have hK13 := hK12.trans (Keeps.of_ext k13)
        have xx := hxr w13 k13
        have y2 : ∀ (k : Array Value) (t : TypeId), k.size = 32 → canWrite (w13.alloc (.cells k t)) ⟨w13.heap.size, 0, none⟩ 0 32 = true := fun k t hk => canWrite_all (Blk.self_ rfl) 32 hk
        have y3 : ∀ (k : Array Value) (t : TypeId) (l : List Value), k.size = 32 → l.length = 32 → storeSeg (w13.alloc (.cells k t)) ⟨w13.heap.size, 0, none⟩ 0 l = (w13.alloc (.cells k t)).setRow w13.heap.size l.toArray := fun k t l hk hl => storeSeg_all (Blk.self_ rfl) l (by omega)
        have y4 : ∀ (o : Obj), readCells (w13.alloc o) ⟨xb, xo, none⟩ 0 32 = some (bl x) := fun o => hxr _ (k13.trans ((ext_alloc w13 o).mono k13.size))
        simp [go_sem, IntWalk.iteOmega, IntWalk.toNatUp, e3, e9, e10, e11, e13, e87, e88, xx, y2, y3, y4, l32, bl_one]
        rw [← zeroI_lit]
        have kZ : Below w13.heap.size w13 ((w13.alloc (.cells zeroI.toArray 27)).setRow w13.heap.size (bl x).toArray) := below_setRow (ext_alloc w13 _) (Nat.le_refl _) _
        have hP14 : Blk ((w13.alloc (.cells zeroI.toArray 27)).setRow w13.heap.size (bl x).toArray) w13.heap.size 27 (bl x).toArray := Blk_setRow (Blk.self_ rfl)
        have hF14 := hF13.keep kZ
        have hK14 := hK13.trans (Keeps.of_ext kZ)
        have hpO : ¬ Oi w13.heap.size := fun h => by have := hF13.lt _ h; omega
        generalize (w13.alloc (.cells zeroI.toArray 27)).setRow w13.heap.size (bl x).toArray = w14 at *
        generalize w13.heap.size = p at *
        clear y2 y3 y4 xx hxr hxc hrv hwv kZ hF13 hF12 hF11 hK13 hK12 hK11 hFi hKi k11 k12 k13 hms h1l hxb
        have hi40 : i ≤ 40 := by omega
        refine condN_cut (fun s6 w15 => ∃ bad : Nat, bad ≤ 3 ∧ s6 18 = .int .i64 bad ∧ w15 = w14 ∧ s6 3 = .slice fA fails.length fc ∧ s6 9 = .slice (some ⟨lb, lo, none⟩) m lc ∧ s6 10 = .pointer (some ⟨g, 0, none⟩) ∧ s6 11 = .pointer (some ⟨f, 0, none⟩) ∧ s6 13 = .int .i64 t ∧ s6 17 = .pointer (some ⟨p, 0, none⟩) ∧ s6 87 = .int .i64 need ∧ s6 88 = .int .i64 i) ?_ ?_
        · by_cases hif : i < fails.length
          · obtain ⟨fA', fc', ef, hrf, -⟩ := id hf
            injection ef with ef1 ef2 ef3
            subst ef1 ef3
            obtain ⟨gb, go, rfl, hgb, hgc⟩ := (hrf.keep (bel hK14)).cells (by omega)
            have x0 := hgc i _ (bl_at2 fails i hif)
            obtain ⟨b4, hb4⟩ : ∃ b4, b4 = (fails[i]).toNat % 4 := ⟨_, rfl⟩
            have hE1 : ((fails[i]).toNat : Int).tmod 4 = (b4 : Int) := by rw [hb4]; exact u8_mod _ 4 (by decide)
            have hE2 : IntKind.i64.wrap (b4 : Int) = (b4 : Int) := by rw [wrap_i64_if, if_pos (by omega)]
            have hifI : (i : Int) < fails.length := by omega
            simp [go_sem, IntWalk.iteOmega, IntWalk.toNatUp, e3, e9, e10, e11, e13, e87, e88, hif, hifI, x0, hE1, hE2]
            exact atCut.mk ⟨b4, by omega, by simp [go_sem], rfl, by simp [go_sem, e3], by simp [go_sem, e9], by simp [go_sem, e10], by simp [go_sem, e11], by simp [go_sem, e13], by simp [go_sem], by simp [go_sem, e87], by simp [go_sem, e88]⟩
          · simp [go_sem, IntWalk.iteOmega, IntWalk.toNatUp, e3, e9, e10, e11, e13, e87, e88, hif]
            exact atCut.mk ⟨0, by omega, by simp [go_sem], rfl, by simp [go_sem, e3], by simp [go_sem, e9], by simp [go_sem, e10], by simp [go_sem, e11], by simp [go_sem, e13], by simp [go_sem], by simp [go_sem, e87], by simp [go_sem, e88]⟩
        clear e3 e9 e10 e11 e13 e87 e88
        rintro s6 w15 ⟨bad, hb3, e18, rfl, e3, e9, e10, e11, e13, e17, e87, e88⟩
        simp [go_sem, IntWalk.iteOmega, IntWalk.toNatUp, e3, e9, e10, e11, e13, e17, e18, e87, e88]
        refine W_loop (fun st wr => ∃ (j : Nat) (Oj : Nat → Prop) (oft : List (List UInt8 × Int)), j ≤ bad ∧ st 3 = .slice fA fails.length fc ∧ st 9 = .slice (some ⟨lb, lo, none⟩) m lc ∧ st 10 = .pointer (some ⟨g, 0, none⟩) ∧ st 11 = .pointer (some ⟨f, 0, none⟩) ∧ st 13 = .int .i64 t ∧ st 17 = .pointer (some ⟨p, 0, none⟩) ∧ st 87 = .int .i64 need ∧ st 88 = .int .i64 i ∧ st 114 = .int .i64 bad ∧ st 115 = .int .i64 j ∧ FAt wr Oj f (ST (qB 5) r m k [] oft) ∧ OftenOk (5 * i + j) (ST (qB 5) r m k [] oft) ∧ (∀ j, Oj j → O j ∨ w6.heap.size ≤ j) ∧ Keeps N0 w6 wr ∧ ¬ Oj p ∧ Blk wr p 27 (bl x).toArray) (fun st _ => bad - (intOf (st 115)).toNat) ?_ ?_
        · exact ⟨0, Oi, often, by omega, by simp [go_sem, e3], by simp [go_sem, e9], by simp [go_sem, e10], by simp [go_sem, e11], by simp [go_sem, e13], by simp [go_sem, e17], by simp [go_sem, e87], by simp [go_sem, e88], by simp [go_sem, e18], by simp [go_sem], hF14, hOf, hOi, hK14, hpO, hP14⟩
        clear e3 e9 e10 e11 e13 e17 e18 e87 e88 hF14 hOf hOi hK14 hpO hP14
        rintro s7 w16 ⟨j, Oj, oft, hj, e3, e9, e10, e11, e13, e17, e87, e88, e114, e115, hFj, hOfj, hOj, hKj, hpOj, hPj⟩
        have xid := readCells_all hPj 32 (by simpa using l32)
        obtain ⟨av, oft', hask⟩ := ask_ST hq hr' hkl oft
        rw [← hx] at hask
        have hfl := fail_ST (q := qB 5) (m := m) (r := r) (k := k) oft'
        rw [← hx] at hfl
        have hok2 := ok_ST (asked := []) (often := oft) hq hr' hm40 (by omega : k ≤ m)
        have hok3 := ok_ST (asked := [(x, true)]) (often := oft') hq hr' hm40 (by omega : k ≤ m)
        by_cases hjl : j < bad
        · have hjI : (j : Int) < bad := by omega
          simp [go_sem, IntWalk.iteOmega, IntWalk.toNatUp, e3, e9, e10, e11, e13, e17, e87, e88, e114, e115, hjI, hjl, xid]
          refine callE_of (fat_ask hFj hok2 (cub hKj) hOfj (by omega) hx32) ?_
          rintro _ w20 ⟨rfl, O20, hF20, hM20⟩
          have hOf20 := hOfj.ask x
          rw [hask] at hF20 hOf20 ⊢
          dsimp only at hF20 hOf20
          obtain ⟨hK20, hO20⟩ := step hKj hOj hM20
          have hP20 := hM20.2.2.blk hPj hpOj
          have hpO20 : ¬ O20 p := fun h => (hM20.1 p h).elim hpOj fun h => by have := hPj.lt; omega
          have x20 := readCells_all hP20 32 (by simpa using l32)
          simp [go_sem, IntWalk.iteOmega, IntWalk.toNatUp, e3, e9, e10, e11, e13, e17, e87, e88, e114, e115, x20]
          refine callE_of (fat_fail hF20 hok3 hx32) ?_
          rintro _ w21 ⟨rfl, O21, hF21, hM21⟩
          rw [hfl] at hF21 ⊢
          dsimp only at hF21
          obtain ⟨hK21, hO21⟩ := step hK20 hO20 hM21
          have hP21 := hM21.2.2.blk hP20 hpO20
          have hpO21 : ¬ O21 p := fun h => (hM21.1 p h).elim hpO20 fun h => by have := hP20.lt; omega
          simp [go_sem, IntWalk.iteOmega, IntWalk.toNatUp, e3, e9, e10, e11, e13, e17, e87, e88, e114, e115]
          refine roundEnd.mk ⟨j + 1, O21, oft', by omega, by simp [go_sem, e3], by simp [go_sem, e9], by simp [go_sem, e10], by simp [go_sem, e11], by simp [go_sem, e13], by simp [go_sem, e17], by simp [go_sem, e87], by simp [go_sem, e88], by simp [go_sem, e114], by simp [go_sem], hF21, hOf20, hO21, hK21, hpO21, hP21⟩ ?_
          simp [go_sem, intOf, e115]; omega
        · obtain rfl : j = bad := by omega
          simp [go_sem, IntWalk.iteOmega, IntWalk.toNatUp, e3, e9, e10, e11, e13, e17, e87, e88, e114, e115]
          have hlJ : BksR w16 (.slice (some ⟨lb, lo, none⟩) m lc) (rowL 5 m firstB) := hlR.keep (bel3 hKj)
          have hidx : ∀ j (hj : j < (rowL 5 m firstB).length), (idB (rowL 5 m firstB)[j]).1 = nq (qB 5) (j + 1) := fun j' hj' => by
            rw [hlen] at hj'
            have h1 := row_at (n := m) (i := j') hj'
            rw [List.getElem?_eq_getElem (by rw [hlen]; exact hj')] at h1
            rw [Option.some.inj h1]
            exact named_q hq (by omega)
          refine callE_of (indexB_any hlJ (by rw [hlen]; omega) hx32 hPj) ?_
          rintro _ w17 ⟨(⟨kk, hkk, rfl, hkid, -⟩ | ⟨rfl, hno⟩), k17⟩
          · rw [hidx kk hkk, hx] at hkid
            rw [hlen] at hkk
            have hkk2 := hq.inj _ _ (by omega) (by omega) hkid
            obtain rfl : kk = m - k - 1 := by omega
            have hF17 := hFj.keep k17
            have hK17 := hKj.trans (Keeps.of_ext k17)
            have hP17 := hPj.keep k17
            have x17 := readCells_all hP17 32 (by simpa using l32)
            obtain ⟨kk, hkkd⟩ : ∃ kk, kk = m - k - 1 := ⟨_, rfl⟩
            rw [← hkkd]
            simp [go_sem, IntWalk.iteOmega, IntWalk.toNatUp, e3, e9, e10, e11, e13, e17, e87, e88, x17]
            refine callE_of (fat_ask hF17 hok2 (cub hK17) hOfj (by omega) hx32) ?_
            rintro _ w18 ⟨rfl, O18, hF18, hM18⟩
            have hOf18 := hOfj.ask x
            rw [hask] at hF18 hOf18 ⊢
            dsimp only at hF18 hOf18
            obtain ⟨hK18, hO18⟩ := step hK17 hOj hM18
            have hP18 := hM18.2.2.blk hP17 hpOj
            have hpO18 : ¬ O18 p := fun h => (hM18.1 p h).elim hpOj fun h => by have := hP17.lt; omega
            have hkk0 : ¬ (kk : Int) < 0 := by omega
            simp [go_sem, IntWalk.iteOmega, IntWalk.toNatUp, e3, e9, e10, e11, e13, e17, e87, e88, hkk0]
            obtain ⟨tU, htU⟩ : ∃ tU : UInt8, tU.toNat = t := ⟨UInt8.ofNat t, by simp; omega⟩
            have hgot := got_ST hq hr' hm40 hkl ht1 ht16 oft'
            have hcs := cont_steps (m := m) (h := m - k) (by omega) (by omega) (t := tU) (by omega) (by omega)
            rw [htU] at hcs
            rw [← hcs, ← hx, ← hkkd] at hgot
            obtain ⟨gv, hgot⟩ := hgot
            have z1 : IntKind.u8.wrap (t : Int) = (tU.toNat : Int) := by
              rw [htU]
              rw [wrap_u8_if, if_pos (by omega)]
            refine W_flow (fun j => j = p) (.pure 0 (.pure 1 (.pure 2 (.pure 3 (.pure 4 (.pure 5 (.pure 6 (.one 7 (.one 8 (.pure 9 (.pure 10 (.pure 11 (.pure 12 (.pure 13 (.done))))))))))))))) follows (by kernel_rfl) ?_
            have hq18 := held_refl (fun j => j = p) w18.drew
            have hF18d := hF18.keep (ext_drew w18)
            have hK18d := hK18.trans (Keeps.drew N0 w18)
            have hP18d := hP18.drew
            generalize w18.drew = v18 at *
            have x18 := readCells_all hP18d 32 (by simpa using l32)
            have xpl := hP18d.lt
            have hlV : BksR v18 (.slice (some ⟨lb, lo, none⟩) m lc) (rowL 5 m firstB) := hlR.keep (bel3 hK18d)
            have hckL : ∀ b ∈ rowL 5 m firstB, checkB b = 0 := fun b hb => by
              obtain ⟨j', hj', rfl⟩ := List.getElem_of_mem hb
              rw [hlen] at hj'
              have h1 := row_at (n := m) (i := j') hj'
              rw [List.getElem?_eq_getElem (by rw [hlen]; exact hj')] at h1
              rw [Option.some.inj h1]
              exact (hq.ok _ (by omega)).2.1
            simp [go_sem, IntWalk.iteOmega, IntWalk.toNatUp, e3, e9, e10, e11, e13, e17, e87, e88, hq18, x18, xpl, z1]
            refine callE_of (conts_any (d := 0) (a := 0) (b := 0) (want := false) (fv := .slice none 0 0) (rv := .slice none 0 0) (many := tU) (bad := 255) (raw := []) hlV hckL (k := kk) (by rw [hlen]; omega) (by rw [hlen]; omega) ⟨none, 0, rfl, ⟨rfl, fun h => by simp at h⟩, fun _ => rfl, by simp, by simp⟩) ?_
            rintro cv w19 ⟨⟨vals, hcv, hcr, hcf⟩, k19⟩
            have hcv' := hcv
            have hcl : (contL (rowL 5 m firstB) kk tU 255 []).length = contN kk tU := by unfold contL; simp
            rw [← hcl] at hcv
            obtain ⟨-, cA, cc, rfl⟩ := own_sl hcv
            have hF19 := hF18d.keep k19
            have hq19 := hq18.below k19
            have hK19 := hK18d.trans (Keeps.of_ext k19)
            have hOlt := hF18d.lt
            have hccs := own_caps hcv
            simp [go_sem, IntWalk.iteOmega, IntWalk.toNatUp, hq19]
            refine callE_of (fat_got (raws := contL (rowL 5 m firstB) kk tU 255 []) (vals := vals) hF19 hok3 (cub hK19) hx32 (Rd.of_own hcv) hcr hccs.1 hccs.2 (fun j' hj' hO' => by
              have h1 := (hcv.lt j' (atB_row hcv hj')).1
              have h2 := hOlt j' hO'
              omega) (fun u hu A n c e j' hj' hO' => by
              rcases hcf u hu with h | h
              · rw [h] at e
                injection e with e1 e2 e3
                subst e2
                obtain ⟨h0, -⟩ := hj'
                omega
              · have h1 := h A n c e j' hj'
                have h2 := hOlt j' hO'
                omega)) ?_
            rintro _ w20 ⟨rfl, hok20, O20, hF20, hM20⟩
            have hOf20 := hOf18.got x (contL (rowL 5 m firstB) kk tU 255 [])
            rw [← hkkd] at hcs
            rw [hgot] at hF20 hOf20 ⊢
            dsimp only at hF20 hOf20
            obtain ⟨hK20, hO20⟩ := step hK19 hO18 hM20
            have hPq : heldE (fun j => j = p) v18 w20 := by
              refine ⟨Nat.le_trans k19.size hM20.2.2.size, fun j hj hl => ?_⟩
              subst hj
              exact (hM20.2.2.block _ (Nat.lt_of_lt_of_le hl k19.size) hpO18).trans (k19.block _ hl)
            simp [go_sem, IntWalk.iteOmega, IntWalk.toNatUp, e3, e9, e10, e11, e13, e17, e87, e88, hPq]
            refine roundEnd.mk ⟨i + 1, min (k + t) (m - r), O20, oft', by omega, ?_, by simp [go_sem, e3], by simp [go_sem, e9], by simp [go_sem, e10], by simp [go_sem, e11], by simp [go_sem, e13], by simp [go_sem, e87], by simp [go_sem], hF20, fun y hy => ⟨(hOf20 y hy).1, by have := (hOf20 y hy).2; omega⟩, hO20, hK20⟩ ?_
            · rw [Nat.succ_mul]; omega
            · simp [go_sem, intOf, e88]; omega
          · exfalso
            have h1 : m - k - 1 < (rowL 5 m firstB).length := by rw [hlen]; omega
            refine hno _ h1 ?_
            rw [hidx _ h1, hx, show m - k - 1 + 1 = m - k by omega]
      · obtain rfl : i = need := by omega
        have hkD : k = m - r := by
          have h1 : D ≤ i * t := by
            rw [hneed, hF]
            exact need_ge ht1
          omega
        subst hkD
        have hok := ok_ST (asked := []) (often := often) hq hr' hm40 (by omega : m - r ≤ m)
        have hch := chain_ST hq hrm [] often
        rw [row_drop hrm] at hch
        simp [go_sem, IntWalk.iteOmega, IntWalk.toNatUp, e3, e9, e10, e11, e13, e87, e88]
        refine callE_of (fat_chain hFi hok (cub hKi)) ?_
        rintro _ w11 ⟨cv, rfl, hcv, -, k11⟩
        rw [hch] at hcv ⊢
        have hF11 := hFi.keep k11
        have hK11 := hKi.trans (Keeps.of_ext k11)
        simp [go_sem, IntWalk.iteOmega, IntWalk.toNatUp, e3, e9, e10, e11, e13, e87, e88]
        refine callE_of (fat_done hF11 hok (cub hK11)) ?_
        rintro _ w12 ⟨rfl, k12⟩
        have hms : decide (missL (ST (qB 5) r m (m - r) [] often) = []) = true := by
          rw [miss_ST hq hr' (Nat.le_refl _), if_pos rfl]
          rfl
        rw [hms]
        have hK12 := hK11.trans (Keeps.of_ext k12)
        have k412 : Below v4.heap.size v4 w12 := k45.trans ((bel5 hK12).mono k45.size)
        have x32c : w12.cell? ⟨g, 32, none⟩ = some (.int .i64 r) := (k412.cell (p := ⟨g, 32, none⟩) xgl).trans x32r
        have hlJ : BksR w12 (.slice (some ⟨lb, lo, none⟩) m lc) (rowL 5 m firstB) := hlR.keep (bel3 hK12)
        have hdr := hlJ.drop (r := r) (by rw [hlen]; exact hrm)
        have hml : m ≤ lc := hmlc
        have hrl : r ≤ lc := by omega
        have hrI1 : (r : Int) ≤ m := by omega
        have hrI2 : (r : Int) ≤ lc := by omega
        simp [go_sem, IntWalk.iteOmega, IntWalk.toNatUp, e3, e9, e10, e11, e13, e87, e88, x32c, hr', hrl, hrI1, hrI2]
        refine callE_of (sameAll_any (hcv.rd.keep k12) hdr) ?_
        rintro _ w13 ⟨rfl, k13⟩
        simp [go_sem, IntWalk.iteOmega, IntWalk.toNatUp]
        exact (bel hK12).trans (k13.mono (bel hK12).size)
end Go.Proofs.YtdjcjjodbniebaaGreatDoor
