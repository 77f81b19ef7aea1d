/-
  A name in digits, as the program writes it: 'Hex'.
-/
import Derived.Test.YtlhlfodmcffeoaaDoorWhole
import Derived.Laws.MakeOwn
import Derived.Laws.BytesArg
namespace Go.Proofs.YtlhlfodmcffeoaaDoor
open Go.RowKit
set_option linter.unusedVariables false
set_option linter.unusedSimpArgs false
set_option maxRecDepth 10000
theorem makeE {P : Program} {w : World} {t e size bytes : Nat} (ht : P.underlying t = some (.slice e)) (he : El P e size bytes) (kl kc : IntKind) (c : Nat) (hbytes : bytes * c ≤ 281474976710656) (h63 : c ≤ maxLen) {k : Kont}
    (hk : ∀ v w', w'.ownsRow w.heap.size e size v 0 [] → Below w.heap.size w w' → k v w') :
    resE P (((Instr.makeSlice t (.int kl 0) (.int kc (c : Int))).run P w).andThen fun a w' => .ok (.value a) w') k := by
  obtain ⟨i, z, hi, hz, hsz, hby, hzs, hpos⟩ := he
  obtain ⟨w', hr, ho, hg⟩ := run_make_own (P := P) w w.heap.size t e i z size ht hi hz hsz kl kc c (by rw [hby]; exact hbytes) h63 (Nat.le_refl _)
  rw [hr]
  exact hk _ w' ho ⟨hg.os, hg.tape, hg.output, hg.size, fun k hk => hg.block k hk (by simp)⟩
theorem stringE {w : World} {A : Option Addr} {c : Nat} (l : List UInt8) (h : Rd w 1 A l.length (bl l)) (hpos : 0 < l.length) {k : Kont} (hk : k (.string ⟨l.toArray⟩) w) :
    resE Tryd.prog (((convert 29 9 (.slice A l.length c)).run Tryd.prog w).andThen fun a w' => .ok (.value a) w') k := by
  have hs : (convert 29 9 (.slice A l.length c)).run Tryd.prog w = .ok (.string ⟨l.toArray⟩) w := by
    obtain ⟨b, o, rfl, hlt, hc⟩ := h.cells hpos
    rw [run_convert_bytes_arg w 29 5 Tryd.underlying29 Tryd.underlying5 b o l.length c (l.map fun x => (x.toNat : Int)) (by simp) (fun i hi => ?_) 9 Tryd.underlying9]
    · simp [strOfNums, Function.comp_def]
    · rw [hc i _ (bl_at l i hi)]
      simp [byteAt, List.getD, List.getElem?_eq_getElem hi]
  rw [hs]; exact hk
theorem append_bytes {w0 w1 w2 : World} {base n g : Nat} {v : Value} {xs news : List UInt8} {k : Kont} (hown : w1.ownsRow base 5 1 v n (bl xs)) (hle : w0.heap.size ≤ base) (hbs : base ≤ w1.heap.size) (hB : Below w0.heap.size w0 w1)
    (h12 : Below w1.heap.size w1 w2) (hN : Blk w2 g 5 (bl news).toArray) (m : Nat) (hm : news.length = m) (hn : n + m ≤ 70368744177664) (hk : ∀ v' w', w'.ownsRow base 5 1 v' (n + m) (bl (xs ++ news)) → base ≤ w'.heap.size → Below w0.heap.size w0 w' → k v' w') :
    resE Tryd.prog (appendR Tryd.prog 29 29 29 v (.slice (some ⟨g, 0, none⟩) m m) w2) k := by
  have hown2 := own_keep hown h12
  have hsz : base ≤ w2.heap.size := Nat.le_trans hbs h12.size
  have hB2 := ext_trans hB h12
  refine appendE base 5 1 1 Tryd.underlying29 el5 hown2 (m := m) (news := bl news) ⟨by rw [bl_length, hm]; omega, fun _ => ⟨_, 0, rfl, hN.lt, fun j u hu => by rw [hN.cell]; simpa using hu⟩⟩ (bl_one news) (by unfold maxLen; omega) (by omega) hsz ?_
  intro v' w' hown' hgr _
  exact hk v' w' (by rw [bl_append]; exact hown') (Nat.le_trans hsz hgr.size) (hB2.grown hgr (by have := hB2.size; omega) (fun k hk => by have := (hown2.lt k hk).1; omega))
theorem digit_at : ∀ (n : Nat) (h : n < 16), (ByteArray.mk #[48, 49, 50, 51, 52, 53, 54, 55, 56, 57, 97, 98, 99, 100, 101, 102])[n]'h = hexDigit n := by decide
theorem and15 (c : UInt8) : bits .and .u8 (c.toNat : Int) 15 = ((c.toNat % 16 : Nat) : Int) := by
  have h : ∀ n : Fin 256, bits .and .u8 (n.val : Int) 15 = ((n.val % 16 : Nat) : Int) := by decide +kernel
  exact h ⟨c.toNat, c.toNat_lt⟩
theorem hexOf_take (T : List UInt8) (i : Nat) (h : i < T.length) : hexOf (T.take (i + 1)) = hexOf (T.take i) ++ [hexDigit ((T.getD i 0).toNat / 16), hexDigit ((T.getD i 0).toNat % 16)] := by
  rw [List.take_add_one, List.getElem?_eq_getElem h]
  unfold hexOf
  rw [List.flatMap_append]
  congr 1
  simp [List.getD, List.getElem?_eq_getElem h]
theorem hexOf_length (T : List UInt8) : (hexOf T).length = 2 * T.length := by
  induction T with
  | nil => rfl
  | cons a t ih => simp only [hexOf, List.flatMap_cons, List.length_append] at ih ⊢; rw [ih]; simp; omega
theorem hex_any (T : List UInt8) (w : World) (hT : T.length = 32) :
    callE Tryd.prog 14 #[.agg (bl T).toArray] w fun v' w' => v' = .string ⟨(hexOf T).toArray⟩ ∧ Below w.heap.size w w' := by
  refine calls_E Tryd.func14 rfl rfl rfl (Nat.le_of_ble_eq_true rfl) ?_
  have x5 : (bl T).length = 32 := by rw [bl_length, hT]
  simp [go_sem, IntWalk.iteOmega, IntWalk.toNatUp, x5]
  refine makeE Tryd.underlying29 el5 .i64 .i64 64 (by omega) (by unfold maxLen; omega) ?_
  intro v w1 hown hB1
  have hN : Blk (w.alloc (.cells (bl T).toArray 23)) w.heap.size 23 (bl T).toArray := Blk.self_ rfl
  have x0 : readCells w1 ⟨w.heap.size, 0, none⟩ 0 32 = some (bl T) := readCells_all (hN.keep hB1) 32 (by simpa using x5)
  have hB := ext_trans (ext_alloc w _) hB1
  have hbs : w.heap.size + 1 ≤ w1.heap.size := by have := hB1.size; simpa using this
  have hown' := own_mono (base' := w.heap.size) hown (by simp)
  clear hown hB1 hN
  simp [go_sem, IntWalk.iteOmega, IntWalk.toNatUp, x5, x0]
  refine W_loop (fun s wr => ∃ (i : Nat) (v : Value), i ≤ 32 ∧ s 7 = .agg (bl T).toArray ∧ s 8 = .int .i64 i ∧ s 3 = v ∧ wr.ownsRow w.heap.size 5 1 v (2 * i) (bl (hexOf (T.take i))) ∧ w.heap.size ≤ wr.heap.size ∧ Below w.heap.size w wr) (fun s _ => 32 - (intOf (s 8)).toNat) ?_ ?_
  · exact ⟨0, v, by omega, by simp [go_sem], by simp [go_sem], by simp [go_sem], by simpa [hexOf, bl] using hown', by omega, hB⟩
  · clear hown' hB x0 hbs
    rintro s w1 ⟨i, v, hi, e7, e8, e3, hown, hsz, hB⟩
    have hhl : (hexOf (T.take i)).length = 2 * i := by rw [hexOf_length, List.length_take, hT, Nat.min_eq_left hi]
    obtain ⟨A2, c2, rfl, hr21, hr22, hr23, hr24⟩ := own_rdB (l := hexOf (T.take i)) (by rw [hhl]; exact hown)
    rw [hhl] at e3 hown
    by_cases hlt : i < 32
    · have hlt' : (i : Int) < 32 := by omega
      have x1 : (bl T)[i]? = some (.int .u8 (T.getD i 0).toNat) := bl_at T i (by omega)
      have hh := hexOf_take T i (by omega)
      have htl := (T.getD i 0).toNat_lt
      generalize T.getD i 0 = c at x1 hh htl
      have hq1 : 0 ≤ (c.toNat : Int) / 16 ∧ (c.toNat : Int) / 16 < 16 := by omega
      have hd1 := digit_at (c.toNat / 16) (by omega)
      have hd2 := digit_at (c.toNat % 16) (by omega)
      have hq2 : bits .and .u8 (c.toNat : Int) 15 = ((c.toNat % 16 : Nat) : Int) := and15 c
      simp [go_sem, IntWalk.iteOmega, IntWalk.toNatUp, e7, e8, e3, hlt', x1]
      refine W_plan [(0, true), (1, true), (2, true), (3, true), (4, true), (5, true), (6, true), (7, false), (8, false), (9, true)] follows (by kernel_rfl) ?_
      simp [go_sem, IntWalk.iteOmega, IntWalk.toNatUp, e7, e8, e3, hlt', x1, hq1, hq2, hd1, hd2]
      refine append_bytes (w0 := w) (w1 := w1) (news := [hexDigit (c.toNat / 16), hexDigit (c.toNat % 16)]) hown (Nat.le_refl _) hsz hB (ext_trans (ext_alloc w1 _) (ext_drew _)) ((Blk_drew (w := w1.alloc _)).mpr (Blk.self_ rfl)) 2 rfl (by omega) ?_
      clear hown hB hsz hr21 hr22 hr23 hr24
      intro v w2 hown hsz hB
      simp [go_sem, IntWalk.iteOmega, IntWalk.toNatUp, e8]
      refine roundEnd.mk ⟨i + 1, v, by omega, by simp [go_sem, e7], by simp [go_sem], by simp [go_sem], ?_, hsz, hB⟩ ?_
      · rw [hh]; exact hown
      · simp [go_sem, intOf]; omega
    · obtain rfl : i = 32 := by omega
      rw [List.take_of_length_le (by omega)] at hr21 hr22 hhl
      rw [← hhl] at e3
      simp [go_sem, IntWalk.iteOmega, IntWalk.toNatUp, e7, e8, e3]
      refine stringE (hexOf T) hr21 (by omega) ?_
      simp [go_sem, IntWalk.iteOmega, IntWalk.toNatUp, e7, e8, e3]
      exact hB
end Go.Proofs.YtlhlfodmcffeoaaDoor
