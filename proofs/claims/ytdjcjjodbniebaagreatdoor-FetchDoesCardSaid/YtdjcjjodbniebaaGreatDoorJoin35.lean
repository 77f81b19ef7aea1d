/-
  Texts joined: FRAsked.
-/
import Derived.Test.YtdjcjjodbniebaaGreatDoorJoin34
namespace Go.Proofs.YtdjcjjodbniebaaGreatDoor
open Go.RowKit
set_option linter.unusedVariables false
set_option linter.unusedSimpArgs false
set_option maxRecDepth 10000
section
variable {w : World} {O : Nat → Prop} {g : Nat} {R : RF} {tv kv av : Value} {vs : List Value} {ds : List (List UInt8 × Bk × Value)}
set_option maxHeartbeats 3200000 in
theorem rasked_any (h : RIn w O g R tv kv av vs ds) (hok : ROk R) {id : List UInt8} (hid : id.length = 32) :
    callE Tryz.prog 67 #[.pointer (some ⟨g, 0, none⟩), .agg (bl id).toArray] w fun r w' => ((∃ k : Nat, ∃ hk : k < R.A.length, r = .int .i64 k ∧ (R.A[k]).1 = id ∧ ∀ m (hm : m < R.A.length), m < k → (R.A[m]).1 ≠ id) ∨ (r = .int .i64 (-1) ∧ ∀ m (hm : m < R.A.length), (R.A[m]).1 ≠ id)) ∧ Below w.heap.size w w' := by
  have l32 : (bl id).length = 32 := by rw [bl_length]; exact hid
  have kA := ext_alloc w (.cells (bl id).toArray 27)
  have hI : Blk (w.alloc (.cells (bl id).toArray 27)) w.heap.size 27 (bl id).toArray := Blk.self_ rfl
  have han := hok.an
  obtain ⟨-, aA', ac, rfl⟩ := own_sl h.arow
  refine calls_E Tryz.func67 rfl rfl rfl (Nat.le_of_ble_eq_true rfl) ?_
  simp [go_sem, IntWalk.iteOmega, IntWalk.toNatUp]
  generalize w.alloc (.cells (bl id).toArray 27) = w1 at *
  refine W_loop (fun st wr => ∃ i : Nat, i ≤ R.A.length ∧ st 0 = .pointer (some ⟨g, 0, none⟩) ∧ st 3 = .pointer (some ⟨w.heap.size, 0, none⟩) ∧ st 5 = .int .i64 i ∧ (∀ m (hm : m < R.A.length), m < i → (R.A[m]).1 ≠ id) ∧ Below w1.heap.size w1 wr) (fun st _ => R.A.length - (intOf (st 5)).toNat) ?_ ?_
  · exact ⟨0, by omega, by simp [go_sem], by simp [go_sem], by simp [go_sem], fun m hm h => by omega, Below.refl _ _⟩
  · rintro st wr ⟨i, hi, e0, e3, e5, hno, hB⟩
    have kw := kA.trans (hB.mono kA.size)
    have hI' := hI.keep hB
    have c36 := (h.keep kw).c36 hok
    have c36d := (h.keep kw.drew).c36 hok
    by_cases hlt : i < R.A.length
    · have hlt' : (i : Int) < R.A.length := by omega
      obtain ⟨b, o, rfl, hb, hat⟩ := rd_rec (aEnc_len hok) (Rd.of_own h.arow) hlt
      have hxl : (R.A[i].1).length = 32 := (hok.a _ (List.getElem_mem hlt)).1
      have hbx : (bl R.A[i].1).length = 32 := by rw [bl_length]; exact hxl
      have rdx : ∀ W, Below w.heap.size w W → readCells W ⟨b, o + i * 34, none⟩ 0 32 = some (bl R.A[i].1) := fun W hW => readCells_cells 32 0 _ hbx fun j v hj => by
        have := hat W hW j v (by unfold aEnc; rw [List.getElem?_append_left (List.getElem?_eq_some_iff.1 hj).1]; exact hj)
        rw [Nat.add_zero]
        exact this
      have x1 := rdx wr kw
      have x1d := rdx wr.drew kw.drew
      have x2 := readCells_all hI' 32 (by simpa using l32)
      have x2d := readCells_all hI'.drew 32 (by simpa using l32)
      have hqe := fun W => id_eq (R.A[i]).1 id hxl hid W
      simp [go_sem, IntWalk.iteOmega, IntWalk.toNatUp, e0, e3, e5, c36, hlt, hlt']
      refine W_still follows (by kernel_rfl) ?_
      by_cases hq : (R.A[i]).1 = id
      · have hq' : ((R.A[i]).1 == id) = true := by simpa using hq
        simp [go_sem, IntWalk.iteOmega, IntWalk.toNatUp, e0, e3, e5, c36, c36d, hlt, hlt', x1, x2, x1d, x2d, hqe, hq']
        exact ⟨⟨i, rfl, ⟨hlt, hq⟩, fun m hm h => hno m hm h⟩, kw.drew⟩
      · have hq' : ((R.A[i]).1 == id) = false := by simpa using hq
        simp [go_sem, IntWalk.iteOmega, IntWalk.toNatUp, e0, e3, e5, c36, c36d, hlt, hlt', x1, x2, x1d, x2d, hqe, hq']
        refine roundEnd.mk ⟨i + 1, by omega, by simp [go_sem, e0], by simp [go_sem, e3], by simp [go_sem], fun m hm h => ?_, hB.drew⟩ ?_
        · by_cases hmi : m = i
          · subst hmi; exact hq
          · exact hno m hm (by omega)
        · simp [go_sem, intOf, e5]; omega
    · have hlt' : ¬ (i : Int) < R.A.length := by omega
      simp [go_sem, IntWalk.iteOmega, IntWalk.toNatUp, e0, e3, e5, c36, hlt, hlt']
      exact ⟨fun m hm => hno m hm (by omega), kw⟩
end
/-! two rising lists as one -/
def joinL (a b : List Int) : List Int := ((List.range 32).map fun v : Nat => (v : Int)).filter fun v => decide (v ∈ a) || decide (v ∈ b)
theorem joinTo_snoc (a b : List Int) (k : Nat) : (((List.range (k + 1)).map fun v : Nat => (v : Int)).filter fun v => decide (v ∈ a) || decide (v ∈ b)) = (((List.range k).map fun v : Nat => (v : Int)).filter fun v => decide (v ∈ a) || decide (v ∈ b)) ++ (if (k : Int) ∈ a ∨ (k : Int) ∈ b then [(k : Int)] else []) := by
  rw [List.range_succ, List.map_append, List.filter_append]
  congr 1
  simp only [List.map_cons, List.map_nil, List.filter_cons, List.filter_nil]
  by_cases h : (k : Int) ∈ a ∨ (k : Int) ∈ b
  · rw [if_pos h, if_pos (by simpa using h)]
  · rw [if_neg h, if_neg (by simpa using h)]
set_option maxHeartbeats 6400000 in
theorem joined_any {w : World} {aA bA : Option Addr} {ac bc : Nat} {a b : List Int} (ha : Rd w 1 aA a.length (intsK .i64 a)) (hb : Rd w 1 bA b.length (intsK .i64 b)) (hal : a.length ≤ 100000) (hbl : b.length ≤ 100000) :
    callE Tryz.prog 105 #[.slice aA a.length ac, .slice bA b.length bc] w fun r w' => w'.ownsRow w.heap.size 3 1 r (joinL a b).length (intsK .i64 (joinL a b)) ∧ Below w.heap.size w w' := by
  refine calls_E Tryz.func105 rfl rfl rfl (Nat.le_of_ble_eq_true rfl) ?_
  simp [go_sem, IntWalk.iteOmega, IntWalk.toNatUp]
  refine W_loop (fun st wr => ∃ (k : Nat) (ov : Value), k ≤ 32 ∧ st 0 = .slice aA a.length ac ∧ st 1 = .slice bA b.length bc ∧ st 5 = ov ∧ st 6 = .int .i64 k ∧ wr.ownsRow w.heap.size 3 1 ov (((List.range k).map fun v : Nat => (v : Int)).filter fun v => decide (v ∈ a) || decide (v ∈ b)).length (intsK .i64 (((List.range k).map fun v : Nat => (v : Int)).filter fun v => decide (v ∈ a) || decide (v ∈ b))) ∧ Below w.heap.size w wr) (fun st _ => 32 - (intOf (st 6)).toNat) ?_ ?_
  · exact ⟨0, .slice none 0 0, by omega, by simp [go_sem], by simp [go_sem], by simp [go_sem], by simp [go_sem], World.ownsRow_nil _ _ _ _, Below.refl _ _⟩
  · rintro st wr ⟨k, ov, hk, e0, e1, e5, e6, hov, hB⟩
    by_cases hlt : k < 32
    · have hlt' : (k : Int) < 32 := by omega
      simp [go_sem, IntWalk.iteOmega, IntWalk.toNatUp, e0, e1, e5, e6, hlt, hlt']
      refine W_loop (fun st wz => ∃ (i : Nat), i ≤ a.length ∧ st 0 = .slice aA a.length ac ∧ st 1 = .slice bA b.length bc ∧ st 5 = ov ∧ st 6 = .int .i64 k ∧ st 7 = .bool (decide ((k : Int) ∈ a.take i)) ∧ st 8 = .int .i64 i ∧ wz = wr) (fun st _ => a.length - (intOf (st 8)).toNat) ?_ ?_
      · exact ⟨0, by omega, by simp [go_sem, e0], by simp [go_sem, e1], by simp [go_sem, e5], by simp [go_sem, e6], by simp [go_sem], by simp [go_sem], rfl⟩
      clear e0 e1 e5 e6
      rintro s2 wz ⟨i, hi, e0, e1, e5, e6, e7, e8, rfl⟩
      by_cases hil : i < a.length
      · have hil' : (i : Int) < a.length := by omega
        obtain ⟨gb, go, rfl, hgb, hgc⟩ := (ha.keep hB).cells (by omega)
        have x0 := hgc i (.int .i64 a[i]) (by simp [intsK, hil])
        have hst : ((k : Int) ∈ a.take (i + 1)) ↔ ((k : Int) ∈ a.take i ∨ a[i] = (k : Int)) := by
          rw [take_snoc' hil, List.mem_append, List.mem_singleton]
          exact or_congr Iff.rfl eq_comm
        by_cases hin : (k : Int) ∈ a.take i
        · have hind : decide ((k : Int) ∈ a.take i) = true := by simpa using hin
          have hst2 : decide ((k : Int) ∈ a.take (i + 1)) = true := by simpa using hst.2 (.inl hin)
          rw [hind] at e7
          simp [go_sem, IntWalk.iteOmega, IntWalk.toNatUp, e0, e1, e5, e6, e7, e8, hil, hil']
          refine roundEnd.mk ⟨i + 1, by omega, by simp [go_sem, e0], by simp [go_sem, e1], by simp [go_sem, e5], by simp [go_sem, e6], by simp [go_sem, hst2], by simp [go_sem], rfl⟩ ?_
          simp [go_sem, intOf, e8]; omega
        · have hind : decide ((k : Int) ∈ a.take i) = false := by simpa using hin
          rw [hind] at e7
          by_cases hx : a[i] = (k : Int)
          · have hst2 : decide ((k : Int) ∈ a.take (i + 1)) = true := by simpa using hst.2 (.inr hx)
            have hx' : (a[i] == (k : Int)) = true := by simpa using hx
            simp [go_sem, IntWalk.iteOmega, IntWalk.toNatUp, e0, e1, e5, e6, e7, e8, hil, hil', x0, hx']
            refine roundEnd.mk ⟨i + 1, by omega, by simp [go_sem, e0], by simp [go_sem, e1], by simp [go_sem, e5], by simp [go_sem, e6], by simp [go_sem, hst2], by simp [go_sem], rfl⟩ ?_
            simp [go_sem, intOf, e8]; omega
          · have hst2 : decide ((k : Int) ∈ a.take (i + 1)) = false := by
              simp only [decide_eq_false_iff_not]
              exact fun h => (hst.1 h).elim hin hx
            have hx' : (a[i] == (k : Int)) = false := by simpa using hx
            simp [go_sem, IntWalk.iteOmega, IntWalk.toNatUp, e0, e1, e5, e6, e7, e8, hil, hil', x0, hx']
            refine roundEnd.mk ⟨i + 1, by omega, by simp [go_sem, e0], by simp [go_sem, e1], by simp [go_sem, e5], by simp [go_sem, e6], by simp [go_sem, hst2], by simp [go_sem], rfl⟩ ?_
            simp [go_sem, intOf, e8]; omega
      · obtain rfl : i = a.length := by omega
        have hil' : ¬ (a.length : Int) < a.length := by omega
        rw [List.take_of_length_le (Nat.le_refl _)] at e7
        simp [go_sem, IntWalk.iteOmega, IntWalk.toNatUp, e0, e1, e5, e6, e7, e8, hil']
        refine W_loop (fun st wy => ∃ (i : Nat), i ≤ b.length ∧ st 0 = .slice aA a.length ac ∧ st 1 = .slice bA b.length bc ∧ st 5 = ov ∧ st 6 = .int .i64 k ∧ st 7 = .bool (decide ((k : Int) ∈ a ∨ (k : Int) ∈ b.take i)) ∧ st 9 = .int .i64 i ∧ wy = wz) (fun st _ => b.length - (intOf (st 9)).toNat) ?_ ?_
        · exact ⟨0, by omega, by simp [go_sem, e0], by simp [go_sem, e1], by simp [go_sem, e5], by simp [go_sem, e6], by simp [go_sem, e7], by simp [go_sem], rfl⟩
        clear e0 e1 e5 e6 e7 e8
        rintro s3 wy ⟨i, hi2, e0, e1, e5, e6, e7, e9, rfl⟩
        by_cases hil2 : i < b.length
        · have hil2' : (i : Int) < b.length := by omega
          obtain ⟨gb, go, rfl, hgb, hgc⟩ := (hb.keep hB).cells (by omega)
          have x0 := hgc i (.int .i64 b[i]) (by simp [intsK, hil2])
          have hst : ((k : Int) ∈ a ∨ (k : Int) ∈ b.take (i + 1)) ↔ (((k : Int) ∈ a ∨ (k : Int) ∈ b.take i) ∨ b[i] = (k : Int)) := by
            rw [take_snoc' hil2, List.mem_append, List.mem_singleton, or_assoc]
            exact or_congr Iff.rfl (or_congr Iff.rfl eq_comm)
          by_cases hin : (k : Int) ∈ a ∨ (k : Int) ∈ b.take i
          · have hind : decide ((k : Int) ∈ a ∨ (k : Int) ∈ b.take i) = true := by simpa using hin
            have hst2 : decide ((k : Int) ∈ a ∨ (k : Int) ∈ b.take (i + 1)) = true := by
              rw [decide_eq_true_iff]
              exact hst.2 (.inl hin)
            rw [hind] at e7
            simp [go_sem, IntWalk.iteOmega, IntWalk.toNatUp, e0, e1, e5, e6, e7, e9, hil2, hil2']
            refine roundEnd.mk ⟨i + 1, by omega, by simp [go_sem, e0], by simp [go_sem, e1], by simp [go_sem, e5], by simp [go_sem, e6], by rw [hst2]; simp [go_sem], by simp [go_sem], rfl⟩ ?_
            simp [go_sem, intOf, e9]; omega
          · have hind : decide ((k : Int) ∈ a ∨ (k : Int) ∈ b.take i) = false := by simpa using hin
            rw [hind] at e7
            by_cases hx : b[i] = (k : Int)
            · have hst2 : decide ((k : Int) ∈ a ∨ (k : Int) ∈ b.take (i + 1)) = true := by
                rw [decide_eq_true_iff]
                exact hst.2 (.inr hx)
              have hx' : (b[i] == (k : Int)) = true := by simpa using hx
              simp [go_sem, IntWalk.iteOmega, IntWalk.toNatUp, e0, e1, e5, e6, e7, e9, hil2, hil2', x0, hx']
              refine roundEnd.mk ⟨i + 1, by omega, by simp [go_sem, e0], by simp [go_sem, e1], by simp [go_sem, e5], by simp [go_sem, e6], by rw [hst2]; simp [go_sem], by simp [go_sem], rfl⟩ ?_
              simp [go_sem, intOf, e9]; omega
            · have hst2 : decide ((k : Int) ∈ a ∨ (k : Int) ∈ b.take (i + 1)) = false := by
                rw [decide_eq_false_iff_not]
                exact fun h => (hst.1 h).elim hin hx
              have hx' : (b[i] == (k : Int)) = false := by simpa using hx
              simp [go_sem, IntWalk.iteOmega, IntWalk.toNatUp, e0, e1, e5, e6, e7, e9, hil2, hil2', x0, hx']
              refine roundEnd.mk ⟨i + 1, by omega, by simp [go_sem, e0], by simp [go_sem, e1], by simp [go_sem, e5], by simp [go_sem, e6], by rw [hst2]; simp [go_sem], by simp [go_sem], rfl⟩ ?_
              simp [go_sem, intOf, e9]; omega
        · obtain rfl : i = b.length := by omega
          have hil2' : ¬ (b.length : Int) < b.length := by omega
          rw [List.take_of_length_le (Nat.le_refl _)] at e7
          have hsn := joinTo_snoc a b k
          have hkl : (((List.range k).map fun v : Nat => (v : Int)).filter fun v => decide (v ∈ a) || decide (v ∈ b)).length ≤ k := by
            have := List.length_filter_le (fun v => decide (v ∈ a) || decide (v ∈ b)) ((List.range k).map fun v : Nat => (v : Int))
            simpa using this
          generalize (((List.range k).map fun v : Nat => (v : Int)).filter fun v => decide (v ∈ a) || decide (v ∈ b)) = pl at *
          by_cases hin : (k : Int) ∈ a ∨ (k : Int) ∈ b
          · have hind : decide ((k : Int) ∈ a ∨ (k : Int) ∈ b) = true := by simpa using hin
            rw [hind] at e7
            rw [if_pos hin] at hsn
            simp [go_sem, IntWalk.iteOmega, IntWalk.toNatUp, e0, e1, e5, e6, e7, e9, hil2']
            have kW := ext_alloc wy (.cells #[.int .i64 (k : Int)] 3)
            have hrd : Rd (wy.alloc (.cells #[.int .i64 (k : Int)] 3)) 1 (some ⟨wy.heap.size, 0, none⟩) 1 [.int .i64 (k : Int)] := rd_one (Blk.self_ rfl) rfl
            have hovW := row_below hov kW
            have kBW := hB.trans (kW.mono hB.size)
            generalize wy.alloc (.cells #[.int .i64 (k : Int)] 3) = wB at *
            refine appendE w.heap.size 3 1 8 Tryz.underlying50 el3 hovW hrd rfl (by unfold maxLen; omega) (by omega) kBW.size ?_
            intro v' w11 hr11 hg11 hbk11
            have hB11 := kBW.grown hg11 kBW.size (fun k hk => (hovW.lt k hk).1)
            simp [go_sem, IntWalk.iteOmega, IntWalk.toNatUp, e0, e1, e6]
            refine roundEnd.mk ⟨k + 1, v', by omega, by simp [go_sem, e0], by simp [go_sem, e1], by simp [go_sem], by simp [go_sem], ?_, hB11⟩ ?_
            · rw [hsn]
              have e : intsK .i64 pl ++ [.int .i64 (k : Int)] = intsK .i64 (pl ++ [(k : Int)]) := by simp [intsK]
              rw [e] at hr11
              rw [List.length_append]
              exact hr11
            · simp [go_sem, intOf]; omega
          · have hind : decide ((k : Int) ∈ a ∨ (k : Int) ∈ b) = false := by simpa using hin
            rw [hind] at e7
            rw [if_neg hin, List.append_nil] at hsn
            simp [go_sem, IntWalk.iteOmega, IntWalk.toNatUp, e0, e1, e5, e6, e7, e9, hil2']
            refine roundEnd.mk ⟨k + 1, ov, by omega, by simp [go_sem, e0], by simp [go_sem, e1], by simp [go_sem, e5], by simp [go_sem], by rw [hsn]; exact hov, hB⟩ ?_
            simp [go_sem, intOf]; omega
    · obtain rfl : k = 32 := by omega
      simp [go_sem, IntWalk.iteOmega, IntWalk.toNatUp, e0, e1, e5, e6]
      exact ⟨hov, hB⟩
end Go.Proofs.YtdjcjjodbniebaaGreatDoor
