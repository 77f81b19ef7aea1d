/-
  Texts joined: FGot.
-/
import Derived.Test.YtdjcjjodbniebaaGreatDoorJoin25
namespace Go.Proofs.YtdjcjjodbniebaaGreatDoor
open Go.RowKit
set_option linter.unusedVariables false
set_option linter.unusedSimpArgs false
set_option maxRecDepth 10000
theorem zeroB_lit : zeroB.toArray = #[Value.int IntKind.u8 0, Value.int IntKind.u8 0, Value.int IntKind.u8 0, Value.int IntKind.u8 0, Value.int IntKind.u8 0, Value.int IntKind.u8 0, Value.int IntKind.u8 0, Value.int IntKind.u8 0, Value.int IntKind.u8 0, Value.int IntKind.u8 0, Value.int IntKind.u8 0, Value.int IntKind.u8 0, Value.int IntKind.u8 0, Value.int IntKind.u8 0, Value.int IntKind.u8 0, Value.int IntKind.u8 0, Value.int IntKind.u8 0, Value.int IntKind.u8 0, Value.int IntKind.u8 0, Value.int IntKind.u8 0, Value.int IntKind.u8 0, Value.int IntKind.u8 0, Value.int IntKind.u8 0, Value.int IntKind.u8 0, Value.int IntKind.u8 0, Value.int IntKind.u8 0, Value.int IntKind.u8 0, Value.int IntKind.u8 0, Value.int IntKind.u8 0, Value.int IntKind.u8 0, Value.int IntKind.u8 0, Value.int IntKind.u8 0, Value.int IntKind.i64 0, Value.slice none 0 0] := rfl
def GotX (w : World) (O : Nat → Prop) (f : Nat) (R : FS × List Bk × Bool) (tv : Value) (rk ra ro : Nat) (vs : List Value) (st : Slots) (wr : World) : Prop :=
  ∃ Si ahead av full Ki, st 9 = av ∧ st 10 = .bool full ∧ R = (Si, ahead, full) ∧ (∃ A c, av = .slice A ahead.length c) ∧ ahead.length ≤ 16 ∧ FIn wr (Since O w wr) f Si tv rk ra ro vs Ki ∧ FOk Si ∧ Keeps (fun j => ¬ O j) w wr
set_option maxHeartbeats 6400000 in
theorem fgot_any {w : World} {O : Nat → Prop} {f : Nat} {S : FS} {tv : Value} {rk ra ro : Nat} {vs : List Value} {K : List (List UInt8 × Bk × Value)} (h : FIn w O f S tv rk ra ro vs K) (hok : FOk S) (hC : Cubes w) {id : List UInt8} (hid : id.length = 32)
    {A : Option Addr} {c : Nat} {vals : List Value} {raws : List (List UInt8)} (hr : Rd w 1 A raws.length vals) (hv : ∀ (i : Nat) (v : Value) (l : List UInt8), vals[i]? = some v → raws[i]? = some l → RdB w v l) (hc : raws.length ≤ c) (hc2 : c ≤ 9223372036854775807) (hA : ∀ j, atB raws.length A j → ¬ O j) (hvO : ∀ v ∈ vals, ∀ A n c, v = .slice A n c → ∀ j, atB n A j → ¬ O j) :
    callE Tryz.prog 21 #[.pointer (some ⟨f, 0, none⟩), .agg (bl id).toArray, .slice A raws.length c] w fun r w' => r = .tuple #[.int .i64 (gotF S id raws).1.1, .int .i64 (gotF S id raws).1.2] ∧ (∃ K', FIn w' (Since O w w') f (gotF S id raws).2 tv rk ra ro vs K') ∧ FOk (gotF S id raws).2 ∧ Keeps (fun j => ¬ O j) w w' := by
  have l32 : (bl id).length = 32 := by rw [bl_length]; exact hid
  have kA := ext_alloc w (.cells (bl id).toArray 27)
  have hI : Blk (w.alloc (.cells (bl id).toArray 27)) w.heap.size 27 (bl id).toArray := Blk.self_ rfl
  have hFA := h.keep kA
  have hw0 : 0 < w.heap.size := by have := h.blk.lt; omega
  have x1 := readCells_all hI 32 (by simpa using l32)
  refine calls_E Tryz.func21 rfl rfl rfl (Nat.le_of_ble_eq_true rfl) ?_
  simp [go_sem, IntWalk.iteOmega, IntWalk.toNatUp, x1]
  generalize w.alloc (.cells (bl id).toArray 27) = w1 at *
  refine callE_of (ffail_any hFA hok hid) ?_
  rintro _ w2 ⟨rfl, hF2, k2⟩
  have hK2 : Keeps (fun j => ¬ O j) w w2 := (Keeps.of_ext kA).trans k2
  have hI2 : Blk w2 w.heap.size 27 (bl id).toArray := k2.blk hI fun hO => by have := h.lt _ hO; omega
  by_cases hb : askedB S.asked id = true
  · have e0 : gotF S id raws = (gotE (gotL id (raws.take 16) { S with asked := delB id S.asked } []), (gotL id (raws.take 16) { S with asked := delB id S.asked } []).1) := by unfold gotF; rw [if_pos hb]
    have ef : failF S id = (0, { S with asked := delB id S.asked }) := by unfold failF; rw [if_pos hb]
    rw [ef] at hF2
    have hok1 := hok.asked_ (delB id S.asked)
    dsimp only at hF2
    generalize ({ S with asked := delB id S.asked } : FS) = S1 at *
    have hmin : IntKind.i64.wrap (min (raws.length : Int) 16) = ((min raws.length 16 : Nat) : Int) := by rw [wrap_i64_if, if_pos (by omega)]; omega
    have hmm : (min (raws.length : Int) 16) = ((min raws.length 16 : Nat) : Int) := by omega
    simp [go_sem, IntWalk.iteOmega, IntWalk.toNatUp, ef, hmm]
    have hmin16 : min raws.length 16 ≤ 16 := by omega
    have hrs : (raws.take 16).length = min raws.length 16 := by simp; omega
    generalize hR : gotL id (raws.take 16) S1 [] = R at *
    refine W_loopAt 0 (fun st wr => ∃ i Si ahead av xs Ki, i ≤ min raws.length 16 ∧ st 0 = .pointer (some ⟨f, 0, none⟩) ∧ st 4 = .pointer (some ⟨w.heap.size, 0, none⟩) ∧ st 9 = av ∧ st 10 = .bool false ∧ st 29 = .slice A (min raws.length 16) c ∧ st 30 = .int .i64 (min raws.length 16 : Nat) ∧ st 31 = .int .i64 i ∧ gotL id ((raws.take 16).drop i) Si ahead = R ∧ FIn wr (Since O w wr) f Si tv rk ra ro vs Ki ∧ FOk Si ∧ wr.ownsRow w.heap.size 29 34 av ahead.length (flat xs) ∧ xs.map Prod.fst = ahead ∧ (∀ x ∈ xs, ∃ a, (a, x) ∈ Ki) ∧ ahead.length ≤ i ∧ Blk wr w.heap.size 27 (bl id).toArray ∧ Keeps (fun j => ¬ O j) w wr) (fun st _ => 17 - (intOf (st 31)).toNat) (GotX w O f R tv rk ra ro vs) ?_ ?_ ?_
    · exact ⟨0, S1, [], .slice none 0 0, [], K, by omega, by simp [go_sem], by simp [go_sem], by simp [go_sem], by simp [go_sem], by simp [go_sem], by simp [go_sem], by simp [go_sem], hR, hF2.since w hK2.size hw0, hok1, World.ownsRow_nil _ _ _ _, rfl, by simp, by simp, hI2, hK2⟩
    · rintro st wr ⟨i, Si, ahead, av, xs, Ki, hi, d0, d4, d9, d10, d29, d30, d31, hL, hF, hokS, hov, hxs, hxK, hal, hIr, hKr⟩
      obtain ⟨-, vA, vc, rfl⟩ := own_sl hov
      have hn16 : ahead.length ≤ 16 := by omega
      have hszr : w.heap.size ≤ wr.heap.size := hKr.size
      by_cases hlt : i < min raws.length 16
      · have hlt' : (i : Int) < (min raws.length 16 : Nat) := by omega
        have hir : i < raws.length := by omega
        obtain ⟨ub, uo, eA, hub, huc⟩ := (Rd_on hr hKr hA).cells (by omega)
        have hvl := hr.len
        rw [Nat.mul_one] at hvl
        have hvi : vals[i]? = some (vals[i]'(by omega)) := List.getElem?_eq_getElem (by omega)
        have hli : raws[i]? = some raws[i] := List.getElem?_eq_getElem hir
        have x0 := huc i _ hvi
        have hrv0 := hv i _ _ hvi hli
        have hvm : vals[i]'(by omega) ∈ vals := List.getElem_mem _
        have hrd := (hrv0).on hKr (hvO _ hvm)
        have hdrop : (raws.take 16).drop i = raws[i] :: (raws.take 16).drop (i + 1) := by
          rw [List.drop_eq_getElem_cons (by omega)]
          simp
        rw [hdrop] at hL
        rw [gotL_cons] at hL
        generalize raws[i] = raw at *
        generalize vals[i]'(by omega) = v at *
        have hraw : raw.length ≤ 9223372036854775807 := by
          obtain ⟨_, _, _, _, _, h1, h2⟩ := _root_.id hrd
          omega
        simp [go_sem, IntWalk.iteOmega, IntWalk.toNatUp, d0, d4, d9, d10, d29, d30, d31, hlt', hlt, eA, x0]
        refine callE_of (bparse_any hrd hraw) ?_
        rintro _ w4 ⟨⟨dv, rfl, hdv⟩, k4⟩
        have hrd4 := hrd.keep k4
        have y2 : ∀ (k : Array Value) (t : TypeId), k.size = 34 → canWrite (w4.alloc (.cells k t)) ⟨w4.heap.size, 0, none⟩ 0 34 = true := fun k t hk => canWrite_all (Blk.self_ rfl) 34 hk
        have y3 : ∀ (k : Array Value) (t : TypeId) (l : List Value), k.size = 34 → l.length = 34 → storeSeg (w4.alloc (.cells k t)) ⟨w4.heap.size, 0, none⟩ 0 l = (w4.alloc (.cells k t)).setRow w4.heap.size l.toArray := fun k t l hk hl => storeSeg_all (Blk.self_ rfl) l (by omega)
        have hpo := @parse_ok raw
        have hbo := parse_bk raw
        have hps := @parse_short raw
        generalize (parseB raw).2 = pe at *
        generalize (parseB raw).1 = b at *
        have l34 : (bkv b dv).length = 34 := bkv_len hbo.len
        have hdO := hdv.lt
        have hdvo := own_mono (base' := 0) hdv (Nat.zero_le _)
        obtain ⟨-, dA, dc, rfl⟩ := own_sl hdvo
        have hb1 := bkv_one b dA b.data.length dc
        have k5 : Below wr.heap.size wr ((w4.alloc (.cells zeroB.toArray 29)).setRow w4.heap.size (bkv b (.slice dA b.data.length dc)).toArray) := below_setRow (k4.alloc k4.size _) k4.size _
        have k45 : Below w4.heap.size w4 ((w4.alloc (.cells zeroB.toArray 29)).setRow w4.heap.size (bkv b (.slice dA b.data.length dc)).toArray) := below_setRow (ext_alloc w4 _) (Nat.le_refl _) _
        have h13 : Blk ((w4.alloc (.cells zeroB.toArray 29)).setRow w4.heap.size (bkv b (.slice dA b.data.length dc)).toArray) w4.heap.size 29 (bkv b (.slice dA b.data.length dc)).toArray := Blk_setRow (Blk.self_ rfl)
        by_cases hpe : pe = 0
        · subst hpe
          rw [if_neg (by simp)] at hL
          have hck := (hpo rfl).2
          simp [go_sem, IntWalk.iteOmega, IntWalk.toNatUp, d0, d4, d9, d10, d29, d30, d31, y2, y3, l34, hb1]
          rw [← zeroB_lit]
          generalize (w4.alloc (.cells zeroB.toArray 29)).setRow w4.heap.size (bkv b (.slice dA b.data.length dc)).toArray = w5 at *
          have hdv5 := row_below hdvo k45
          have hrd5 := hrd4.keep k45
          have hCr : Cubes wr := hC.keeps hKr h.zero
          refine callE_of (shaSum_any v raw w5 hrd5 (hCr.keep k5) (by have := hps rfl; omega)) ?_
          rintro _ w6 ⟨rfl, k6⟩
          have z2 : ∀ (k : Array Value) (t : TypeId), k.size = 32 → canWrite (w6.alloc (.cells k t)) ⟨w6.heap.size, 0, none⟩ 0 32 = true := fun k t hk => canWrite_all (Blk.self_ rfl) 32 hk
          have z3 : ∀ (k : Array Value) (t : TypeId) (l : List Value), k.size = 32 → l.length = 32 → storeSeg (w6.alloc (.cells k t)) ⟨w6.heap.size, 0, none⟩ 0 l = (w6.alloc (.cells k t)).setRow w6.heap.size l.toArray := fun k t l hk hl => storeSeg_all (Blk.self_ rfl) l (by omega)
          have hnl : (sha raw).length = 32 := sha_length raw
          generalize sha raw = name at *
          have ln : (bl name).length = 32 := by rw [bl_length]; exact hnl
          simp [go_sem, IntWalk.iteOmega, IntWalk.toNatUp, d0, d4, d9, d10, d29, d30, d31, z2, z3, ln, bl_one]
          rw [← zeroI_lit]
          have k67 : Below w6.heap.size w6 ((w6.alloc (.cells zeroI.toArray 27)).setRow w6.heap.size (bl name).toArray) := below_setRow (ext_alloc w6 _) (Nat.le_refl _) _
          have h15 : Blk ((w6.alloc (.cells zeroI.toArray 27)).setRow w6.heap.size (bl name).toArray) w6.heap.size 27 (bl name).toArray := Blk_setRow (Blk.self_ rfl)
          generalize (w6.alloc (.cells zeroI.toArray 27)).setRow w6.heap.size (bl name).toArray = w7 at *
          have k57 : Below w5.heap.size w5 w7 := k6.trans (k67.mono k6.size)
          have k7 : Below wr.heap.size wr w7 := k5.trans (k57.mono k5.size)
          have hF7 := hF.keep k7
          have h137 : BkAt w7 w4.heap.size b (.slice dA b.data.length dc) := ⟨h13.keep k57, hbo, own_rdB (row_below hdv5 k57)⟩
          have hdv7 := row_below hdv5 k57
          have hI7 := hIr.keep k7
          have hov7 := row_below hov k7
          have hC7 := hCr.keep k7
          have hdO7 : ∀ j, (Value.slice dA b.data.length dc).ownBlock = some j → wr.heap.size ≤ j := fun j hj => (hdO j hj).1
          have p13 : w4.heap.size < w5.heap.size := h13.lt
          refine W_cutE (fun s8 w8 => ∃ bad : Bool, s8 0 = .pointer (some ⟨f, 0, none⟩) ∧ s8 4 = .pointer (some ⟨w.heap.size, 0, none⟩) ∧ s8 9 = .slice vA ahead.length vc ∧ s8 10 = .bool false ∧ s8 13 = .pointer (some ⟨w4.heap.size, 0, none⟩) ∧ s8 15 = .pointer (some ⟨w6.heap.size, 0, none⟩) ∧ s8 29 = .slice A (min raws.length 16) c ∧ s8 30 = .int .i64 (min raws.length 16 : Nat) ∧ s8 31 = .int .i64 i ∧ s8 62 = .bool bad ∧ (bad = true ↔ gotBad id ahead name b) ∧ Below w7.heap.size w7 w8) ?_ ?_
          · have kd := ext_drew w7
            have hr4 := held_refl (fun _ => True) w7.drew
            have u0 := readCells_all h15.drew 32 (by simpa using ln)
            have u1 := readCells_all hI7.drew 32 (by simpa using l32)
            have ul0 : w6.heap.size < w7.heap.size := h15.lt
            have ul1 : w.heap.size < w7.heap.size := hI7.lt
            have ul2 : w4.heap.size < w7.heap.size := h137.blk.lt
            have hq := fun W => id_eq name id hnl hid W
            refine W_flow (fun _ => True) (.pure 0 (.pure 1 (.pure 2 (.pure 3 (.pure 4 (.pure 5 (.pure 6 (.pure 7 (.pure 8 (.pure 9 (.pure 10 (.pure 11 (.pure 12 (.one 13 (.pure 14 (.pure 15 (.pure 16 (.done)))))))))))))))))) follows (by kernel_rfl) ?_
            by_cases hni : name = id
            · have hq' : (name == id) = true := by simpa using hni
              simp [go_sem, IntWalk.iteOmega, IntWalk.toNatUp, d0, d4, d9, d10, d29, d30, d31, hr4, u0, u1, ul0, ul1, hq, hq']
              refine atCut.mk ⟨false, by simp [go_sem, d0], by simp [go_sem, d4], by simp [go_sem, d9], by simp [go_sem, d10], by simp [go_sem], by simp [go_sem], by simp [go_sem, d29], by simp [go_sem, d30], by simp [go_sem, d31], by simp [go_sem], ?_, kd⟩
              simp [gotBad, hni]
            · have hq' : (name == id) = false := by simpa using hni
              by_cases hm : 0 < ahead.length
              · obtain ⟨m, hm1⟩ : ∃ m, ahead.length = m + 1 := ⟨ahead.length - 1, by omega⟩
                have hml : m < ahead.length := by omega
                have hmi' : (m : Int) < ahead.length := by omega
                have hm0 : ((ahead.length : Int) == 0) = false := by rw [beq_eq_false_iff_ne]; omega
                have hE : IntKind.i64.wrap ((ahead.length : Int) - 1) = (m : Int) := by rw [wrap_i64_if, if_pos (by omega)]; omega
                have hgl : ahead.getLast? = some ahead[m] := by rw [List.getLast?_eq_getElem?, hm1]; simp
                obtain ⟨ab, ao, eV, hab, hac⟩ := (Rd.of_own hov7).cells (by omega)
                obtain ⟨adv, hao, had, hacs⟩ := rd_block hxs (fun x hx => by
                  obtain ⟨y, hy⟩ := hxK x hx
                  exact ⟨(hF7.dat _ hy).1, own_rdB (hF7.dat _ hy).2.1⟩) hac hml
                have ra' : readCells w7.drew ⟨ab, ao + m * 34, none⟩ 0 34 = some (bkv ahead[m] adv) := readCells_cells 34 0 _ (bkv_len hao.len) (fun j v hj => by rw [show ao + m * 34 + 0 + j = ao + (34 * m + j) by omega]; exact hacs j v hj)
                have x4 := (h137.keep kd).all
                simp [go_sem, IntWalk.iteOmega, IntWalk.toNatUp, d0, d4, d9, d10, d29, d30, d31, hr4, u0, u1, ul0, ul1, ul2, hq, hq', hm0, hmi', hE, eV, hab, ra', x4]
                refine callE_of (blinked_any hao (had.keep kd) hbo (own_rdB (row_below hdv7 kd)) (hC7.keep kd)) ?_
                rintro _ w8 ⟨rfl, k8⟩
                have kk8 : Below w7.heap.size w7 w8 := kd.trans (k8.mono kd.size)
                have hr8 := hr4.below k8
                by_cases c3 : linkedB ahead[m] b = 0
                · simp [go_sem, IntWalk.iteOmega, IntWalk.toNatUp, d0, d4, d9, d10, d29, d30, d31, hr8, c3]
                  refine atCut.mk ⟨false, by simp [go_sem, d0], by simp [go_sem, d4], by simp [go_sem, d9, eV], by simp [go_sem, d10], by simp [go_sem], by simp [go_sem], by simp [go_sem, d29], by simp [go_sem, d30], by simp [go_sem, d31], by simp [go_sem], ?_, kk8⟩
                  simp only [Bool.false_eq_true, false_iff]
                  rintro ⟨_, h | ⟨c, h, h'⟩⟩
                  · rw [h] at hm; simp at hm
                  · rw [hgl] at h
                    injection h with h
                    subst h
                    exact h' c3
                · have c3' : (linkedB ahead[m] b != 0) = true := by simpa using c3
                  simp [go_sem, IntWalk.iteOmega, IntWalk.toNatUp, d0, d4, d9, d10, d29, d30, d31, hr8, c3']
                  refine atCut.mk ⟨true, by simp [go_sem, d0], by simp [go_sem, d4], by simp [go_sem, d9, eV], by simp [go_sem, d10], by simp [go_sem], by simp [go_sem], by simp [go_sem, d29], by simp [go_sem, d30], by simp [go_sem, d31], by simp [go_sem], ?_, kk8⟩
                  simp only [true_iff]
                  exact ⟨hni, .inr ⟨_, hgl, c3⟩⟩
              · have hm0 : ((ahead.length : Int) == 0) = true := by simp; exact List.length_eq_zero_iff.1 (by omega)
                simp [go_sem, IntWalk.iteOmega, IntWalk.toNatUp, d0, d4, d9, d10, d29, d30, d31, hr4, u0, u1, ul0, ul1, hq, hq', hm0]
                refine atCut.mk ⟨true, by simp [go_sem, d0], by simp [go_sem, d4], by simp [go_sem, d9], by simp [go_sem, d10], by simp [go_sem], by simp [go_sem], by simp [go_sem, d29], by simp [go_sem, d30], by simp [go_sem, d31], by simp [go_sem], ?_, kd⟩
                simp only [true_iff]
                exact ⟨hni, .inl (List.length_eq_zero_iff.1 (by omega))⟩
          · rintro s8 w8 ⟨bad, f0, f4, f9, f10, f13, f15, f29, f30, f31, f62, hbad, k8⟩
            have kk8 : Below wr.heap.size wr w8 := k7.trans (k8.mono k7.size)
            by_cases hbd : gotBad id ahead name b
            · rw [if_pos hbd] at hL
              have hbt : bad = true := hbad.2 hbd
              simp [go_sem, IntWalk.iteOmega, IntWalk.toNatUp, f0, f4, f9, f10, f29, f30, f31, f62, hbt]
              exact ⟨Si, ahead, .slice vA ahead.length vc, false, Ki, by simp [go_sem, f9], by simp [go_sem, f10], hL.symm, ⟨_, _, rfl⟩, hn16, (hF.keep kk8).lift kk8.size hw0, hokS, hKr.trans (Keeps.of_ext kk8)⟩
            · rw [if_neg hbd] at hL
              have hbt : bad = false := by cases bad with | false => rfl | true => exact absurd (hbad.1 rfl) hbd
              simp [go_sem, IntWalk.iteOmega, IntWalk.toNatUp, f0, f4, f9, f10, f29, f30, f31, f62, hbt]
              have hF8 := hF.keep kk8
              have h138 := h137.keep k8
              have h158 := h15.keep k8
              have hI8 := hI7.keep k8
              have hov8 := row_below hov7 k8
              have hdv8 := row_below hdv7 k8
              refine W_cutE (fun s9 w9 => s9 0 = .pointer (some ⟨f, 0, none⟩) ∧ s9 4 = .pointer (some ⟨w.heap.size, 0, none⟩) ∧ s9 9 = .slice vA ahead.length vc ∧ s9 10 = .bool false ∧ s9 13 = .pointer (some ⟨w4.heap.size, 0, none⟩) ∧ s9 15 = .pointer (some ⟨w6.heap.size, 0, none⟩) ∧ s9 29 = .slice A (min raws.length 16) c ∧ s9 30 = .int .i64 (min raws.length 16 : Nat) ∧ s9 31 = .int .i64 i ∧ s9 18 = .bool (keptOf Si name).isSome ∧ Below w8.heap.size w8 w9) ?_ ?_
              · have hlk : ∀ (W : World) (hm : MpI W rk (keptL Ki)), (Instr.lookup 68 (.map (some rk)) (.agg (bl name).toArray) true).run Tryz.prog W = .ok (.tuple #[(atId name (keptL Ki)).getD (.agg zeroB.toArray), .bool (atId name (keptL Ki)).isSome]) W := fun W hm => (run_lookupI idKey hm Tryz.underlying68 name hnl (zero_block W)).1
                have hlook := hF8.look name
                have hc35 := ((hF8.keep (ext_drew w8)).cells hokS.last).2.2.2.1
                refine W_flow (fun _ => True) (.pure 0 (.pure 1 (.pure 2 (.pure 3 (.pure 4 (.two 5 (.pure 6 (.pure 7 (.pure 8 (.one 9 (.one 10 (.pure 11 (.done))))))) 9 (.one 5 (.pure 6 (.pure 7 (.pure 8 (.one 10 (.pure 11 (.done))))))))))))) follows (by kernel_rfl) ?_
                have hr := held_refl (fun _ => True) w8.drew
                have hpl : w6.heap.size < w8.heap.size := h158.lt
                have hflt : f < w8.heap.size := hF8.blk.lt
                have z0 := readCells_all h158.drew 32 (by simpa using ln)
                have hl1 := hlk w8.drew (hF8.mpk.keep (ext_drew w8))
                have hl2 := fun (k : Array Value) (t : TypeId) => hlk (w8.alloc (.cells k t)).drew ((hF8.mpk.keep (ext_alloc w8 _)).keep (ext_drew _))
                have v2 : ∀ (k : Array Value) (t : TypeId), k.size = 34 → canWrite (w8.alloc (.cells k t)).drew ⟨w8.heap.size, 0, none⟩ 0 34 = true := fun k t hk => canWrite_all (Blk.self_ rfl) 34 hk
                have v3 : ∀ (k : Array Value) (t : TypeId) (l : List Value), k.size = 34 → l.length = 34 → storeSeg (w8.alloc (.cells k t)).drew ⟨w8.heap.size, 0, none⟩ 0 l = (w8.alloc (.cells k t)).drew.setRow w8.heap.size l.toArray := fun k t l hk hl => storeSeg_all (w := (w8.alloc (.cells k t)).drew) (Blk.drew (Blk.self_ rfl)) l (by rw [hk, hl])
                have hz34 : zeroB.length = 34 := rfl
                have hz1 : allOne zeroB = true := rfl
                have hA1 : ∀ (k : Array Value) (t : TypeId), heldE (fun _ => True) w8.drew (w8.alloc (.cells k t)).drew := fun k t => hr.alloc _
                have kA8 : ∀ (k : Array Value) (t : TypeId) (l : Array Value), Below w8.heap.size w8 ((w8.alloc (.cells k t)).drew.setRow w8.heap.size l) := fun k t l => below_setRow ((ext_alloc w8 _).drew) (Nat.le_refl _) _
                have hA2 : ∀ (k : Array Value) (t : TypeId) (l : Array Value), heldE (fun _ => True) w8.drew ((w8.alloc (.cells k t)).drew.setRow w8.heap.size l) := fun k t l => ⟨(kA8 k t l).size, fun g _ hg => (kA8 k t l).block g hg⟩
                cases hkb : keptOf Si name with
                | none =>
                  rw [hkb] at hlook
                  have hat : atId name (keptL Ki) = none := hlook
                  simp [go_sem, IntWalk.iteOmega, IntWalk.toNatUp, f0, f4, f9, f10, f13, f15, f29, f30, f31, hr, hpl, hflt, hc35, z0, hl1, hl2, v2, v3, hz34, hz1, hat, hA1, hA2]
                  refine ⟨?_, ?_⟩ <;>
                  · exact atCut.mk ⟨by simp [go_sem, f0], by simp [go_sem, f4], by simp [go_sem, f9], by simp [go_sem, f10], by simp [go_sem, f13], by simp [go_sem, f15], by simp [go_sem, f29], by simp [go_sem, f30], by simp [go_sem, f31], by simp [go_sem], kA8 _ _ _⟩
                | some b' =>
                  rw [hkb] at hlook
                  obtain ⟨dv', hmem, hat⟩ := hlook
                  have hbo' : BkOk b' := (hF8.dat _ hmem).1
                  have hbd' : w8.ownsRow 0 5 1 dv' b'.data.length (bl b'.data) := (hF8.dat _ hmem).2.1
                  have l34' := bkv_len (dv := dv') hbo'.len
                  obtain ⟨-, dA', dc', rfl⟩ := own_sl hbd'
                  have hb1' := bkv_one b' dA' b'.data.length dc'
                  simp [go_sem, IntWalk.iteOmega, IntWalk.toNatUp, f0, f4, f9, f10, f13, f15, f29, f30, f31, hr, hpl, hflt, hc35, z0, hl1, hl2, v2, v3, l34', hat, hb1', hA1, hA2]
                  refine ⟨?_, ?_⟩ <;>
                  · exact atCut.mk ⟨by simp [go_sem, f0], by simp [go_sem, f4], by simp [go_sem, f9], by simp [go_sem, f10], by simp [go_sem, f13], by simp [go_sem, f15], by simp [go_sem, f29], by simp [go_sem, f30], by simp [go_sem, f31], by simp [go_sem], kA8 _ _ _⟩
              · rintro s9 w9 ⟨g0, g4, g9, g10, g13, g15, g29, g30, g31, g18, k9⟩
                simp [go_sem, IntWalk.iteOmega, IntWalk.toNatUp, g0, g4, g9, g10, g29, g30, g31, g18]
                refine W_still follows (by kernel_rfl) ?_
                have kk9 : Below wr.heap.size wr w9 := kk8.trans (k9.mono kk8.size)
                have kd9 : Below wr.heap.size wr w9.drew := kk9.drew
                have hF9 := hF.keep kd9
                have h159 := (h158.keep k9).drew
                have x5 := readCells_all h159 32 (by simpa using ln)
                have x6 := hF9.idcells hokS.last
                have hq := fun W => id_eq name Si.last hnl hokS.last W
                cases hkb : keptOf Si name with
                | some b' =>
                  rw [if_pos (.inl (by rw [hkb]; simp))] at hL
                  simp [go_sem, IntWalk.iteOmega, IntWalk.toNatUp, g0, g4, g9, g10, g29, g30, g31, g18, hkb]
                  exact ⟨Si, ahead, .slice vA ahead.length vc, false, Ki, by simp [go_sem, g9], by simp [go_sem, g10], hL.symm, ⟨_, _, rfl⟩, hn16, hF9.lift kd9.size hw0, hokS, hKr.trans (Keeps.of_ext kd9)⟩
                | none =>
                  by_cases hnl2 : name = Si.last
                  · rw [if_pos (.inr hnl2)] at hL
                    have hq' : (name == Si.last) = true := by simpa using hnl2
                    simp [go_sem, IntWalk.iteOmega, IntWalk.toNatUp, g0, g4, g9, g10, g13, g15, g29, g30, g31, g18, hkb, x5, x6, hq, hq']
                    exact ⟨Si, ahead, .slice vA ahead.length vc, false, Ki, by simp [go_sem, g9], by simp [go_sem, g10], hL.symm, ⟨_, _, rfl⟩, hn16, hF9.lift kd9.size hw0, hokS, hKr.trans (Keeps.of_ext kd9)⟩
                  · rw [if_neg (by rintro (h | h); exact h hkb; exact hnl2 h)] at hL
                    have hq' : (name == Si.last) = false := by simpa using hnl2
                    simp [go_sem, IntWalk.iteOmega, IntWalk.toNatUp, g0, g4, g9, g10, g13, g15, g29, g30, g31, g18, hkb, x5, x6, hq, hq']
                    have hF10 := hF9.keep (ext_drew w9.drew)
                    have kd10 := kd9.drew
                    have hc33 := (hF10.cells hokS.last).2.1
                    have hc35 := (hF10.cells hokS.last).2.2.2.1
                    have hlen10 := hF10.lenK
                    refine W_still follows (by kernel_rfl) ?_
                    by_cases hrm : Si.room ≤ Si.kept.length
                    · rw [if_pos hrm] at hL
                      simp [go_sem, IntWalk.iteOmega, IntWalk.toNatUp, g0, g4, g9, g10, g29, g30, g31, hc33, hc35, hlen10, hrm]
                      exact ⟨Si, ahead, .slice vA ahead.length vc, true, Ki, by simp [go_sem, g9], by simp [go_sem, g10], hL.symm, ⟨_, _, rfl⟩, hn16, hF10.lift kd10.size hw0, hokS, hKr.trans (Keeps.of_ext kd10)⟩
                    · rw [if_neg hrm] at hL
                      simp [go_sem, IntWalk.iteOmega, IntWalk.toNatUp, g0, g4, g9, g10, g29, g30, g31, hc33, hc35, hlen10, hrm]
                      have hok10 := hokS.addK (name := name) hrm ⟨hbo, hck⟩
                      have k910 : Below w9.heap.size w9 w9.drew.drew := (ext_drew w9).drew
                      have h1510 := (h158.keep k9).keep k910
                      have h1310 := (h138.keep k9).keep k910
                      have hI10 := (hI8.keep k9).keep k910
                      have hov10 := row_below (row_below hov8 k9) k910
                      have hdv10 := row_below (row_below hdv8 k9) k910
                      generalize w9.drew.drew = w10 at *
                      have hI11 := hI10.drew
                      have hF11 := hF10.keep (ext_drew w10)
                      have hc35 := (hF11.cells hokS.last).2.2.2.1
                      have x7 := readCells_all h1510.drew 32 (by simpa using ln)
                      have x8 := (h1310.keep (ext_drew w10)).all
                      have hfk : f ≠ rk := blk_map hF10.blk hF10.mpk
                      have h15k : w6.heap.size ≠ rk := blk_map h1510 hF10.mpk
                      have h13k : w4.heap.size ≠ rk := blk_map h1310.blk hF10.mpk
                      have hIk : w.heap.size ≠ rk := blk_map hI10 hF10.mpk
                      have hll1 : f < w10.heap.size := hF10.blk.lt
                      have hll2 : w6.heap.size < w10.heap.size := h1510.lt
                      have hll3 : w4.heap.size < w10.heap.size := h1310.blk.lt
                      have hqq := held_refl (fun g => g ≠ rk) w10.drew
                      obtain ⟨w12, hup, hm12, ht12⟩ := run_mapUpdateI idKey hF11.mpk Tryz.underlying68 name hnl (.agg (bkv b (.slice dA b.data.length dc)).toArray)
                      have hup' : (Instr.mapUpdate 68 (.map (some rk)) (.agg (bl name).toArray) (.agg (bkv b (.slice dA b.data.length dc)).toArray)).run Tryz.prog w10.drew = .ok () w12 := hup
                      have hq12 := ht12.held (N := fun g => g ≠ rk) (by simp) hqq
                      refine W_flow (fun g => g ≠ rk) (.pure 0 (.pure 1 (.pure 2 (.pure 3 (.pure 4 (.pure 5 (.one 6 (.done)))))))) follows (by kernel_rfl) ?_
                      simp [go_sem, IntWalk.iteOmega, IntWalk.toNatUp, g0, g4, g9, g10, g13, g15, g29, g30, g31, hc35, x7, x8, hfk, h15k, h13k, hll1, hll2, hll3, hqq, hup', hq12]
                      have kx : wr.heap.size ≤ w10.heap.size := kd10.size
                      have hF11l := hF11.lift (w2 := w10.drew) kx hw0
                      have hdv11 := row_below hdv10 (ext_drew w10)
                      have hF12 := hF11l.addK (ht12.keeps (by simp)) hm12 hkb hbo hdv11 (fun j hj => .inr ⟨by have := hdO7 j hj; omega, (hdv11.lt j hj).2⟩)
                      have hF12 := hF12.lift (w2 := w12) (Nat.le_of_eq ht12.size.symm) hw0
                      have h1312 : Blk w12 w4.heap.size 29 (bkv b (.slice dA b.data.length dc)).toArray := ht12.blk (h1310.keep (ext_drew w10)).blk h13k
                      have hI12 : Blk w12 w.heap.size 27 (bl id).toArray := ht12.blk hI11 hIk
                      have hov12 := row_keeps (row_below hov10 (ext_drew w10)) (ht12.keeps (O := fun j => j ≠ rk) (by simp)) (fun j hj e => row_map (row_below hov10 (ext_drew w10)) hF11.mpk (e ▸ hj))
                      have hK12 : Keeps (fun j => ¬ O j) w w12 := (hKr.trans (Keeps.of_ext kd10.drew)).trans (ht12.keeps (fun h' => h' h.ok))
                      have x9 := readCells_all h1312 34 (by simpa using l34)
                      simp [go_sem, IntWalk.iteOmega, IntWalk.toNatUp, g0, g4, g9, g10, g29, g30, g31, x9, l34]
                      have hfb := fold_bk _ l34
                      rw [hfb]
                      have kW := ext_alloc w12 (.cells (bkv b (.slice dA b.data.length dc)).toArray 29)
                      have hrdb : Rd (w12.alloc (.cells (bkv b (.slice dA b.data.length dc)).toArray 29)) 34 (some ⟨w12.heap.size, 0, none⟩) 1 (bkv b (.slice dA b.data.length dc)) := rd_one (Blk.self_ rfl) l34
                      have hFW := (hF12.keep kW).lift kW.size hw0
                      have hovW := row_below hov12 kW
                      have hIW := hI12.keep kW
                      have hKW := hK12.trans (Keeps.of_ext kW)
                      generalize w12.alloc (.cells (bkv b (.slice dA b.data.length dc)).toArray 29) = wA at *
                      refine appendE w.heap.size 29 34 64 Tryz.underlying24 el29 hovW hrdb hb1 (by unfold maxLen; omega) (by omega) hKW.size ?_
                      intro v' w14 hr14 hg14 hbk14
                      have hF14 := (hFW.offRow hovW (by decide) (by decide) (by decide) (by decide) hg14).lift hg14.size hw0
                      have hI14 : Blk w14 w.heap.size 27 (bl id).toArray := (hg14.block _ hIW.lt (fun e => row_ne hovW hIW (by decide) e.symm)).trans hIW
                      have hK14 : Keeps (fun j => ¬ O j) w w14 := ⟨hg14.os.trans hKW.os, hg14.tape.trans hKW.tape, hg14.output.trans hKW.output, Nat.le_trans hKW.size hg14.size, fun k hk hn => (hg14.block k (Nat.lt_of_lt_of_le hk hKW.size) (fun e => by have := (hovW.lt k e.symm).1; omega)).trans (hKW.block k hk hn)⟩
                      simp [go_sem, IntWalk.iteOmega, IntWalk.toNatUp, g0, g4, g9, g10, g29, g30, g31]
                      refine roundEnd.mk ⟨i + 1, _, ahead ++ [b], v', xs ++ [(b, .slice dA b.data.length dc)], Ki ++ [(name, b, .slice dA b.data.length dc)], by omega, by simp [go_sem, g0], by simp [go_sem, g4], by simp [go_sem], by simp [go_sem, g10], by simp [go_sem, g29], by simp [go_sem, g30], by simp [go_sem], hL, hF14, hok10, ?_, by simp [hxs], fun x hx => ?_, by simp; omega, hI14, hK14⟩ ?_
                      · have h0 : flat xs ++ bkv b (.slice dA b.data.length dc) = flat (xs ++ [(b, .slice dA b.data.length dc)]) := by simp [flat]
                        rw [h0] at hr14
                        rw [List.length_append]
                        exact hr14
                      · rcases List.mem_append.1 hx with hx | hx
                        · obtain ⟨y, hy⟩ := hxK x hx
                          exact ⟨y, by simp [hy]⟩
                        · obtain rfl : x = _ := by simpa using hx
                          exact ⟨name, by simp⟩
                      · simp [go_sem, intOf]
                        omega
        · rw [if_pos hpe] at hL
          have hpe' : (pe != 0) = true := by simpa using hpe
          simp [go_sem, IntWalk.iteOmega, IntWalk.toNatUp, d0, d4, d9, d10, d29, d30, d31, y2, y3, l34, hb1, hpe']
          rw [← zeroB_lit]
          exact ⟨Si, ahead, .slice vA ahead.length vc, false, Ki, by simp [go_sem, d9], by simp [go_sem, d10], hL.symm, ⟨_, _, rfl⟩, hn16, (hF.keep k5).lift k5.size hw0, hokS, hKr.trans (Keeps.of_ext k5)⟩
      · obtain rfl : i = min raws.length 16 := by omega
        have hlt' : ¬ ((min raws.length 16 : Nat) : Int) < (min raws.length 16 : Nat) := by omega
        rw [List.drop_of_length_le (by omega), gotL_nil] at hL
        simp [go_sem, IntWalk.iteOmega, IntWalk.toNatUp, d0, d4, d9, d10, d29, d30, d31, hlt']
        exact ⟨Si, ahead, .slice vA ahead.length vc, false, Ki, d9, d10, hL.symm, ⟨_, _, rfl⟩, hn16, hF, hokS, hKr⟩
    · rintro st wr ⟨Si, ahead, av, full, Ki, d9, d10, hL, ⟨vA, vc, rfl⟩, hn16, hF, hokS, hKr⟩
      rw [hL] at e0
      by_cases ha : 0 < ahead.length
      · have ha' : (0 : Int) < ahead.length := by omega
        have hne : ahead ≠ [] := by rintro rfl; simp at ha
        have e1 : gotF S id raws = (((ahead.length : Int), 0), Si) := by rw [e0]; unfold gotE; rw [if_pos hne]
        simp [go_sem, IntWalk.iteOmega, IntWalk.toNatUp, d9, d10, ha', ha, e1]
        exact ⟨⟨Ki, hF⟩, hokS, hKr⟩
      · have ha' : ¬ (0 : Int) < ahead.length := by omega
        have hne : ahead = [] := List.length_eq_zero_iff.1 (by omega)
        cases full with
        | true =>
          have e1 : gotF S id raws = ((0, 6), Si) := by rw [e0]; unfold gotE; simp [hne]
          simp [go_sem, IntWalk.iteOmega, IntWalk.toNatUp, d9, d10, ha', ha, e1]
          exact ⟨⟨Ki, hF⟩, hokS, hKr⟩
        | false =>
          have e1 : gotF S id raws = ((0, 8), Si) := by rw [e0]; unfold gotE; simp [hne]
          simp [go_sem, IntWalk.iteOmega, IntWalk.toNatUp, d9, d10, ha', ha, e1]
          exact ⟨⟨Ki, hF⟩, hokS, hKr⟩
  · have e0 : gotF S id raws = ((0, 4), S) := by unfold gotF; rw [if_neg hb]
    have ef : failF S id = (4, S) := by unfold failF; rw [if_neg hb]
    rw [ef] at hF2
    simp [go_sem, IntWalk.iteOmega, IntWalk.toNatUp, ef, e0]
    exact ⟨⟨K, hF2.since w hK2.size hw0⟩, hok, hK2⟩
end Go.Proofs.YtdjcjjodbniebaaGreatDoor
