/-
  Texts joined: FWorld, FPick, FContI.
-/
import Derived.Test.YtdjcjjodbniebaaGreatDoorJoin37
namespace Go.Proofs.YtdjcjjodbniebaaGreatDoor
open Go.RowKit
set_option linter.unusedVariables false
set_option linter.unusedSimpArgs false
set_option maxRecDepth 10000
theorem flat_one {w : World} {xs : List (Bk × Value)} (hx : ∀ x ∈ xs, RdB w x.2 x.1.data) : allOne (flat xs) = true := allOne_of fun v hv => by
  unfold flat at hv
  obtain ⟨x, hx', hv⟩ := List.mem_flatMap.1 hv
  obtain ⟨A', c', e, _⟩ := hx x hx'
  have := bkv_one x.1 A' x.1.data.length c'
  rw [← e] at this
  exact allOne_mem this v hv
theorem flat_app (xs ys : List (Bk × Value)) : flat (xs ++ ys) = flat xs ++ flat ys := by simp [flat]
/-- blocks behind blocks of an own row -/
theorem app_bks {wA : World} {base : Nat} {d : Value} {xs1 xs2 : List (Bk × Value)} (hd : wA.ownsRow base 29 34 d xs1.length (flat xs1)) (hbs : base ≤ wA.heap.size) {A : Option Addr} {c n : Nat} (hn : xs2.length = n) (hr : Rd wA 34 A n (flat xs2))
    (hx : ∀ x ∈ xs1 ++ xs2, BkOk x.1 ∧ RdB wA x.2 x.1.data ∧ ∀ A n c, x.2 = .slice A n c → ∀ j, atB n A j → d.ownBlock ≠ some j) (hl : xs1.length + n ≤ 1000) {ty : Nat} {k : Kont}
    (hk : ∀ v' w', w'.ownsRow base 29 34 v' (xs1 ++ xs2).length (flat (xs1 ++ xs2)) → (∀ x ∈ xs1 ++ xs2, BkOk x.1 ∧ RdB w' x.2 x.1.data) → wA.grownBy w' d.ownBlock → (v'.ownBlock = d.ownBlock ∨ v'.ownBlock = some wA.heap.size) → k v' w') : resE Tryz.prog (appendR Tryz.prog 24 24 ty d (.slice A n c) wA) k := by
  subst hn
  refine appendE base 29 34 64 Tryz.underlying24 el29 hd hr (flat_one fun x hx' => (hx x (List.mem_append_right _ hx')).2.1) (by unfold maxLen; omega) (by omega) hbs ?_
  intro v' w' hr' hg' hb'
  refine hk v' w' (by rw [List.length_append, flat_app]; exact hr') (fun x hx' => ?_) hg' hb'
  obtain ⟨h1, h2, h3⟩ := hx x hx'
  exact ⟨h1, h2.on (Keeps.grown (O := fun j => d.ownBlock ≠ some j) hg' fun k hk h => h hk) h3⟩
/-- an own row of blocks that reads -/
theorem bksR_own {w : World} {base : Nat} {v : Value} {xs : List (Bk × Value)} (h : w.ownsRow base 29 34 v xs.length (flat xs)) (hx : ∀ x ∈ xs, BkOk x.1 ∧ RdB w x.2 x.1.data) : BksR w v (xs.map Prod.fst) := by
  obtain ⟨-, A, c, rfl⟩ := own_sl h
  have hc := own_caps h
  exact ⟨A, c, xs, by rw [List.length_map], rfl, by rw [List.length_map]; exact Rd.of_own h, by rw [List.length_map]; exact hc.1, hc.2, hx⟩
def hB : Bk := ⟨zeroId, 0, [104]⟩
theorem hB_ok : BkOk hB := ⟨by decide, by decide, by decide⟩
theorem hB_check : checkB hB = 0 := by decide
def wK (n : UInt8) : Nat := 1 + n.toNat % 12
def wA (n : UInt8) : List Bk := rowL 1 (wK n) firstB
def wM (n : UInt8) : Bk := (firstB :: wA n).getD (wK n / 2) firstB
def wB (n : UInt8) : List Bk := (wA n).take (wK n / 2) ++ rowL 2 3 (wM n)
def wC (n : UInt8) : List Bk := rowL 3 (wK n) hB
theorem flat_take_ : ∀ (xs : List (Bk × Value)) (m : Nat), (∀ x ∈ xs, x.1.parent.length = 32) → (flat xs).take (m * 34) = flat (xs.take m)
  | [], m, _ => by simp [flat]
  | x :: xs, 0, _ => by simp [flat]
  | x :: xs, m + 1, h => by
    have h34 : (bkv x.1 x.2).length = 34 := bkv_len (h x (by simp))
    show (bkv x.1 x.2 ++ flat xs).take ((m + 1) * 34) = bkv x.1 x.2 ++ flat (xs.take m)
    rw [List.take_append, h34, List.take_of_length_le (by omega), show (m + 1) * 34 - 34 = m * 34 by omega, flat_take_ xs m fun y hy => h y (by simp [hy])]
theorem rd_take {w : World} {A : Option Addr} {xs : List (Bk × Value)} (h : Rd w 34 A xs.length (flat xs)) (hx : ∀ x ∈ xs, BkOk x.1) {m : Nat} (hm : m ≤ xs.length) : Rd w 34 A m (flat (xs.take m)) := by
  have hp : ∀ x ∈ xs, x.1.parent.length = 32 := fun x hx' => (hx x hx').len
  refine ⟨?_, fun h0 => ?_⟩
  · rw [← flat_take_ xs m hp, List.length_take, h.len]
    omega
  · obtain ⟨g, o, e, hg, hc⟩ := h.cells (by omega)
    refine ⟨g, o, e, hg, fun j v hj => hc j v ?_⟩
    rw [← flat_take_ xs m hp, List.getElem?_take] at hj
    split at hj
    · exact hj
    · cases hj
theorem rowL_len' (which : UInt8) : ∀ (n : Nat) (p : Bk), (rowL which n p).length = n
  | 0, _ => rfl
  | n + 1, p => by show (rowL which n _).length + 1 = n + 1; rw [rowL_len' which n]
theorem far_of {w : World} {dv : Value} {d : List UInt8} (hd : RdB w dv d) : ∀ A n c, dv = .slice A n c → ∀ j, atB n A j → j < w.heap.size := by
  intro A n c e j hj
  obtain ⟨A', c', e', hr, -⟩ := hd
  rw [e'] at e
  injection e with e1 e2 e3
  subst e1 e2 e3
  exact atB_lt hr hj
theorem far_own {w : World} {base e size n : Nat} {v : Value} {us : List Value} (h : w.ownsRow base e size v n us) : ∀ A m c, v = .slice A m c → ∀ j, atB m A j → v.ownBlock = some j ∧ base ≤ j ∧ j < w.heap.size := by
  intro A m c ev j hj
  obtain ⟨-, A', c', rfl⟩ := own_sl h
  injection ev with e1 e2 e3
  subst e1 e2 e3
  have h1 := atB_row h hj
  exact ⟨h1, h.lt j h1⟩
set_option maxHeartbeats 6400000 in
theorem world_any {w : World} {n : UInt8} :
    callE Tryz.prog 26 #[.int .u8 n.toNat] w fun r w' => ∃ a b c, r = .agg #[a, b, c] ∧ BksR w' a (wA n) ∧ BksR w' b (wB n) ∧ BksR w' c (wC n) ∧ Below w.heap.size w w' := by
  obtain ⟨k0, hk0⟩ : ∃ k0, k0 = n.toNat % 12 := ⟨_, rfl⟩
  obtain ⟨k, hk⟩ : ∃ k, k = 1 + k0 := ⟨_, rfl⟩
  have hwk : wK n = k := by unfold wK; omega
  obtain ⟨hf, hhf⟩ : ∃ hf, hf = k / 2 := ⟨_, rfl⟩
  have v1 : (n.toNat : Int).tmod 12 = (k0 : Int) := by rw [hk0, Int.tmod_eq_emod_of_nonneg (by omega)]; omega
  have v2 : IntKind.i64.wrap (k0 : Int) = (k0 : Int) := by rw [wrap_i64_if, if_pos (by omega)]
  have v3 : IntKind.i64.wrap (1 + (k0 : Int)) = (k : Int) := by rw [wrap_i64_if, if_pos (by omega)]; omega
  have v4 : (k : Int) / 2 = (hf : Int) := by omega
  have v5 : IntKind.i64.wrap ((k : Int).tdiv 2) = (hf : Int) := by rw [Int.tdiv_eq_ediv_of_nonneg (by omega), v4, wrap_i64_if, if_pos (by omega)]
  have kA := ext_alloc w (.cells #[.slice none 0 0, .slice none 0 0, .slice none 0 0] 60)
  have hT : Blk (w.alloc (.cells #[.slice none 0 0, .slice none 0 0, .slice none 0 0] 60)) w.heap.size 60 #[.slice none 0 0, .slice none 0 0, .slice none 0 0] := Blk.self_ rfl
  refine calls_E Tryz.func26 rfl rfl rfl (Nat.le_of_ble_eq_true rfl) ?_
  simp [go_sem, IntWalk.iteOmega, IntWalk.toNatUp, v1, v2, v3]
  generalize w.alloc (.cells #[.slice none 0 0, .slice none 0 0, .slice none 0 0] 60) = w0 at *
  refine callE_of (lfirst_any w0) ?_
  rintro _ w1 ⟨rfl, hd1, k1⟩
  simp [go_sem, IntWalk.iteOmega, IntWalk.toNatUp]
  refine callE_of (row_any' firstB_ok hd1 k (by omega) 1 k 1 rfl rfl) ?_
  rintro av w2 ⟨ha2, k2⟩
  have k02 := k1.trans (k2.mono k1.size)
  obtain ⟨xs, hxm, hxr, hxo⟩ := id ha2
  obtain ⟨-, aA, ac, rfl⟩ := own_sl hxr
  have hlen : (rowL 1 k firstB).length = k := rowL_len' 1 k firstB
  rw [hlen] at hxr ⊢
  have hcap := own_caps hxr
  have hfc : hf ≤ ac := by omega
  have hxl : xs.length = k := by rw [← hlen, ← hxm, List.length_map]
  simp [go_sem, IntWalk.iteOmega, IntWalk.toNatUp, v4, v5, hfc]
  have kE := ext_alloc w2 (.cells #[] 29)
  have hxb : Blk (w2.alloc (.cells #[] 29)) w2.heap.size 29 #[] := Blk.self_ rfl
  have hT2 := (hT.keep k02).more (.cells #[] 29)
  generalize w2.alloc (.cells #[] 29) = w3 at *
  have hrow : w3.ownsRow w2.heap.size 29 34 (.slice (some ⟨w2.heap.size, 0, none⟩) 0 0) ([] : List (Bk × Value)).length (flat []) := own_of_blk (n := 0) hxb (Nat.le_refl _) rfl (by decide)
  have hxd2 : ∀ x ∈ xs, BkOk x.1 ∧ RdB w2 x.2 x.1.data := fun x hx => ⟨(hxo x hx).1, own_rdB (hxo x hx).2⟩
  have hxr2 : Rd w2 34 aA xs.length (flat xs) := by
    have h := Rd.of_own hxr
    rwa [← hxl] at h
  refine app_bks (xs1 := []) (xs2 := xs.take hf) hrow kE.size (by rw [List.length_take]; omega) ((rd_take hxr2 (fun x hx => (hxo x hx).1) (by omega)).keep kE) (fun x hx => by
    have hx' : x ∈ xs := List.mem_of_mem_take (by simpa using hx)
    refine ⟨(hxo x hx').1, (hxd2 x hx').2.keep kE, fun A n c e j hj hje => ?_⟩
    have h1 := far_of (hxd2 x hx').2 A n c e j hj
    have h2 : w2.heap.size = j := by simpa [Value.ownBlock] using hje
    omega) (by simp; omega) ?_
  rintro bv w4 hb4 hbd4 hg4 ho4
  rw [List.nil_append] at hb4 hbd4
  have k24 : Below w2.heap.size w2 w4 := kE.grown hg4 kE.size (fun j hj => by
    have h2 : w2.heap.size = j := by simpa [Value.ownBlock] using hj
    omega)
  have hbt : (xs.take hf).length = hf := by rw [List.length_take]; omega
  rw [hbt] at hb4
  obtain ⟨-, bA, bc, rfl⟩ := own_sl hb4
  simp [go_sem, IntWalk.iteOmega, IntWalk.toNatUp]
  refine callE_of (lfirst_any w4) ?_
  rintro _ w5 ⟨rfl, hd5, k5⟩
  have k25 := k24.trans (k5.mono k24.size)
  generalize (Value.slice (some ⟨w4.heap.size + 1, 0, none⟩) 1 1) = fv at *
  have l34 : (bkv firstB fv).length = 34 := bkv_len firstB_ok.len
  simp [go_sem, IntWalk.iteOmega, IntWalk.toNatUp, l34]
  rw [fold_bk (bkv firstB fv) l34]
  have kF : Below w5.heap.size w5 (w5.alloc (.cells (bkv firstB fv).toArray 29)) := ext_alloc _ _
  have hgB : Blk (w5.alloc (.cells (bkv firstB fv).toArray 29)) w5.heap.size 29 (bkv firstB fv).toArray := Blk.self_ rfl
  generalize w5.alloc (.cells (bkv firstB fv).toArray 29) = w5a at *
  have hl5 : BksR w5 (.slice aA k ac) (rowL 1 k firstB) := by
    have h := ha2.rd.keep k25
    rwa [hlen] at h
  refine app_first kF hgB (Nat.le_refl _) firstB_ok hd5 hl5 (by rw [hlen]; omega) ?_
  intro uv w6 hu6 k56 hg6
  have k26 := k25.trans (k56.mono k25.size)
  obtain ⟨uA, uc, -, rfl, -⟩ := id hu6
  obtain ⟨ub, uo, rfl, -, hub, hat⟩ := hu6.at2 (by simp)
  have hlen1 : (firstB :: rowL 1 k firstB).length = k + 1 := by rw [List.length_cons, hlen]
  have hfl : hf < (firstB :: rowL 1 k firstB).length := by rw [hlen1]; omega
  obtain ⟨dv, hokm, hdm, hrm⟩ := hat hf hfl
  have hwm : (firstB :: rowL 1 k firstB)[hf] = wM n := by
    unfold wM wA
    rw [hwk, ← hhf, List.getD_eq_getElem?_getD, List.getElem?_eq_getElem hfl]
    rfl
  rw [hwm] at hokm hdm hrm
  have x6 := hrm w6 (Below.refl _ _)
  have hf1 : hf < k + 1 := by omega
  have hf2 : (hf : Int) < (k : Int) + 1 := by omega
  rw [hlen1]
  simp [go_sem, IntWalk.iteOmega, IntWalk.toNatUp, v4, v5, hf1, hf2, x6]
  refine callE_of (row_any' hokm hdm 3 (by decide) 2 3 2 rfl rfl) ?_
  rintro rv w7 ⟨hr7, k7⟩
  have k27 := k26.trans (k7.mono k26.size)
  have k47 : Below w4.heap.size w4 w7 := k5.trans ((k56.trans (k7.mono k56.size)).mono k5.size)
  obtain ⟨ys, hym, hyr, hyo⟩ := id hr7
  obtain ⟨-, rA, rc, rfl⟩ := own_sl hyr
  have hl3 : (rowL 2 3 (wM n)).length = 3 := rowL_len' _ _ _
  rw [hl3] at hyr ⊢
  have hyl : ys.length = 3 := by rw [← hl3, ← hym, List.length_map]
  have hb7 : w7.ownsRow w2.heap.size 29 34 (.slice bA hf bc) (xs.take hf).length (flat (xs.take hf)) := by
    have h := row_below hb4 k47
    rw [hbt]
    exact h
  have hs27 := k27.size
  simp [go_sem, IntWalk.iteOmega, IntWalk.toNatUp]
  refine app_bks (xs1 := xs.take hf) (xs2 := ys) hb7 k27.size hyl (by rw [← hyl] at hyr ⊢; exact Rd.of_own hyr) (fun x hx => by
    rcases List.mem_append.1 hx with hx | hx
    · have hx' : x ∈ xs := List.mem_of_mem_take hx
      refine ⟨(hxo x hx').1, (hxd2 x hx').2.keep k27, fun A n c e j hj hje => ?_⟩
      have h1 := far_of (hxd2 x hx').2 A n c e j hj
      have h2 := (hb7.lt j hje).1
      omega
    · refine ⟨(hyo x hx).1, own_rdB (hyo x hx).2, fun A n c e j hj hje => ?_⟩
      exact rows_ne hb7 (hyo x hx).2 (by decide) j hje (far_own (hyo x hx).2 A n c e j hj).1) (by rw [hbt]; omega) ?_
  rintro cv w8 hc8 hcd8 hg8 ho8
  have k28 : Below w2.heap.size w2 w8 := k27.grown hg8 k27.size (fun j hj => (hb7.lt j hj).1)
  have kc : (convert 22 22 (.slice (some ⟨w8.heap.size, 0, none⟩) 1 1)).run Tryz.prog (w8.alloc (.cells #[.int .u8 104] 5)) = .ok (.slice (some ⟨w8.heap.size, 0, none⟩) 1 1) (w8.alloc (.cells #[.int .u8 104] 5 (1, 2))) := by
    have := Lib.run_convert_bytes_const (P := Tryz.prog) w8 22 5 #[.int .u8 104] 1 1 Tryz.underlying22 Tryz.underlying5
    simpa using this
  have hh : (w8.alloc (.cells #[.int .u8 104] 5 (1, 2))).heap[w8.heap.size]? = some (.cells #[.int .u8 104] 5 (1, 2)) := heap_alloc_new _ _
  have hdH : RdB (w8.alloc (.cells #[.int .u8 104] 5 (1, 2))) (.slice (some ⟨w8.heap.size, 0, none⟩) 1 1) hB.data := by
    refine ⟨_, _, rfl, ⟨by simp [bl, hB], fun _ => ⟨_, 0, rfl, (Array.getElem?_eq_some_iff.1 hh).1, fun j v hj => ?_⟩⟩, by simp, by simp [hB], by omega⟩
    unfold World.cell?
    simp only [Nat.zero_add, hh]
    simpa [bl, hB] using hj
  have k9 := ext_alloc w8 (.cells #[.int .u8 104] 5 (1, 2))
  simp [go_sem, IntWalk.iteOmega, IntWalk.toNatUp, kc]
  generalize w8.alloc (.cells #[.int .u8 104] 5 (1, 2)) = w9 at *
  refine callE_of (row_any' hB_ok hdH k (by omega) 3 k 3 rfl rfl) ?_
  rintro ev w10 ⟨he10, k10⟩
  have k89 := k9.size
  have k910 := k10.size
  have k810 := k9.trans (k10.mono k9.size)
  have k210 := k28.trans (k810.mono k28.size)
  have hT10 := (hT.keep k02).keep k210
  have y2 := canWrite_all hT10 3 rfl
  have y3 : ∀ (l : List Value), l.length = 3 → storeSeg w10 ⟨w.heap.size, 0, none⟩ 0 l = w10.setRow w.heap.size l.toArray := fun l hl => storeSeg_all hT10 l (by rw [hl]; rfl)
  have y4 : ∀ (l : List Value), l.length = 3 → readCells (w10.setRow w.heap.size l.toArray) ⟨w.heap.size, 0, none⟩ 0 3 = some l := fun l hl => readCells_all (Blk_setRow hT10) 3 (by simpa using hl)
  obtain ⟨-, eA, ec, rfl⟩ := own_sl (id he10).choose_spec.2.1
  obtain ⟨-, cA, cc, rfl⟩ := own_sl hc8
  simp [go_sem, IntWalk.iteOmega, IntWalk.toNatUp, y2, y3, y4]
  have kS : ∀ cs, Keeps (fun j => j ≠ w.heap.size) w10 (w10.setRow w.heap.size cs) := fun cs => Keeps.setRow _ _ _ (fun h => h rfl)
  have hsw : w.heap.size < w0.heap.size := hT.lt
  have hs01 := k1.size
  have hs12 := k2.size
  have hs26 := k26.size
  have hs89 := k9.size
  have hs28 := k28.size
  refine ⟨_, _, _, ⟨rfl, rfl, rfl⟩, ?_, ?_, ?_, ?_⟩
  · have h := ((ha2.keep k210).keeps (kS #[Value.slice aA k ac, Value.slice cA (min hf xs.length + ys.length) cc, Value.slice eA (rowL 3 k hB).length ec]) (fun j hj _ => by omega)).rd
    rw [hlen] at h
    unfold wA
    rw [hwk]
    exact h
  · have e : min hf xs.length + ys.length = (xs.take hf ++ ys).length := by simp
    have em : (xs.take hf ++ ys).map Prod.fst = wB n := by
      rw [List.map_append, List.map_take, hxm, hym]
      unfold wB wA
      rw [hwk, ← hhf]
    rw [e, ← em]
    refine bksR_own (row_keeps (row_below hc8 k810) (kS _) (fun j hj => by have := (hc8.lt j hj).1; omega)) fun x hx => ⟨(hcd8 x hx).1, ((hcd8 x hx).2.keep k810).on (kS _) fun A n c e j hj => ?_⟩
    rcases List.mem_append.1 hx with hx | hx
    · have := (far_own (hxo x (List.mem_of_mem_take hx)).2 A n c e j hj).2.1
      omega
    · have := (far_own (hyo x hx).2 A n c e j hj).2.1
      omega
  · have h := (he10.keeps (kS #[Value.slice aA k ac, Value.slice cA (min hf xs.length + ys.length) cc, Value.slice eA (rowL 3 k hB).length ec]) (fun j hj _ => by omega)).rd
    unfold wC
    rw [hwk]
    exact h
  · refine below_setRow ?_ (Nat.le_refl _) _
    exact (kA.trans (k02.mono kA.size)).trans (k210.mono (by omega))
end Go.Proofs.YtdjcjjodbniebaaGreatDoor
namespace Go.Proofs.YtdjcjjodbniebaaGreatDoor
open Go.RowKit
set_option linter.unusedVariables false
set_option linter.unusedSimpArgs false
set_option maxRecDepth 10000
def three {α : Type} (a b c : α) : Nat → α
  | 0 => a
  | 1 => b
  | _ => c
set_option maxHeartbeats 3200000 in
theorem pick_any {w : World} {a b c : Value} {A B C : List Bk} (ha : BksR w a A) (hb : BksR w b B) (hc : BksR w c C) (hA : 0 < A.length ∧ A.length ≤ 100000) (hB : 0 < B.length ∧ B.length ≤ 100000) (hC : 0 < C.length ∧ C.length ≤ 100000) (o : Op1) :
    callE Tryz.prog 27 #[.agg #[a, b, c], .agg (opA o)] w fun r w' => r = .tuple #[three a b c (o.b.toNat % 3), .int .i64 ((o.a.toNat % (three A B C (o.b.toNat % 3)).length : Nat) : Int)] ∧ Below w.heap.size w w' := by
  obtain ⟨i, hi⟩ : ∃ i, i = o.b.toNat % 3 := ⟨_, rfl⟩
  rw [← hi]
  have hi3 : i < 3 := by omega
  have hX : BksR w (three a b c i) (three A B C i) ∧ 0 < (three A B C i).length ∧ (three A B C i).length ≤ 100000 := by
    match i, hi3 with
    | 0, _ => exact ⟨ha, hA⟩
    | 1, _ => exact ⟨hb, hB⟩
    | 2, _ => exact ⟨hc, hC⟩
  obtain ⟨hX, hX0, hX1⟩ := hX
  have hcell : (#[a, b, c] : Array Value)[i]? = some (three a b c i) := by
    match i, hi3 with
    | 0, _ => rfl
    | 1, _ => rfl
    | 2, _ => rfl
  generalize three a b c i = x at *
  generalize three A B C i = X at *
  obtain ⟨xA, xc, -, rfl, -⟩ := id hX
  obtain ⟨m, hm⟩ : ∃ m, m = o.a.toNat % X.length := ⟨_, rfl⟩
  rw [← hm]
  have v1 : (o.b.toNat : Int).tmod 3 = (i : Int) := by rw [hi, Int.tmod_eq_emod_of_nonneg (by omega)]; omega
  have v2 : IntKind.i64.wrap (o.a.toNat : Int) = (o.a.toNat : Int) := by rw [wrap_i64_if, if_pos (by have := o.a.toNat_lt; omega)]
  have v3 : (o.a.toNat : Int).tmod (X.length : Int) = (m : Int) := by
    rw [Int.tmod_eq_emod_of_nonneg (by omega), hm]
    exact (Int.natCast_emod _ _).symm
  have v4 : IntKind.i64.wrap (m : Int) = (m : Int) := by
    have := Nat.mod_lt o.a.toNat hX0
    rw [wrap_i64_if, if_pos (by omega)]
  have v5 : ((X.length : Int) == 0) = false := by simp; intro h; simp [h] at hX0
  have v6 : ¬ (X.length : Int) = 0 := by omega
  have v7 : ¬ X = [] := by rintro rfl; simp at hX0
  have hP : Blk ((w.alloc (.cells #[a, b, c] 60)).alloc (.cells (opA o) 52)) w.heap.size 60 #[a, b, c] := (Blk.self_ rfl).more _
  have hQ : Blk ((w.alloc (.cells #[a, b, c] 60)).alloc (.cells (opA o) 52)) (w.heap.size + 1) 52 (opA o) := Blk.self_ (by simp)
  have kW : Below w.heap.size w ((w.alloc (.cells #[a, b, c] 60)).alloc (.cells (opA o) 52)) := ext_trans (ext_alloc _ _) (ext_alloc _ _)
  have q1 : (opA o)[1]? = some (.int .u8 o.a.toNat) := rfl
  have q2 : (opA o)[2]? = some (.int .u8 o.b.toNat) := rfl
  have hi3' : (i : Int) < 3 := by omega
  have hc2 : ([a, b, c] : List Value)[i] = .slice xA X.length xc := by
    have h : ([a, b, c] : List Value)[i]? = some (.slice xA X.length xc) := by simpa using hcell
    rw [List.getElem?_eq_getElem (by simpa using hi3)] at h
    exact Option.some.inj h
  refine calls_E Tryz.func27 rfl rfl rfl (Nat.le_of_ble_eq_true rfl) ?_
  simp [go_sem, IntWalk.iteOmega, IntWalk.toNatUp, q1, q2, v1, hcell, hc2, hi3, hi3']
  refine W_still follows (by kernel_rfl) ?_
  simp [go_sem, IntWalk.iteOmega, IntWalk.toNatUp, q1, q2, v1, v2, v3, v4, v5, v6, v7, hcell, hc2]
  exact kW.drew
end Go.Proofs.YtdjcjjodbniebaaGreatDoor
namespace Go.Proofs.YtdjcjjodbniebaaGreatDoor
open Go.RowKit
set_option linter.unusedVariables false
set_option linter.unusedSimpArgs false
set_option maxRecDepth 10000
/-- a name of a row of names -/
theorem rd_name {w : World} {A : Option Addr} {L : List (List UInt8)} (hr : Rd w 32 A L.length (flatI L)) (hL : ∀ x ∈ L, x.length = 32) {i : Nat} (hi : i < L.length) : ∃ b o, A = some ⟨b, o, none⟩ ∧ b < w.heap.size ∧ ∀ W, Below w.heap.size w W → readCells W ⟨b, o + i * 32, none⟩ 0 32 = some (bl L[i]) := by
  obtain ⟨b, o, rfl, hb, hc⟩ := hr.cells (by omega)
  have h32 : (bl L[i]).length = 32 := by rw [bl_length]; exact hL _ (List.getElem_mem hi)
  refine ⟨b, o, rfl, hb, fun W hW => readCells_cells 32 0 _ h32 fun j v hj => ?_⟩
  rw [show o + i * 32 + 0 + j = o + (32 * i + j) by omega]
  exact (hW.cell (p := ⟨b, o + (32 * i + j), none⟩) hb).trans (hc _ _ (flatI_at L hL i _ (List.getElem?_eq_getElem hi) j v hj))
set_option maxHeartbeats 1600000 in
theorem indexN_any {w : World} {A : Option Addr} {c : Nat} {L : List (List UInt8)} (hr : Rd w 32 A L.length (flatI L)) (hL : ∀ x ∈ L, x.length = 32) (hlen : L.length ≤ 100000) {id : List UInt8} (hid : id.length = 32) :
    callE Tryz.prog 61 #[.slice A L.length c, .agg (bl id).toArray] w fun r w' => ((∃ k : Nat, r = .int .i64 k ∧ id ∈ L) ∨ (r = .int .i64 (-1) ∧ id ∉ L)) ∧ Below w.heap.size w w' := by
  have l32 : (bl id).length = 32 := by rw [bl_length]; exact hid
  have kA := ext_alloc w (.cells (bl id).toArray 27)
  have hI : Blk (w.alloc (.cells (bl id).toArray 27)) w.heap.size 27 (bl id).toArray := Blk.self_ rfl
  refine calls_E Tryz.func61 rfl rfl rfl (Nat.le_of_ble_eq_true rfl) ?_
  simp [go_sem, IntWalk.iteOmega, IntWalk.toNatUp]
  generalize w.alloc (.cells (bl id).toArray 27) = w1 at *
  refine W_loop (fun st wr => ∃ i : Nat, i ≤ L.length ∧ st 0 = .slice A L.length c ∧ st 3 = .pointer (some ⟨w.heap.size, 0, none⟩) ∧ st 7 = .int .i64 L.length ∧ st 8 = .int .i64 i ∧ (∀ m (hm : m < L.length), m < i → L[m] ≠ id) ∧ Below w1.heap.size w1 wr) (fun st _ => L.length - (intOf (st 8)).toNat) ?_ ?_
  · exact ⟨0, by omega, by simp [go_sem], by simp [go_sem], by simp [go_sem], by simp [go_sem], fun m hm h => by omega, Below.refl _ _⟩
  · rintro st wr ⟨i, hi, e0, e3, e7, e8, hno, hB⟩
    by_cases hlt : i < L.length
    · have hlt' : (i : Int) < L.length := by omega
      obtain ⟨b, o, rfl, hb, hat⟩ := rd_name hr hL hlt
      have hxL := hL _ (List.getElem_mem hlt)
      have x1 := readCells_all (hI.keep hB) 32 (by simpa using l32)
      have x2 := hat wr (kA.trans (hB.mono kA.size))
      have x1d := readCells_all (hI.keep hB).drew 32 (by simpa using l32)
      have x2d := hat wr.drew (kA.trans (hB.mono kA.size)).drew
      have hqe := fun W => id_eq id L[i] hid hxL W
      simp [go_sem, IntWalk.iteOmega, IntWalk.toNatUp, e0, e3, e7, e8, hlt, hlt']
      refine W_still follows (by kernel_rfl) ?_
      by_cases hq : L[i] = id
      · have hq' : (id == L[i]) = true := by simpa using hq.symm
        simp [go_sem, IntWalk.iteOmega, IntWalk.toNatUp, e0, e3, e7, e8, hlt, hlt', x1, x2, x1d, x2d, hqe, hq']
        exact ⟨⟨⟨i, rfl⟩, by rw [← hq]; exact List.getElem_mem hlt⟩, (kA.trans (hB.mono kA.size)).drew⟩
      · have hq' : (id == L[i]) = false := by simpa using fun h => hq h.symm
        simp [go_sem, IntWalk.iteOmega, IntWalk.toNatUp, e0, e3, e7, e8, hlt, hlt', x1, x2, x1d, x2d, hqe, hq']
        refine roundEnd.mk ⟨i + 1, by omega, by simp [go_sem, e0], by simp [go_sem, e3], by simp [go_sem, e7], by simp [go_sem], fun m hm h => ?_, hB.drew⟩ ?_
        · by_cases hmi : m = i
          · subst hmi; exact hq
          · exact hno m hm (by omega)
        · simp [go_sem, intOf, e8]; omega
    · have hlt' : ¬ (i : Int) < L.length := by omega
      simp [go_sem, IntWalk.iteOmega, IntWalk.toNatUp, e0, e3, e7, e8, hlt']
      refine ⟨fun hm => ?_, kA.trans (hB.mono kA.size)⟩
      obtain ⟨k, hk, hkx⟩ := List.getElem_of_mem hm
      exact hno k hk (by omega) hkx
theorem containsN_any {w : World} {A : Option Addr} {c : Nat} {L : List (List UInt8)} (hr : Rd w 32 A L.length (flatI L)) (hL : ∀ x ∈ L, x.length = 32) (hlen : L.length ≤ 100000) {id : List UInt8} (hid : id.length = 32) :
    callE Tryz.prog 29 #[.slice A L.length c, .agg (bl id).toArray] w fun r w' => r = .bool (decide (id ∈ L)) ∧ Below w.heap.size w w' := by
  have l32 : (bl id).length = 32 := by rw [bl_length]; exact hid
  have kA := ext_alloc w (.cells (bl id).toArray 27)
  have hI : Blk (w.alloc (.cells (bl id).toArray 27)) w.heap.size 27 (bl id).toArray := Blk.self_ rfl
  have x1 := readCells_all hI 32 (by simpa using l32)
  refine calls_E Tryz.func29 rfl rfl rfl (Nat.le_of_ble_eq_true rfl) ?_
  simp [go_sem, IntWalk.iteOmega, IntWalk.toNatUp, x1]
  refine callE_of (indexN_any (hr.keep kA) hL hlen hid) ?_
  rintro _ w1 ⟨⟨k, rfl, e⟩ | ⟨rfl, e⟩, k1⟩
  · have h0 : (0 : Int) ≤ k := by omega
    simp [go_sem, IntWalk.iteOmega, IntWalk.toNatUp, e, h0]
    exact kA.trans (k1.mono kA.size)
  · simp [go_sem, IntWalk.iteOmega, IntWalk.toNatUp, e]
    exact kA.trans (k1.mono kA.size)
end Go.Proofs.YtdjcjjodbniebaaGreatDoor
