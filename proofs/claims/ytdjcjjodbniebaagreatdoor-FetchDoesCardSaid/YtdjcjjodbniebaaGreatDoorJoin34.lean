/-
  Texts joined: FStepsH, FWorld, FRState.
-/
import Derived.Test.YtdjcjjodbniebaaGreatDoorJoin33
namespace Go.Proofs.YtdjcjjodbniebaaGreatDoor
open Go.RowKit
set_option linter.unusedVariables false
set_option linter.unusedSimpArgs false
set_option maxRecDepth 10000
theorem own_of_blk {w : World} {base g e size n : Nat} {cs : Array Value} (h : Blk w g e cs) (hb : base ≤ g) (hs : cs.size = n * size) (hn : n ≤ maxLen) : w.ownsRow base e size (.slice (some ⟨g, 0, none⟩) n n) n cs.toList := by
  refine ⟨by simpa using hs, .inr ⟨g, n, cs, rfl, hb, h, Nat.le_refl _, hn, hs, ?_⟩⟩
  rw [List.take_of_length_le (by simp; omega)]
theorem own_caps {w : World} {base e size n c : Nat} {A : Option Addr} {xs : List Value} (h : w.ownsRow base e size (.slice A n c) n xs) : n ≤ c ∧ c ≤ 9223372036854775807 := by
  rcases h.2 with ⟨e, h0⟩ | ⟨g, cap, cur, e, _, _, hn, hm, _⟩
  · injection e with e1 e2 e3
    omega
  · injection e with e1 e2 e3
    unfold maxLen at hm
    omega
theorem flat_len : ∀ (xs : List (Bk × Value)), (∀ x ∈ xs, x.1.parent.length = 32) → (flat xs).length = xs.length * 34
  | [], _ => rfl
  | y :: ys, h => by
    show (bkv y.1 y.2 ++ flat ys).length = _
    rw [List.length_append, bkv_len (h y (by simp)), flat_len ys fun x hx => h x (by simp [hx]), List.length_cons]
    omega
theorem flat_drop : ∀ (r : Nat) (xs : List (Bk × Value)), (∀ x ∈ xs, x.1.parent.length = 32) → ∀ j, (flat (xs.drop r))[j]? = (flat xs)[r * 34 + j]? ∨ xs.length < r
  | 0, xs, _, j => .inl (by simp)
  | r + 1, [], _, j => .inr (by simp)
  | r + 1, y :: ys, h, j => by
    rcases flat_drop r ys (fun x hx => h x (by simp [hx])) j with h1 | h1
    · refine .inl ?_
      show (flat (ys.drop r))[j]? = (bkv y.1 y.2 ++ flat ys)[(r + 1) * 34 + j]?
      have hl : (bkv y.1 y.2).length = 34 := bkv_len (h y (by simp))
      rw [h1, List.getElem?_append_right (by omega), hl, show (r + 1) * 34 + j - 34 = r * 34 + j by omega]
    · exact .inr (by simp; omega)
theorem BksR.drop {w : World} {b o n c : Nat} {bs : List Bk} (h : BksR w (.slice (some ⟨b, o, none⟩) n c) bs) {r : Nat} (hr : r < bs.length) : BksR w (.slice (some ⟨b, o + r * 34, none⟩) (n - r) (c - r)) (bs.drop r) := by
  obtain ⟨A, c', xs, e, hxm, hrd, hc1, hc2, hxo⟩ := h
  injection e with e1 e2 e3
  subst e1 e2 e3
  have hxl : xs.length = bs.length := by rw [← hxm, List.length_map]
  have hp : ∀ x ∈ xs, x.1.parent.length = 32 := fun x hx => (hxo x hx).1.len
  refine ⟨some ⟨b, o + r * 34, none⟩, c - r, xs.drop r, by rw [List.length_drop], by rw [List.map_drop, hxm], ?_, by rw [List.length_drop]; omega, by omega, fun x hx => hxo x (List.mem_of_mem_drop hx)⟩
  obtain ⟨b', o', e, hb, hc⟩ := hrd.cells (by omega)
  injection e with e
  injection e with e1 e2
  subst e1 e2
  refine ⟨?_, fun _ => ⟨b, o + r * 34, rfl, hb, fun j v hj => ?_⟩⟩
  · rw [flat_len _ fun x hx => hp x (List.mem_of_mem_drop hx), List.length_drop, List.length_drop, hxl]
  · rcases flat_drop r xs hp j with h1 | h1
    · rw [h1] at hj
      rw [show o + r * 34 + j = o + (r * 34 + j) by omega]
      exact hc _ _ hj
    · omega
theorem app_first {v1 wA : World} {g : Nat} {fv : Value} {b0 : Bk} (kA : Below v1.heap.size v1 wA) (hg : Blk wA g 29 (bkv b0 fv).toArray) (hge : v1.heap.size ≤ g) (hb0 : BkOk b0) (hd : RdB v1 fv b0.data) {lv : Value} {bs : List Bk} (hl : BksR v1 lv bs) (hb : bs.length ≤ 1000) {ty : Nat} {k : Kont}
    (hk : ∀ v' w', BksR w' v' (b0 :: bs) → Below v1.heap.size v1 w' → wA.grownBy w' (some g) → k v' w') : resE Tryz.prog (appendR Tryz.prog 24 24 ty (.slice (some ⟨g, 0, none⟩) 1 1) lv wA) k := by
  obtain ⟨A, c, xs, rfl, hxm, hrd, hc1, hc2, hxo⟩ := hl
  have h34 : (bkv b0 fv).length = 34 := bkv_len hb0.len
  have hown : wA.ownsRow v1.heap.size 29 34 (.slice (some ⟨g, 0, none⟩) 1 1) 1 (bkv b0 fv) := own_of_blk hg hge (by rw [List.size_toArray]; exact h34) (by decide)
  have h1 : allOne (flat xs) = true := allOne_of fun v hv => by
    unfold flat at hv
    obtain ⟨x, hx, hv⟩ := List.mem_flatMap.1 hv
    obtain ⟨A', c', e, _⟩ := (hxo x hx).2
    have := bkv_one x.1 A' x.1.data.length c'
    rw [← e] at this
    exact allOne_mem this v hv
  refine appendE v1.heap.size 29 34 64 Tryz.underlying24 el29 hown (hrd.keep kA) h1 (by unfold maxLen; omega) (by omega) kA.size ?_
  intro v' w' hr' hg' hb'
  have kB : Below v1.heap.size v1 w' := kA.grown hg' kA.size (fun k hk => (hown.lt k hk).1)
  refine hk v' w' ?_ kB hg'
  obtain ⟨-, A', c', rfl⟩ := own_sl hr'
  have hcp := own_caps hr'
  have e1 : 1 + bs.length = (b0 :: bs).length := by simp; omega
  refine ⟨A', c', (b0, fv) :: xs, by rw [e1], by simp [hxm], ?_, by rw [← e1]; exact hcp.1, hcp.2, ?_⟩
  · rw [← e1]
    exact Rd.of_own hr'
  · intro x hx
    rcases List.mem_cons.1 hx with rfl | hx
    · exact ⟨hb0, hd.keep kB⟩
    · exact ⟨(hxo x hx).1, (hxo x hx).2.keep kB⟩
theorem flat_one {w : World} {xs : List (Bk × Value)} (hx : ∀ x ∈ xs, RdB w x.2 x.1.data) : allOne (flat xs) = true := allOne_of fun v hv => by
  unfold flat at hv
  obtain ⟨x, hx', hv⟩ := List.mem_flatMap.1 hv
  obtain ⟨A', c', e, _⟩ := hx x hx'
  have := bkv_one x.1 A' x.1.data.length c'
  rw [← e] at this
  exact allOne_mem this v hv
theorem flat_app (xs ys : List (Bk × Value)) : flat (xs ++ ys) = flat xs ++ flat ys := by simp [flat]
theorem app_bks {wA : World} {base : Nat} {d : Value} {xs1 xs2 : List (Bk × Value)} (hd : wA.ownsRow base 29 34 d xs1.length (flat xs1)) (hbs : base ≤ wA.heap.size) {A : Option Addr} {c n : Nat} (hn : xs2.length = n) (hr : Rd wA 34 A n (flat xs2))
    (hx : ∀ x ∈ xs1 ++ xs2, BkOk x.1 ∧ RdB wA x.2 x.1.data ∧ ∀ A n c, x.2 = .slice A n c → ∀ j, atB n A j → d.ownBlock ≠ some j) (hl : xs1.length + n ≤ 1000) {ty : Nat} {k : Kont}
    (hk : ∀ v' w', w'.ownsRow base 29 34 v' (xs1 ++ xs2).length (flat (xs1 ++ xs2)) → (∀ x ∈ xs1 ++ xs2, BkOk x.1 ∧ RdB w' x.2 x.1.data) → wA.grownBy w' d.ownBlock → (v'.ownBlock = d.ownBlock ∨ v'.ownBlock = some wA.heap.size) → k v' w') : resE Tryz.prog (appendR Tryz.prog 24 24 ty d (.slice A n c) wA) k := by
  subst hn
  refine appendE base 29 34 64 Tryz.underlying24 el29 hd hr (flat_one fun x hx' => (hx x (List.mem_append_right _ hx')).2.1) (by unfold maxLen; omega) (by omega) hbs ?_
  intro v' w' hr' hg' hb'
  refine hk v' w' (by rw [List.length_append, flat_app]; exact hr') (fun x hx' => ?_) hg' hb'
  obtain ⟨h1, h2, h3⟩ := hx x hx'
  exact ⟨h1, h2.on (Keeps.grown (O := fun j => d.ownBlock ≠ some j) hg' fun k hk h => h hk) h3⟩
theorem bksR_own {w : World} {base : Nat} {v : Value} {xs : List (Bk × Value)} (h : w.ownsRow base 29 34 v xs.length (flat xs)) (hx : ∀ x ∈ xs, BkOk x.1 ∧ RdB w x.2 x.1.data) : BksR w v (xs.map Prod.fst) := by
  obtain ⟨-, A, c, rfl⟩ := own_sl h
  have hc := own_caps h
  exact ⟨A, c, xs, by rw [List.length_map], rfl, by rw [List.length_map]; exact Rd.of_own h, by rw [List.length_map]; exact hc.1, hc.2, hx⟩
def hB : Bk := ⟨zeroId, 0, [104]⟩
theorem hB_ok : BkOk hB := ⟨by decide, by decide, by decide⟩
theorem hB_check : checkB hB = 0 := by decide
def wK (n : UInt8) : Nat := 1 + n.toNat % 12
def wA (n : UInt8) : List Bk := rowL 1 (wK n) firstB
def wM (n : UInt8) : Bk := (firstB :: wA n).getD (wK n / 2) firstB
def wB (n : UInt8) : List Bk := (wA n).take (wK n / 2) ++ rowL 2 3 (wM n)
def wC (n : UInt8) : List Bk := rowL 3 (wK n) hB
theorem flat_take_ : ∀ (xs : List (Bk × Value)) (m : Nat), (∀ x ∈ xs, x.1.parent.length = 32) → (flat xs).take (m * 34) = flat (xs.take m)
  | [], m, _ => by simp [flat]
  | x :: xs, 0, _ => by simp [flat]
  | x :: xs, m + 1, h => by
    have h34 : (bkv x.1 x.2).length = 34 := bkv_len (h x (by simp))
    show (bkv x.1 x.2 ++ flat xs).take ((m + 1) * 34) = bkv x.1 x.2 ++ flat (xs.take m)
    rw [List.take_append, h34, List.take_of_length_le (by omega), show (m + 1) * 34 - 34 = m * 34 by omega, flat_take_ xs m fun y hy => h y (by simp [hy])]
theorem rd_take {w : World} {A : Option Addr} {xs : List (Bk × Value)} (h : Rd w 34 A xs.length (flat xs)) (hx : ∀ x ∈ xs, BkOk x.1) {m : Nat} (hm : m ≤ xs.length) : Rd w 34 A m (flat (xs.take m)) := by
  have hp : ∀ x ∈ xs, x.1.parent.length = 32 := fun x hx' => (hx x hx').len
  refine ⟨?_, fun h0 => ?_⟩
  · rw [← flat_take_ xs m hp, List.length_take, h.len]
    omega
  · obtain ⟨g, o, e, hg, hc⟩ := h.cells (by omega)
    refine ⟨g, o, e, hg, fun j v hj => hc j v ?_⟩
    rw [← flat_take_ xs m hp, List.getElem?_take] at hj
    split at hj
    · exact hj
    · cases hj
theorem rowL_len' (which : UInt8) : ∀ (n : Nat) (p : Bk), (rowL which n p).length = n
  | 0, _ => rfl
  | n + 1, p => by show (rowL which n _).length + 1 = n + 1; rw [rowL_len' which n]
theorem far_of {w : World} {dv : Value} {d : List UInt8} (hd : RdB w dv d) : ∀ A n c, dv = .slice A n c → ∀ j, atB n A j → j < w.heap.size := by
  intro A n c e j hj
  obtain ⟨A', c', e', hr, -⟩ := hd
  rw [e'] at e
  injection e with e1 e2 e3
  subst e1 e2 e3
  exact atB_lt hr hj
theorem far_own {w : World} {base e size n : Nat} {v : Value} {us : List Value} (h : w.ownsRow base e size v n us) : ∀ A m c, v = .slice A m c → ∀ j, atB m A j → v.ownBlock = some j ∧ base ≤ j ∧ j < w.heap.size := by
  intro A m c ev j hj
  obtain ⟨-, A', c', rfl⟩ := own_sl h
  injection ev with e1 e2 e3
  subst e1 e2 e3
  have h1 := atB_row h hj
  exact ⟨h1, h.lt j h1⟩
set_option maxHeartbeats 6400000 in
theorem world_any {w : World} {n : UInt8} :
    callE Tryz.prog 26 #[.int .u8 n.toNat] w fun r w' => ∃ a b c, r = .agg #[a, b, c] ∧ BksR w' a (wA n) ∧ BksR w' b (wB n) ∧ BksR w' c (wC n) ∧ Below w.heap.size w w' := by
  obtain ⟨k0, hk0⟩ : ∃ k0, k0 = n.toNat % 12 := ⟨_, rfl⟩
  obtain ⟨k, hk⟩ : ∃ k, k = 1 + k0 := ⟨_, rfl⟩
  have hwk : wK n = k := by unfold wK; omega
  obtain ⟨hf, hhf⟩ : ∃ hf, hf = k / 2 := ⟨_, rfl⟩
  have v1 : (n.toNat : Int).tmod 12 = (k0 : Int) := by rw [hk0, Int.tmod_eq_emod_of_nonneg (by omega)]; omega
  have v2 : IntKind.i64.wrap (k0 : Int) = (k0 : Int) := by rw [wrap_i64_if, if_pos (by omega)]
  have v3 : IntKind.i64.wrap (1 + (k0 : Int)) = (k : Int) := by rw [wrap_i64_if, if_pos (by omega)]; omega
  have v4 : (k : Int) / 2 = (hf : Int) := by omega
  have v5 : IntKind.i64.wrap ((k : Int).tdiv 2) = (hf : Int) := by rw [Int.tdiv_eq_ediv_of_nonneg (by omega), v4, wrap_i64_if, if_pos (by omega)]
  have kA := ext_alloc w (.cells #[.slice none 0 0, .slice none 0 0, .slice none 0 0] 60)
  have hT : Blk (w.alloc (.cells #[.slice none 0 0, .slice none 0 0, .slice none 0 0] 60)) w.heap.size 60 #[.slice none 0 0, .slice none 0 0, .slice none 0 0] := Blk.self_ rfl
  refine calls_E Tryz.func26 rfl rfl rfl (Nat.le_of_ble_eq_true rfl) ?_
  simp [go_sem, IntWalk.iteOmega, IntWalk.toNatUp, v1, v2, v3]
  generalize w.alloc (.cells #[.slice none 0 0, .slice none 0 0, .slice none 0 0] 60) = w0 at *
  refine callE_of (lfirst_any w0) ?_
  rintro _ w1 ⟨rfl, hd1, k1⟩
  simp [go_sem, IntWalk.iteOmega, IntWalk.toNatUp]
  refine callE_of (row_any' firstB_ok hd1 k (by omega) 1 k 1 rfl rfl) ?_
  rintro av w2 ⟨ha2, k2⟩
  have k02 := k1.trans (k2.mono k1.size)
  obtain ⟨xs, hxm, hxr, hxo⟩ := id ha2
  obtain ⟨-, aA, ac, rfl⟩ := own_sl hxr
  have hlen : (rowL 1 k firstB).length = k := rowL_len' 1 k firstB
  rw [hlen] at hxr ⊢
  have hcap := own_caps hxr
  have hfc : hf ≤ ac := by omega
  have hxl : xs.length = k := by rw [← hlen, ← hxm, List.length_map]
  simp [go_sem, IntWalk.iteOmega, IntWalk.toNatUp, v4, v5, hfc]
  have kE := ext_alloc w2 (.cells #[] 29)
  have hxb : Blk (w2.alloc (.cells #[] 29)) w2.heap.size 29 #[] := Blk.self_ rfl
  have hT2 := (hT.keep k02).more (.cells #[] 29)
  generalize w2.alloc (.cells #[] 29) = w3 at *
  have hrow : w3.ownsRow w2.heap.size 29 34 (.slice (some ⟨w2.heap.size, 0, none⟩) 0 0) ([] : List (Bk × Value)).length (flat []) := own_of_blk (n := 0) hxb (Nat.le_refl _) rfl (by decide)
  have hxd2 : ∀ x ∈ xs, BkOk x.1 ∧ RdB w2 x.2 x.1.data := fun x hx => ⟨(hxo x hx).1, own_rdB (hxo x hx).2⟩
  have hxr2 : Rd w2 34 aA xs.length (flat xs) := by
    have h := Rd.of_own hxr
    rwa [← hxl] at h
  refine app_bks (xs1 := []) (xs2 := xs.take hf) hrow kE.size (by rw [List.length_take]; omega) ((rd_take hxr2 (fun x hx => (hxo x hx).1) (by omega)).keep kE) (fun x hx => by
    have hx' : x ∈ xs := List.mem_of_mem_take (by simpa using hx)
    refine ⟨(hxo x hx').1, (hxd2 x hx').2.keep kE, fun A n c e j hj hje => ?_⟩
    have h1 := far_of (hxd2 x hx').2 A n c e j hj
    have h2 : w2.heap.size = j := by simpa [Value.ownBlock] using hje
    omega) (by simp; omega) ?_
  rintro bv w4 hb4 hbd4 hg4 ho4
  rw [List.nil_append] at hb4 hbd4
  have k24 : Below w2.heap.size w2 w4 := kE.grown hg4 kE.size (fun j hj => by
    have h2 : w2.heap.size = j := by simpa [Value.ownBlock] using hj
    omega)
  have hbt : (xs.take hf).length = hf := by rw [List.length_take]; omega
  rw [hbt] at hb4
  obtain ⟨-, bA, bc, rfl⟩ := own_sl hb4
  simp [go_sem, IntWalk.iteOmega, IntWalk.toNatUp]
  refine callE_of (lfirst_any w4) ?_
  rintro _ w5 ⟨rfl, hd5, k5⟩
  have k25 := k24.trans (k5.mono k24.size)
  generalize (Value.slice (some ⟨w4.heap.size + 1, 0, none⟩) 1 1) = fv at *
  have l34 : (bkv firstB fv).length = 34 := bkv_len firstB_ok.len
  simp [go_sem, IntWalk.iteOmega, IntWalk.toNatUp, l34]
  rw [fold_bk (bkv firstB fv) l34]
  have kF : Below w5.heap.size w5 (w5.alloc (.cells (bkv firstB fv).toArray 29)) := ext_alloc _ _
  have hgB : Blk (w5.alloc (.cells (bkv firstB fv).toArray 29)) w5.heap.size 29 (bkv firstB fv).toArray := Blk.self_ rfl
  generalize w5.alloc (.cells (bkv firstB fv).toArray 29) = w5a at *
  have hl5 : BksR w5 (.slice aA k ac) (rowL 1 k firstB) := by
    have h := ha2.rd.keep k25
    rwa [hlen] at h
  refine app_first kF hgB (Nat.le_refl _) firstB_ok hd5 hl5 (by rw [hlen]; omega) ?_
  intro uv w6 hu6 k56 hg6
  have k26 := k25.trans (k56.mono k25.size)
  obtain ⟨uA, uc, -, rfl, -⟩ := id hu6
  obtain ⟨ub, uo, rfl, -, hub, hat⟩ := hu6.at2 (by simp)
  have hlen1 : (firstB :: rowL 1 k firstB).length = k + 1 := by rw [List.length_cons, hlen]
  have hfl : hf < (firstB :: rowL 1 k firstB).length := by rw [hlen1]; omega
  obtain ⟨dv, hokm, hdm, hrm⟩ := hat hf hfl
  have hwm : (firstB :: rowL 1 k firstB)[hf] = wM n := by
    unfold wM wA
    rw [hwk, ← hhf, List.getD_eq_getElem?_getD, List.getElem?_eq_getElem hfl]
    rfl
  rw [hwm] at hokm hdm hrm
  have x6 := hrm w6 (Below.refl _ _)
  have hf1 : hf < k + 1 := by omega
  have hf2 : (hf : Int) < (k : Int) + 1 := by omega
  rw [hlen1]
  simp [go_sem, IntWalk.iteOmega, IntWalk.toNatUp, v4, v5, hf1, hf2, x6]
  refine callE_of (row_any' hokm hdm 3 (by decide) 2 3 2 rfl rfl) ?_
  rintro rv w7 ⟨hr7, k7⟩
  have k27 := k26.trans (k7.mono k26.size)
  have k47 : Below w4.heap.size w4 w7 := k5.trans ((k56.trans (k7.mono k56.size)).mono k5.size)
  obtain ⟨ys, hym, hyr, hyo⟩ := id hr7
  obtain ⟨-, rA, rc, rfl⟩ := own_sl hyr
  have hl3 : (rowL 2 3 (wM n)).length = 3 := rowL_len' _ _ _
  rw [hl3] at hyr ⊢
  have hyl : ys.length = 3 := by rw [← hl3, ← hym, List.length_map]
  have hb7 : w7.ownsRow w2.heap.size 29 34 (.slice bA hf bc) (xs.take hf).length (flat (xs.take hf)) := by
    have h := row_below hb4 k47
    rw [hbt]
    exact h
  have hs27 := k27.size
  simp [go_sem, IntWalk.iteOmega, IntWalk.toNatUp]
  refine app_bks (xs1 := xs.take hf) (xs2 := ys) hb7 k27.size hyl (by rw [← hyl] at hyr ⊢; exact Rd.of_own hyr) (fun x hx => by
    rcases List.mem_append.1 hx with hx | hx
    · have hx' : x ∈ xs := List.mem_of_mem_take hx
      refine ⟨(hxo x hx').1, (hxd2 x hx').2.keep k27, fun A n c e j hj hje => ?_⟩
      have h1 := far_of (hxd2 x hx').2 A n c e j hj
      have h2 := (hb7.lt j hje).1
      omega
    · refine ⟨(hyo x hx).1, own_rdB (hyo x hx).2, fun A n c e j hj hje => ?_⟩
      exact rows_ne hb7 (hyo x hx).2 (by decide) j hje (far_own (hyo x hx).2 A n c e j hj).1) (by rw [hbt]; omega) ?_
  rintro cv w8 hc8 hcd8 hg8 ho8
  have k28 : Below w2.heap.size w2 w8 := k27.grown hg8 k27.size (fun j hj => (hb7.lt j hj).1)
  have kc : (convert 22 22 (.slice (some ⟨w8.heap.size, 0, none⟩) 1 1)).run Tryz.prog (w8.alloc (.cells #[.int .u8 104] 5)) = .ok (.slice (some ⟨w8.heap.size, 0, none⟩) 1 1) (w8.alloc (.cells #[.int .u8 104] 5 (1, 2))) := by
    have := Lib.run_convert_bytes_const (P := Tryz.prog) w8 22 5 #[.int .u8 104] 1 1 Tryz.underlying22 Tryz.underlying5
    simpa using this
  have hh : (w8.alloc (.cells #[.int .u8 104] 5 (1, 2))).heap[w8.heap.size]? = some (.cells #[.int .u8 104] 5 (1, 2)) := heap_alloc_new _ _
  have hdH : RdB (w8.alloc (.cells #[.int .u8 104] 5 (1, 2))) (.slice (some ⟨w8.heap.size, 0, none⟩) 1 1) hB.data := by
    refine ⟨_, _, rfl, ⟨by simp [bl, hB], fun _ => ⟨_, 0, rfl, (Array.getElem?_eq_some_iff.1 hh).1, fun j v hj => ?_⟩⟩, by simp, by simp [hB], by omega⟩
    unfold World.cell?
    simp only [Nat.zero_add, hh]
    simpa [bl, hB] using hj
  have k9 := ext_alloc w8 (.cells #[.int .u8 104] 5 (1, 2))
  simp [go_sem, IntWalk.iteOmega, IntWalk.toNatUp, kc]
  generalize w8.alloc (.cells #[.int .u8 104] 5 (1, 2)) = w9 at *
  refine callE_of (row_any' hB_ok hdH k (by omega) 3 k 3 rfl rfl) ?_
  rintro ev w10 ⟨he10, k10⟩
  have k89 := k9.size
  have k910 := k10.size
  have k810 := k9.trans (k10.mono k9.size)
  have k210 := k28.trans (k810.mono k28.size)
  have hT10 := (hT.keep k02).keep k210
  have y2 := canWrite_all hT10 3 rfl
  have y3 : ∀ (l : List Value), l.length = 3 → storeSeg w10 ⟨w.heap.size, 0, none⟩ 0 l = w10.setRow w.heap.size l.toArray := fun l hl => storeSeg_all hT10 l (by rw [hl]; rfl)
  have y4 : ∀ (l : List Value), l.length = 3 → readCells (w10.setRow w.heap.size l.toArray) ⟨w.heap.size, 0, none⟩ 0 3 = some l := fun l hl => readCells_all (Blk_setRow hT10) 3 (by simpa using hl)
  obtain ⟨-, eA, ec, rfl⟩ := own_sl (id he10).choose_spec.2.1
  obtain ⟨-, cA, cc, rfl⟩ := own_sl hc8
  simp [go_sem, IntWalk.iteOmega, IntWalk.toNatUp, y2, y3, y4]
  have kS : ∀ cs, Keeps (fun j => j ≠ w.heap.size) w10 (w10.setRow w.heap.size cs) := fun cs => Keeps.setRow _ _ _ (fun h => h rfl)
  have hsw : w.heap.size < w0.heap.size := hT.lt
  have hs01 := k1.size
  have hs12 := k2.size
  have hs26 := k26.size
  have hs89 := k9.size
  have hs28 := k28.size
  refine ⟨_, _, _, ⟨rfl, rfl, rfl⟩, ?_, ?_, ?_, ?_⟩
  · have h := ((ha2.keep k210).keeps (kS #[Value.slice aA k ac, Value.slice cA (min hf xs.length + ys.length) cc, Value.slice eA (rowL 3 k hB).length ec]) (fun j hj _ => by omega)).rd
    rw [hlen] at h
    unfold wA
    rw [hwk]
    exact h
  · have e : min hf xs.length + ys.length = (xs.take hf ++ ys).length := by simp
    have em : (xs.take hf ++ ys).map Prod.fst = wB n := by
      rw [List.map_append, List.map_take, hxm, hym]
      unfold wB wA
      rw [hwk, ← hhf]
    rw [e, ← em]
    refine bksR_own (row_keeps (row_below hc8 k810) (kS _) (fun j hj => by have := (hc8.lt j hj).1; omega)) fun x hx => ⟨(hcd8 x hx).1, ((hcd8 x hx).2.keep k810).on (kS _) fun A n c e j hj => ?_⟩
    rcases List.mem_append.1 hx with hx | hx
    · have := (far_own (hxo x (List.mem_of_mem_take hx)).2 A n c e j hj).2.1
      omega
    · have := (far_own (hyo x hx).2 A n c e j hj).2.1
      omega
  · have h := (he10.keeps (kS #[Value.slice aA k ac, Value.slice cA (min hf xs.length + ys.length) cc, Value.slice eA (rowL 3 k hB).length ec]) (fun j hj _ => by omega)).rd
    unfold wC
    rw [hwk]
    exact h
  · refine below_setRow ?_ (Nat.le_refl _) _
    exact (kA.trans (k02.mono kA.size)).trans (k210.mono (by omega))
structure RF where
  last : List UInt8
  height : Int
  room : Int
  T : List (List UInt8 × List Int)
  K : List (List UInt8 × Bk)
  A : List (List UInt8 × Int × Bool)
def rcells (last : List UInt8) (height room : Int) (tv kv av : Value) : List Value := bl last ++ [.int .i64 height, .int .i64 room, tv, kv, av]
theorem rcells_at {last : List UInt8} {height room : Int} {tv kv av : Value} (h : last.length = 32) (j : Nat) : (rcells last height room tv kv av)[32 + j]? = ([.int .i64 height, .int .i64 room, tv, kv, av] : List Value)[j]? := by
  unfold rcells
  rw [List.getElem?_append_right (by simp [bl, h])]
  simp [bl, h]
def kEnc (x : List UInt8 × Bk × Value) : List Value := bl x.1 ++ bkv x.2.1 x.2.2
def aEnc (x : List UInt8 × Int × Bool) : List Value := bl x.1 ++ [.int .i64 x.2.1, .bool x.2.2]
theorem rec_at {α : Type} {m : Nat} {enc : α → List Value} : ∀ (xs : List α) (hlen : ∀ x ∈ xs, (enc x).length = m) (i : Nat) (x : α), xs[i]? = some x → ∀ (j : Nat) (v : Value), (enc x)[j]? = some v → (xs.flatMap enc)[i * m + j]? = some v
  | [], _, i, x, h, _, _, _ => by simp at h
  | y :: l, hl, 0, x, h, j, v, hj => by
    simp at h
    subst h
    show (enc y ++ l.flatMap enc)[0 * m + j]? = some v
    rw [Nat.zero_mul, Nat.zero_add, List.getElem?_append_left (List.getElem?_eq_some_iff.1 hj).1]
    exact hj
  | y :: l, hl, i + 1, x, h, j, v, hj => by
    have hy : (enc y).length = m := hl y (by simp)
    show (enc y ++ l.flatMap enc)[(i + 1) * m + j]? = some v
    have e : (i + 1) * m + j = m + (i * m + j) := by rw [Nat.succ_mul]; omega
    rw [e, List.getElem?_append_right (by omega), hy, Nat.add_sub_cancel_left]
    exact rec_at l (fun x hx => hl x (by simp [hx])) i x (by simpa using h) j v hj
theorem rd_rec {α : Type} {m : Nat} {enc : α → List Value} {w : World} {A : Option Addr} {xs : List α} (hlen : ∀ x ∈ xs, (enc x).length = m) (hr : Rd w m A xs.length (xs.flatMap enc)) {i : Nat} (hi : i < xs.length) :
    ∃ b o, A = some ⟨b, o, none⟩ ∧ b < w.heap.size ∧ ∀ W, Below w.heap.size w W → ∀ j v, (enc xs[i])[j]? = some v → W.cell? ⟨b, o + i * m + j, none⟩ = some v := by
  obtain ⟨b, o, rfl, hb, hc⟩ := hr.cells (by omega)
  refine ⟨b, o, rfl, hb, fun W hW j v hj => ?_⟩
  rw [show o + i * m + j = o + (i * m + j) by omega]
  exact (hW.cell (p := ⟨b, o + (i * m + j), none⟩) hb).trans (hc _ _ (rec_at xs hlen i _ (List.getElem?_eq_getElem hi) j v hj))
structure RIn (w : World) (O : Nat → Prop) (g : Nat) (R : RF) (tv kv av : Value) (vs : List Value) (ds : List (List UInt8 × Bk × Value)) : Prop where
  og : O g
  lt : ∀ j, O j → j < w.heap.size
  zero : ¬ O 0
  blk : Blk w g 125 (rcells R.last R.height R.room tv kv av).toArray
  trow : w.ownsRow 0 132 33 tv R.T.length (((R.T.map Prod.fst).zip vs).flatMap tcell)
  torow : ∀ j, tv.ownBlock = some j → O j
  vlen : vs.length = R.T.length
  rows : ∀ (i : Nat) (v : Value) (l : List Int), vs[i]? = some v → (R.T.map Prod.snd)[i]? = some l → w.ownsRow 0 3 1 v l.length (intsK .i64 l) ∧ ∀ j, v.ownBlock = some j → O j
  krow : w.ownsRow 0 167 66 kv ds.length (ds.flatMap kEnc)
  korow : ∀ j, kv.ownBlock = some j → O j
  kmap : ds.map (fun x => (x.1, x.2.1)) = R.K
  dat : ∀ x ∈ ds, BkOk x.2.1 ∧ w.ownsRow 0 5 1 x.2.2 x.2.1.data.length (bl x.2.1.data) ∧ ∀ j, x.2.2.ownBlock = some j → O j
  arow : w.ownsRow 0 127 34 av R.A.length (R.A.flatMap aEnc)
  aorow : ∀ j, av.ownBlock = some j → O j
def RAt (w : World) (O : Nat → Prop) (g : Nat) (R : RF) : Prop := ∃ tv kv av vs ds, RIn w O g R tv kv av vs ds
structure ROk (R : RF) : Prop where
  last : R.last.length = 32
  hlo : 0 ≤ R.height
  hhi : R.height ≤ 9223372036854775807
  room : 1 ≤ R.room ∧ R.room ≤ 4096
  tn : R.T.length ≤ 32
  t : ∀ x ∈ R.T, x.1.length = 32 ∧ x.2.length ≤ 32
  kn : R.K.length ≤ 4096
  k : ∀ x ∈ R.K, x.1.length = 32 ∧ BkOk x.2 ∧ checkB x.2 = 0
  an : R.A.length ≤ 100000
  a : ∀ x ∈ R.A, x.1.length = 32 ∧ 0 ≤ x.2.1 ∧ x.2.1 ≤ 4611686018427387904
theorem RIn.keeps {w w' : World} {O : Nat → Prop} {g : Nat} {R : RF} {tv kv av : Value} {vs : List Value} {ds : List (List UInt8 × Bk × Value)} (h : RIn w O g R tv kv av vs ds) (hk : Keeps O w w') : RIn w' O g R tv kv av vs ds :=
  ⟨h.og, fun j hj => Nat.lt_of_lt_of_le (h.lt j hj) hk.size, h.zero, hk.blk h.blk h.og, row_keeps h.trow hk h.torow, h.torow, h.vlen, fun i v l h1 h2 => ⟨row_keeps (h.rows i v l h1 h2).1 hk (h.rows i v l h1 h2).2, (h.rows i v l h1 h2).2⟩, row_keeps h.krow hk h.korow, h.korow, h.kmap, fun x hx => ⟨(h.dat x hx).1, row_keeps (h.dat x hx).2.1 hk (h.dat x hx).2.2, (h.dat x hx).2.2⟩, row_keeps h.arow hk h.aorow, h.aorow⟩
theorem RIn.keep {w w' : World} {O : Nat → Prop} {g : Nat} {R : RF} {tv kv av : Value} {vs : List Value} {ds : List (List UInt8 × Bk × Value)} (h : RIn w O g R tv kv av vs ds) (hk : Below w.heap.size w w') : RIn w' O g R tv kv av vs ds := h.keeps (Keeps.of_ext hk)
theorem RAt.keeps {w w' : World} {O : Nat → Prop} {g : Nat} {R : RF} (h : RAt w O g R) (hk : Keeps O w w') : RAt w' O g R := by
  obtain ⟨tv, kv, av, vs, ds, h⟩ := h
  exact ⟨tv, kv, av, vs, ds, h.keeps hk⟩
theorem RAt.keep {w w' : World} {O : Nat → Prop} {g : Nat} {R : RF} (h : RAt w O g R) (hk : Below w.heap.size w w') : RAt w' O g R := h.keeps (Keeps.of_ext hk)
theorem kEnc_len {R : RF} (hok : ROk R) {ds : List (List UInt8 × Bk × Value)} (hm : ds.map (fun x => (x.1, x.2.1)) = R.K) : ∀ x ∈ ds, (kEnc x).length = 66 := fun x hx => by
  have h := hok.k (x.1, x.2.1) (by rw [← hm]; exact List.mem_map.2 ⟨x, hx, rfl⟩)
  have h1 : (bkv x.2.1 x.2.2).length = 34 := bkv_len h.2.1.len
  have h2 : x.1.length = 32 := h.1
  simp [kEnc, bl, h2, h1]
theorem aEnc_len {R : RF} (hok : ROk R) : ∀ x ∈ R.A, (aEnc x).length = 34 := fun x hx => by
  have h2 : x.1.length = 32 := (hok.a x hx).1
  simp [aEnc, bl, h2]
theorem kds_len {R : RF} {ds : List (List UInt8 × Bk × Value)} (hm : ds.map (fun x => (x.1, x.2.1)) = R.K) : ds.length = R.K.length := by rw [← hm, List.length_map]
section
variable {w : World} {O : Nat → Prop} {g : Nat} {R : RF} {tv kv av : Value} {vs : List Value} {ds : List (List UInt8 × Bk × Value)}
theorem RIn.c35 (h : RIn w O g R tv kv av vs ds) (hok : ROk R) : w.cell? ⟨g, 35, none⟩ = some kv := by rw [h.blk.cell, List.getElem?_toArray]; exact rcells_at hok.last 3
theorem RIn.c36 (h : RIn w O g R tv kv av vs ds) (hok : ROk R) : w.cell? ⟨g, 36, none⟩ = some av := by rw [h.blk.cell, List.getElem?_toArray]; exact rcells_at hok.last 4
theorem RIn.c34 (h : RIn w O g R tv kv av vs ds) (hok : ROk R) : w.cell? ⟨g, 34, none⟩ = some tv := by rw [h.blk.cell, List.getElem?_toArray]; exact rcells_at hok.last 2
set_option maxHeartbeats 3200000 in
theorem rfind_any (h : RIn w O g R tv kv av vs ds) (hok : ROk R) {id : List UInt8} (hid : id.length = 32) :
    callE Tryz.prog 107 #[.pointer (some ⟨g, 0, none⟩), .agg (bl id).toArray] w fun r w' => ((∃ k : Nat, ∃ hk : k < R.K.length, r = .int .i64 k ∧ (R.K[k]).1 = id ∧ ∀ m (hm : m < R.K.length), m < k → (R.K[m]).1 ≠ id) ∨ (r = .int .i64 (-1) ∧ ∀ m (hm : m < R.K.length), (R.K[m]).1 ≠ id)) ∧ Below w.heap.size w w' := by
  have l32 : (bl id).length = 32 := by rw [bl_length]; exact hid
  have kA := ext_alloc w (.cells (bl id).toArray 27)
  have hI : Blk (w.alloc (.cells (bl id).toArray 27)) w.heap.size 27 (bl id).toArray := Blk.self_ rfl
  have hdl := kds_len h.kmap
  have hkn := hok.kn
  have hkk : ∀ m (hm : m < R.K.length) (hm' : m < ds.length), ds[m].1 = (R.K[m]).1 := fun m hm hm' => by
    have e : (ds.map fun x => (x.1, x.2.1))[m]? = R.K[m]? := by rw [h.kmap]
    rw [List.getElem?_map, List.getElem?_eq_getElem hm', List.getElem?_eq_getElem hm] at e
    have e2 := Option.some.inj e
    rw [← e2]
  obtain ⟨-, kA', kc, rfl⟩ := own_sl h.krow
  refine calls_E Tryz.func107 rfl rfl rfl (Nat.le_of_ble_eq_true rfl) ?_
  simp [go_sem, IntWalk.iteOmega, IntWalk.toNatUp]
  generalize w.alloc (.cells (bl id).toArray 27) = w1 at *
  refine W_loop (fun st wr => ∃ i : Nat, i ≤ ds.length ∧ st 0 = .pointer (some ⟨g, 0, none⟩) ∧ st 3 = .pointer (some ⟨w.heap.size, 0, none⟩) ∧ st 5 = .int .i64 i ∧ (∀ m (hm : m < R.K.length), m < i → (R.K[m]).1 ≠ id) ∧ Below w1.heap.size w1 wr) (fun st _ => ds.length - (intOf (st 5)).toNat) ?_ ?_
  · exact ⟨0, by omega, by simp [go_sem], by simp [go_sem], by simp [go_sem], fun m hm h => by omega, Below.refl _ _⟩
  · rintro st wr ⟨i, hi, e0, e3, e5, hno, hB⟩
    have kw := kA.trans (hB.mono kA.size)
    have hI' := hI.keep hB
    have c35 := (h.keep kw).c35 hok
    have c35d := (h.keep kw.drew).c35 hok
    by_cases hlt : i < ds.length
    · have hlt' : (i : Int) < ds.length := by omega
      obtain ⟨b, o, rfl, hb, hat⟩ := rd_rec (kEnc_len hok h.kmap) (Rd.of_own h.krow) hlt
      have hki : i < R.K.length := by omega
      have hxl : (ds[i].1).length = 32 := by rw [hkk i hki hlt]; exact (hok.k _ (List.getElem_mem hki)).1
      have hbx : (bl ds[i].1).length = 32 := by rw [bl_length]; exact hxl
      have rdx : ∀ W, Below w.heap.size w W → readCells W ⟨b, o + i * 66, none⟩ 0 32 = some (bl ds[i].1) := fun W hW => readCells_cells 32 0 _ hbx fun j v hj => by
        have := hat W hW j v (by unfold kEnc; rw [List.getElem?_append_left (List.getElem?_eq_some_iff.1 hj).1]; exact hj)
        rw [Nat.add_zero]
        exact this
      have x1 := rdx wr kw
      have x1d := rdx wr.drew kw.drew
      have x2 := readCells_all hI' 32 (by simpa using l32)
      have x2d := readCells_all hI'.drew 32 (by simpa using l32)
      rw [hkk i hki hlt] at hxl x1 x1d
      have hqe := fun W => id_eq (R.K[i]).1 id hxl hid W
      simp [go_sem, IntWalk.iteOmega, IntWalk.toNatUp, e0, e3, e5, c35, hlt, hlt']
      refine W_still follows (by kernel_rfl) ?_
      by_cases hq : (R.K[i]).1 = id
      · have hq' : ((R.K[i]).1 == id) = true := by simpa using hq
        simp [go_sem, IntWalk.iteOmega, IntWalk.toNatUp, e0, e3, e5, c35, c35d, hlt, hlt', x1, x2, x1d, x2d, hqe, hq']
        exact ⟨⟨i, rfl, ⟨hki, hq⟩, fun m hm h => hno m hm h⟩, kw.drew⟩
      · have hq' : ((R.K[i]).1 == id) = false := by simpa using hq
        simp [go_sem, IntWalk.iteOmega, IntWalk.toNatUp, e0, e3, e5, c35, c35d, hlt, hlt', x1, x2, x1d, x2d, hqe, hq']
        refine roundEnd.mk ⟨i + 1, by omega, by simp [go_sem, e0], by simp [go_sem, e3], by simp [go_sem], fun m hm h => ?_, hB.drew⟩ ?_
        · by_cases hmi : m = i
          · subst hmi; exact hq
          · exact hno m hm (by omega)
        · simp [go_sem, intOf, e5]; omega
    · have hlt' : ¬ (i : Int) < ds.length := by omega
      simp [go_sem, IntWalk.iteOmega, IntWalk.toNatUp, e0, e3, e5, c35, hlt, hlt']
      exact ⟨fun m hm => hno m hm (by omega), kw⟩
end
end Go.Proofs.YtdjcjjodbniebaaGreatDoor
