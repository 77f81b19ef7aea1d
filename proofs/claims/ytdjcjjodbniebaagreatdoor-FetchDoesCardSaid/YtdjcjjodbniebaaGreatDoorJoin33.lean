/-
  Texts joined: FDel, FDel2, FDel3, FDel4, FWants, FStepsL, FRow5.
-/
import Derived.Test.YtdjcjjodbniebaaGreatDoorJoin32
namespace Go.Proofs.YtdjcjjodbniebaaGreatDoor
open Go.RowKit
set_option linter.unusedVariables false
set_option linter.unusedSimpArgs false
set_option maxRecDepth 10000
section
variable {w : World} {O : Nat → Prop} {f : Nat} {S : FS} {tv : Value} {rk ra ro : Nat} {vs : List Value} {K : List (List UInt8 × Bk × Value)}
set_option maxHeartbeats 1600000 in
theorem wants1_any (h : FIn w O f S tv rk ra ro vs K) (hok : FOk S) {p : Nat} (hp : Blk w p 31 #[.pointer (some ⟨f, 0, none⟩)]) {id : List UInt8} (hid : id.length = 32) :
    callE Tryz.prog 50 #[.agg (bl id).toArray, .pointer (some ⟨p, 0, none⟩)] w fun r w' => r = .bool (askedB S.asked id) ∧ Below w.heap.size w w' := by
  have l32 : (bl id).length = 32 := by rw [bl_length]; exact hid
  have kA := ext_alloc w (.cells (bl id).toArray 27)
  have hI : Blk (w.alloc (.cells (bl id).toArray 27)) w.heap.size 27 (bl id).toArray := Blk.self_ rfl
  have hFA := h.keep kA
  have hpA := hp.keep kA
  refine calls_E Tryz.func50 rfl rfl rfl (Nat.le_of_ble_eq_true rfl) ?_
  simp [go_sem, IntWalk.iteOmega, IntWalk.toNatUp]
  generalize w.alloc (.cells (bl id).toArray 27) = w2 at *
  refine W_still follows (by kernel_rfl) ?_
  have hpd := hpA.drew.cell
  have hc36 := ((hFA.keep (ext_drew w2)).cells hok.last).2.2.2.2.1
  have x1 := readCells_all hI.drew 32 (by simpa using l32)
  have hlook := (run_lookupI idKey (hFA.ma.keep (ext_drew w2)) Tryz.underlying69 id hid (zero_bool _)).2
  rw [boolsL_at] at hlook
  have hlook' : (Instr.lookup 69 (.map (some ra)) (.agg (bl id).toArray) false).run Tryz.prog w2.drew = .ok (.bool (askedB S.asked id)) w2.drew := hlook
  simp [go_sem, IntWalk.iteOmega, IntWalk.toNatUp, hpd, hc36, x1, hlook']
  exact kA.drew
set_option maxHeartbeats 1600000 in
theorem indexF_any (h : FIn w O f S tv rk ra ro vs K) (hok : FOk S) {p : Nat} (hp : Blk w p 31 #[.pointer (some ⟨f, 0, none⟩)]) {A : Option Addr} {c : Nat} {xs : List (List UInt8)} (hxs : ∀ x ∈ xs, x.length = 32) (hr : Rd w 32 A xs.length (flatI xs)) (hlen : xs.length ≤ 100000) :
    callE Tryz.prog 87 #[.slice A xs.length c, .func (.func 50) #[] #[.pointer (some ⟨p, 0, none⟩)]] w fun r w' => ((∃ k : Nat, ∃ hk : k < xs.length, r = .int .i64 k ∧ askedB S.asked xs[k] = true ∧ ∀ m (hm : m < xs.length), m < k → askedB S.asked xs[m] = false) ∨ (r = .int .i64 (-1) ∧ ∀ m (hm : m < xs.length), askedB S.asked xs[m] = false)) ∧ Below w.heap.size w w' := by
  refine calls_E Tryz.func87 rfl rfl rfl (Nat.le_of_ble_eq_true rfl) ?_
  simp [go_sem, IntWalk.iteOmega, IntWalk.toNatUp]
  refine W_loop (fun st wr => ∃ i : Nat, i ≤ xs.length ∧ st 0 = .slice A xs.length c ∧ st 1 = .func (.func 50) #[] #[.pointer (some ⟨p, 0, none⟩)] ∧ st 7 = .int .i64 xs.length ∧ st 8 = .int .i64 i ∧ (∀ m (hm : m < xs.length), m < i → askedB S.asked xs[m] = false) ∧ Below w.heap.size w wr) (fun st _ => xs.length - (intOf (st 8)).toNat) ?_ ?_
  · exact ⟨0, by omega, by simp [go_sem], by simp [go_sem], by simp [go_sem], by simp [go_sem], fun m hm h => by omega, Below.refl _ _⟩
  · rintro st wr ⟨i, hi, e0, e1, e7, e8, hno, hB⟩
    by_cases hlt : i < xs.length
    · have hlt' : (i : Int) < xs.length := by omega
      obtain ⟨b, o, rfl, hb, hc⟩ := (hr.keep hB).cells (by omega)
      have hx := List.getElem?_eq_getElem hlt
      have hxl := hxs _ (List.getElem_mem hlt)
      have hl32 : (bl xs[i]).length = 32 := by rw [bl_length]; exact hxl
      have ra' : readCells wr ⟨b, o + i * 32, none⟩ 0 32 = some (bl xs[i]) := readCells_cells 32 0 _ hl32 (fun j v hj => by
        rw [show o + i * 32 + 0 + j = o + (32 * i + j) by omega]
        exact hc _ _ (flatI_at xs hxs i _ hx j v hj))
      simp [go_sem, IntWalk.iteOmega, IntWalk.toNatUp, e0, e1, e7, e8, hlt, hlt', ra']
      refine callE_of (wants1_any (h.keep hB) hok (hp.keep hB) hxl) ?_
      rintro _ w3 ⟨rfl, k3⟩
      have hB3 := hB.trans (k3.mono hB.size)
      by_cases hq : askedB S.asked xs[i] = true
      · simp [go_sem, IntWalk.iteOmega, IntWalk.toNatUp, e0, e1, e7, e8, hq]
        exact ⟨⟨i, rfl, ⟨hlt, hq⟩, fun m hm h => hno m hm h⟩, hB3⟩
      · have hq' : askedB S.asked xs[i] = false := by simpa using hq
        simp [go_sem, IntWalk.iteOmega, IntWalk.toNatUp, e0, e1, e7, e8, hq']
        refine roundEnd.mk ⟨i + 1, by omega, by simp [go_sem, e0], by simp [go_sem, e1], by simp [go_sem, e7], by simp [go_sem], fun m hm h => ?_, hB3⟩ ?_
        · by_cases hmi : m = i
          · subst hmi; exact hq'
          · exact hno m hm (by omega)
        · simp [go_sem, intOf, e8]; omega
    · have hlt' : ¬ (i : Int) < xs.length := by omega
      simp [go_sem, IntWalk.iteOmega, IntWalk.toNatUp, e0, e1, e7, e8, hlt']
      exact ⟨fun m hm => hno m hm (by omega), hB⟩
end
theorem seg_row {g o : Nat} {t : TypeId} : ∀ (l : List Value) (i : Nat) (w : World) (cur : Array Value), Blk w g t cur → o + i + l.length ≤ cur.size →
    ∃ cur', Blk (storeSeg w ⟨g, o, none⟩ i l) g t cur' ∧ cur'.size = cur.size ∧ (∀ k, cur'[k]? = if o + i ≤ k ∧ k < o + i + l.length then l[k - (o + i)]? else cur[k]?) ∧ Keeps (fun j => j ≠ g) w (storeSeg w ⟨g, o, none⟩ i l)
  | [], i, w, cur, h, _ => ⟨cur, h, rfl, fun k => by rw [if_neg (by simp only [List.length_nil]; omega)], Keeps.refl _ _⟩
  | v :: l, i, w, cur, h, hs => by
    simp only [List.length_cons] at hs
    obtain ⟨cur', h1, h2, h3, h4⟩ := seg_row (g := g) (o := o) l (i + 1) (w.setCell ⟨g, o + i, none⟩ v) (cur.setIfInBounds (o + i) v) (Blk_set h) (by rw [Array.size_setIfInBounds]; omega)
    have e : storeSeg w ⟨g, o, none⟩ i (v :: l) = storeSeg (w.setCell ⟨g, o + i, none⟩ v) ⟨g, o, none⟩ (i + 1) l := by
      show storeSeg (w.setCell ((⟨g, o, none⟩ : Addr).add i) v) ⟨g, o, none⟩ (i + 1) l = _
      rw [add_none]
    rw [e]
    refine ⟨cur', h1, by rw [h2]; simp, fun k => ?_, (Keeps.setCell w ⟨g, o + i, none⟩ v (by simp)).trans h4⟩
    rw [h3 k]
    by_cases hk : k = o + i
    · subst hk
      rw [if_neg (by omega), if_pos (by simp), Nat.sub_self]
      simp [Array.getElem?_setIfInBounds]
      omega
    · by_cases hk2 : o + (i + 1) ≤ k ∧ k < o + (i + 1) + l.length
      · rw [if_pos hk2, if_pos (by simp only [List.length_cons]; omega), show k - (o + i) = (k - (o + (i + 1))) + 1 by omega]
        rfl
      · rw [if_neg hk2, if_neg (by simp only [List.length_cons]; omega), Array.getElem?_setIfInBounds_ne (by omega)]
def Names (w : World) (g : Nat) (L : List (List UInt8)) : Prop := ∃ cur, Blk w g 27 cur ∧ L.length * 32 ≤ cur.size ∧ ∀ m (hm : m < L.length) j v, (bl L[m])[j]? = some v → cur[32 * m + j]? = some v
theorem Names.keep {w w' : World} {g : Nat} {L : List (List UInt8)} (h : Names w g L) (hk : Below w.heap.size w w') : Names w' g L := by
  obtain ⟨cur, h1, h2, h3⟩ := h
  exact ⟨cur, h1.keep hk, h2, h3⟩
theorem Names.lt {w : World} {g : Nat} {L : List (List UInt8)} (h : Names w g L) : g < w.heap.size := by
  obtain ⟨cur, h1, _⟩ := h
  exact h1.lt
theorem Names.read {w : World} {g : Nat} {L : List (List UInt8)} (h : Names w g L) (hok : ∀ x ∈ L, x.length = 32) {i : Nat} (hi : i < L.length) : readCells w ⟨g, i * 32, none⟩ 0 32 = some (bl L[i]) := by
  obtain ⟨cur, h1, h2, h3⟩ := h
  refine readCells_cells 32 0 _ (by rw [bl_length]; exact hok _ (List.getElem_mem hi)) fun j v hj => ?_
  rw [h1.cell, show i * 32 + 0 + j = 32 * i + j by omega]
  exact h3 i hi j v hj
theorem Names.set {w : World} {g : Nat} {L : List (List UInt8)} (h : Names w g L) (hok : ∀ x ∈ L, x.length = 32) {i : Nat} (hi : i < L.length) {x : List UInt8} (hx : x.length = 32) :
    Names (storeSeg w ⟨g, i * 32, none⟩ 0 (bl x)) g (L.set i x) ∧ Keeps (fun j => j ≠ g) w (storeSeg w ⟨g, i * 32, none⟩ 0 (bl x)) ∧ canWrite w ⟨g, i * 32, none⟩ 0 32 = true := by
  obtain ⟨cur, h1, h2, h3⟩ := h
  have hl : (bl x).length = 32 := by rw [bl_length]; exact hx
  obtain ⟨cur', g1, g2, g3, g4⟩ := seg_row (bl x) 0 w cur h1 (o := i * 32) (by rw [hl]; omega)
  refine ⟨⟨cur', g1, by rw [g2, List.length_set]; exact h2, fun m hm j v hj => ?_⟩, g4, canWrite_blk h1 32 (i * 32) 0 (by omega)⟩
  rw [g3, hl]
  simp only [List.length_set] at hm
  by_cases hmi : m = i
  · subst hmi
    rw [List.getElem_set_self] at hj
    have hj32 := (List.getElem?_eq_some_iff.1 hj).1
    rw [if_pos (by omega), show 32 * m + j - (m * 32 + 0) = j by omega]
    exact hj
  · rw [List.getElem_set_ne (Ne.symm hmi)] at hj
    have hj32 := (List.getElem?_eq_some_iff.1 hj).1
    rw [bl_length, hok _ (List.getElem_mem hm)] at hj32
    rw [if_neg (by omega)]
    exact h3 m hm j v hj
theorem flatI_inv : ∀ (L : List (List UInt8)) (hok : ∀ x ∈ L, x.length = 32) (q : Nat) (v : Value), (flatI L)[q]? = some v → ∃ m, ∃ hm : m < L.length, ∃ j, q = 32 * m + j ∧ (bl L[m])[j]? = some v
  | [], _, q, v, h => by simp [flatI] at h
  | x :: L, hok, q, v, h => by
    have hl : (bl x).length = 32 := by rw [bl_length]; exact hok x (by simp)
    change ((bl x) ++ flatI L)[q]? = some v at h
    by_cases hq : q < 32
    · rw [List.getElem?_append_left (by omega)] at h
      exact ⟨0, by simp, q, by omega, h⟩
    · rw [List.getElem?_append_right (by omega), hl] at h
      obtain ⟨m, hm, j, h1, h2⟩ := flatI_inv L (fun x hx => hok x (by simp [hx])) (q - 32) v h
      exact ⟨m + 1, by simpa using hm, j, by omega, by simpa using h2⟩
theorem Names.rd {w : World} {g : Nat} {L : List (List UInt8)} (h : Names w g L) (hok : ∀ x ∈ L, x.length = 32) {k : Nat} (hk : k ≤ L.length) : Rd w 32 (some ⟨g, 0, none⟩) k (flatI (L.take k)) := by
  have hok' : ∀ x ∈ L.take k, x.length = 32 := fun x hx => hok x (List.mem_of_mem_take hx)
  have hlt := h.lt
  obtain ⟨cur, h1, h2, h3⟩ := h
  refine ⟨?_, fun _ => ⟨g, 0, rfl, hlt, fun q v hq => ?_⟩⟩
  · have key : ∀ (M : List (List UInt8)), (∀ x ∈ M, x.length = 32) → (flatI M).length = M.length * 32 := by
      intro M
      induction M with
      | nil => intro _; rfl
      | cons x M ih =>
        intro hM
        show (bl x ++ flatI M).length = _
        rw [List.length_append, bl_length, hM x (by simp), ih fun y hy => hM y (by simp [hy]), List.length_cons]
        omega
    rw [key _ hok', List.length_take]
    congr 1
    omega
  · obtain ⟨m, hm, j, rfl, h4⟩ := flatI_inv _ hok' q v hq
    rw [Nat.zero_add, h1.cell]
    have hm' : m < L.length := by simp at hm; omega
    refine h3 m hm' j v ?_
    rw [List.getElem_take] at h4
    exact h4
theorem Names.of_row {w : World} {base n c : Nat} {g : Nat} {L : List (List UInt8)} (h : w.ownsRow base 27 32 (.slice (some ⟨g, 0, none⟩) n c) n (flatI L)) (hok : ∀ x ∈ L, x.length = 32) (hn : L.length = n) : Names w g L := by
  rcases h.2 with ⟨e, _⟩ | ⟨g', cap, cur, e, hb, hg, hnc, hm, hs, ht⟩
  · cases e
  · injection e with e _ e3
    injection e with e
    injection e with e
    subst e
    refine ⟨cur, hg, by rw [hn, hs]; exact Nat.mul_le_mul_right _ hnc, fun m hm j v hj => ?_⟩
    have h1 := flatI_at L hok m _ (List.getElem?_eq_getElem hm) j v hj
    rw [← ht, List.getElem?_take] at h1
    split at h1
    · rw [← Array.getElem?_toList]; exact h1
    · cases h1
theorem zero_id (w : World) : (zeroValue 27).run Tryz.prog w = .ok (.agg zeroI.toArray) w := rfl
theorem zeroCells_one {n : Nat} : ∀ v ∈ (Builtin.zeroCells (Value.agg zeroI.toArray).cells n).toList, v.oneCell' = true := by
  intro v hv
  unfold Builtin.zeroCells at hv
  rw [Array.mem_toList_iff] at hv
  obtain ⟨i, _, rfl⟩ := Array.mem_map.1 hv
  have hz : (Value.agg zeroI.toArray).cells = zeroI.toArray := rfl
  rw [hz]
  have hs : zeroI.toArray.size = 32 := rfl
  have hi : i % zeroI.toArray.size < 32 := by rw [hs]; exact Nat.mod_lt _ (by omega)
  generalize i % zeroI.toArray.size = k at hi
  have : ∀ k, k < 32 → ((zeroI.toArray)[k]!).oneCell' = true := by decide
  exact this k hi
theorem clear_any {w : World} {g : Nat} {L : List (List UInt8)} (h : Names w g L) (hok : ∀ x ∈ L, x.length = 32) {i m c ty : Nat} (hm : i + m = L.length) {A : Option Addr} (hA : 0 < m → A = some ⟨g, i * 32, none⟩) :
    ∃ w', (Builtin.clear_ #[37] ty #[.slice A m c]).run Tryz.prog w = .ok (.tuple #[]) w' ∧ Names w' g (L.take i) ∧ Keeps (fun j => j ≠ g) w w' := by
  obtain ⟨cur, h1, h2, h3⟩ := h
  have hti : (L.take i).length = i := by rw [List.length_take]; omega
  by_cases h0 : m = 0
  · subst h0
    refine ⟨w, ?_, ⟨cur, h1, by rw [hti]; omega, fun q hq j v hj => ?_⟩, Keeps.refl _ _⟩
    · cases A with
      | none => simp [Builtin.clear_, run_underlying Tryz.underlying37]
      | some a => simp [Builtin.clear_, run_underlying Tryz.underlying37]
    · rw [List.getElem_take] at hj
      exact h3 q (by omega) j v hj
  · obtain ⟨m', rfl⟩ : ∃ m', m = m' + 1 := ⟨m - 1, by omega⟩
    rw [hA (by omega)]
    have hzl : (Builtin.zeroCells (Value.agg zeroI.toArray).cells (m' + 1)).toList.length = (m' + 1) * 32 := by simp [Builtin.zeroCells]; rfl
    have hst := run_storeCells_at (P := Tryz.prog) g (i * 32) 27 (Builtin.zeroCells (Value.agg zeroI.toArray).cells (m' + 1)).toList 0 cur w h1 (by rw [hzl]; omega) zeroCells_one
    have hcl : ∀ (zv : Value) (Z : List Value), (∀ w, (zeroValue 27).run Tryz.prog w = .ok zv w) → (Builtin.zeroCells zv.cells (m' + 1)).toList = Z → Z.length = (m' + 1) * 32 → (storeCells ⟨g, i * 32, none⟩ Z 0).run Tryz.prog w = .ok () (w.setRow g (cur.toList.take (i * 32 + 0) ++ Z ++ cur.toList.drop (i * 32 + 0 + Z.length)).toArray) →
        (Builtin.clear_ #[37] ty #[.slice (some ⟨g, i * 32, none⟩) (m' + 1) c]).run Tryz.prog w = .ok (.tuple #[]) (w.setRow g (cur.toList.take (i * 32 + 0) ++ Z ++ cur.toList.drop (i * 32 + 0 + Z.length)).toArray) := by
      intro zv Z hz hZ hZl hs
      simp only [Nat.add_zero, List.append_assoc] at hs ⊢
      simp [Builtin.clear_, run_underlying Tryz.underlying37, hz, hZ, hs]
    refine ⟨_, hcl _ _ zero_id rfl hzl hst, ⟨_, Blk_setRow h1, ?_, fun q hq j v hj => ?_⟩, Keeps.setRow _ _ _ (by simp)⟩
    · rw [hti, List.size_toArray, List.length_append, List.length_append, List.length_take, List.length_drop, hzl, Array.length_toList]
      omega
    · rw [List.getElem_take] at hj
      have hj32 := (List.getElem?_eq_some_iff.1 hj).1
      rw [hti] at hq
      have hx := h3 q (by omega) j v hj
      rw [bl_length, hok _ (List.getElem_mem (show q < L.length by omega))] at hj32
      rw [List.getElem?_toArray, List.append_assoc, List.getElem?_append_left (by rw [List.length_take, Array.length_toList]; omega), List.getElem?_take, if_pos (by omega), Array.getElem?_toList]
      exact hx
theorem grown_keeps {w w' : World} {g : Nat} (h : Keeps (fun j => j ≠ g) w w') : w.grownBy w' (some g) := ⟨h.os, h.tape, h.output, h.size, fun k hk hne => h.block k hk fun e => hne (by rw [e])⟩
def freeL (S : FS) (ids : List (List UInt8)) : List (List UInt8) := ids.filter fun x => !askedB S.asked x
def DelPost (S : FS) (ids : List (List UInt8)) (v : Value) (w : World) (r : Value) (w' : World) : Prop :=
  ∃ A c, r = .slice A (freeL S ids).length c ∧ Rd w' 32 A (freeL S ids).length (flatI (freeL S ids)) ∧ (∀ j, atB (freeL S ids).length A j → v.ownBlock = some j) ∧ w.grownBy w' v.ownBlock
section
variable {w : World} {O : Nat → Prop} {f : Nat} {S : FS} {tv : Value} {rk ra ro : Nat} {vs : List Value} {K : List (List UInt8 × Bk × Value)}
set_option maxHeartbeats 6400000 in
theorem del_any (h : FIn w O f S tv rk ra ro vs K) (hok : FOk S) {p : Nat} (hp : Blk w p 31 #[.pointer (some ⟨f, 0, none⟩)]) {base : Nat} {v : Value} {ids : List (List UInt8)} (hids : ∀ x ∈ ids, x.length = 32) (hlen : ids.length ≤ 1000) (hown : w.ownsRow base 27 32 v ids.length (flatI ids)) :
    callE Tryz.prog 49 #[v, .func (.func 50) #[] #[.pointer (some ⟨p, 0, none⟩)]] w (DelPost S ids v w) := by
  obtain ⟨-, A, c, rfl⟩ := own_sl hown
  refine calls_E Tryz.func49 rfl rfl rfl (Nat.le_of_ble_eq_true rfl) ?_
  simp [go_sem, IntWalk.iteOmega, IntWalk.toNatUp]
  refine callE_of (indexF_any h hok hp hids (Rd.of_own hown) (by omega)) ?_
  rintro r w1 ⟨hr, k1⟩
  rcases hr with ⟨k, hk, rfl, hka, hno⟩ | ⟨rfl, hno⟩
  · obtain ⟨g, rfl⟩ : ∃ g, A = some ⟨g, 0, none⟩ := by
      rcases hown.2 with ⟨_, h0⟩ | ⟨g, cap, cur, e, _⟩
      · omega
      · injection e with e _ _
        exact ⟨g, e⟩
    have hcap : ids.length ≤ c := by
      rcases hown.2 with ⟨e, _⟩ | ⟨g', cap, cur, e, _, _, hnc, _⟩
      · cases e
      · injection e with _ _ e3
        omega
    have hN0 : Names w g ids := Names.of_row hown hids rfl
    have hpg : p ≠ g := fun e => row_ne hown hp (by decide) (e ▸ rfl)
    have hk1 : (k : Int) ≠ -1 := by omega
    have hk1' : ((k : Int) == -1) = false := by rw [beq_eq_false_iff_ne]; exact hk1
    have hkE : IntKind.i64.wrap ((k : Int) + 1) = (k : Int) + 1 := by rw [wrap_i64_if, if_pos (by omega)]
    simp [go_sem, IntWalk.iteOmega, IntWalk.toNatUp, hk1', hkE]
    have fil : ∀ j (hj : j < ids.length), (freeL S (ids.take (j + 1))) = freeL S (ids.take j) ++ (if askedB S.asked ids[j] = true then [] else [ids[j]]) := fun j hj => by
      unfold freeL
      rw [take_snoc' hj, List.filter_append]
      congr 1
      cases ha : askedB S.asked ids[j] <;> simp [ha]
    have fk : freeL S (ids.take k) = ids.take k := by
      unfold freeL
      rw [List.filter_eq_self]
      intro x hx
      obtain ⟨m, hm, rfl⟩ := List.getElem_of_mem hx
      rw [List.length_take] at hm
      rw [List.getElem_take, hno m (by omega) (by omega)]
      rfl
    refine W_loop (fun st wr => ∃ (i j : Nat) (cur : List (List UInt8)), i < j ∧ j ≤ ids.length ∧ st 0 = .slice (some ⟨g, 0, none⟩) ids.length c ∧ st 1 = .func (.func 50) #[] #[.pointer (some ⟨p, 0, none⟩)] ∧ st 5 = .int .i64 i ∧ st 6 = .int .i64 j ∧ cur.length = ids.length ∧ (∀ x ∈ cur, x.length = 32) ∧ cur.take i = freeL S (ids.take j) ∧ cur.drop j = ids.drop j ∧ Names wr g cur ∧ Keeps (fun j => j ≠ g) w wr) (fun st _ => ids.length - (intOf (st 6)).toNat) ?_ ?_
    · refine ⟨k, k + 1, ids, by omega, by omega, by simp [go_sem], by simp [go_sem], by simp [go_sem], by simp [go_sem], rfl, hids, ?_, rfl, hN0.keep k1, Keeps.of_ext k1⟩
      rw [fil k hk, if_pos hka, List.append_nil, fk]
    · rintro st wr ⟨i, j, cur, hij, hj, e0, e1, e5, e6, hcl, hc32, hci, hcd, hNr, hKr⟩
      have hFr := h.offRow hown (by decide) (by decide) (by decide) (by decide) (grown_keeps hKr)
      have hpr : Blk wr p 31 #[.pointer (some ⟨f, 0, none⟩)] := hKr.blk hp hpg
      by_cases hlt : j < ids.length
      · have hlt' : (j : Int) < ids.length := by omega
        have hjc : j < cur.length := by omega
        have hx : cur[j] = ids[j] := by
          have h1 : cur[j]? = ids[j]? := by
            have := congrArg (fun l => l[0]?) hcd
            simpa [List.getElem?_drop] using this
          rw [List.getElem?_eq_getElem hjc, List.getElem?_eq_getElem hlt] at h1
          exact Option.some.inj h1
        have hxl : (cur[j]).length = 32 := hc32 _ (List.getElem_mem hjc)
        have rx := hNr.read hc32 hjc
        have hfl := fil j hlt
        have hl32 : (bl cur[j]).length = 32 := by rw [bl_length]; exact hxl
        rw [← hx] at hfl
        have hjE : IntKind.i64.wrap ((j : Int) + 1) = (j : Int) + 1 := by rw [wrap_i64_if, if_pos (by omega)]
        have hiE : IntKind.i64.wrap ((i : Int) + 1) = (i : Int) + 1 := by rw [wrap_i64_if, if_pos (by omega)]
        have hcd' : ∀ (cur' : List (List UInt8)), cur'.length = cur.length → cur'.drop (j + 1) = cur.drop (j + 1) → cur'.drop (j + 1) = ids.drop (j + 1) := fun cur' _ he => by
          rw [he]
          have := congrArg (List.drop 1) hcd
          simpa [List.drop_drop] using this
        generalize hxx : cur[j] = x at *
        have y2 : ∀ (k : Array Value) (t : TypeId), k.size = 32 → canWrite (wr.alloc (.cells k t)) ⟨wr.heap.size, 0, none⟩ 0 32 = true := fun k t hk => canWrite_all (Blk.self_ rfl) 32 hk
        have y3 : ∀ (k : Array Value) (t : TypeId) (l : List Value), k.size = 32 → l.length = 32 → storeSeg (wr.alloc (.cells k t)) ⟨wr.heap.size, 0, none⟩ 0 l = (wr.alloc (.cells k t)).setRow wr.heap.size l.toArray := fun k t l hk hl => storeSeg_all (Blk.self_ rfl) l (by omega)
        have y4 : ∀ (k : Array Value) (t : TypeId) (l : List Value), l.length = 32 → readCells ((wr.alloc (.cells k t)).setRow wr.heap.size l.toArray) ⟨wr.heap.size, 0, none⟩ 0 32 = some l := fun k t l hl => readCells_all (Blk_setRow (Blk.self_ rfl)) 32 (by simpa using hl)
        simp [go_sem, IntWalk.iteOmega, IntWalk.toNatUp, e0, e1, e5, e6, hlt, hlt', rx, y2, y3, y4, hl32, bl_one]
        rw [← zeroI_lit]
        have kz : Below wr.heap.size wr ((wr.alloc (.cells zeroI.toArray 27)).setRow wr.heap.size (bl x).toArray) := below_setRow (ext_alloc wr _) (Nat.le_refl _) _
        have hxb : Blk ((wr.alloc (.cells zeroI.toArray 27)).setRow wr.heap.size (bl x).toArray) wr.heap.size 27 (bl x).toArray := Blk_setRow (Blk.self_ rfl)
        generalize (wr.alloc (.cells zeroI.toArray 27)).setRow wr.heap.size (bl x).toArray = w2 at *
        refine callE_of (wants1_any (hFr.keep kz) hok (hpr.keep kz) hxl) ?_
        rintro _ w3 ⟨rfl, k3⟩
        have k23 : Below wr.heap.size wr w3 := kz.trans (k3.mono kz.size)
        have hN3 := hNr.keep k23
        have hK3 := hKr.trans (Keeps.of_ext k23)
        have hx3 := readCells_all (hxb.keep k3) 32 (by simpa using hl32)
        by_cases hq : askedB S.asked x = true
        · rw [if_pos hq, List.append_nil] at hfl
          simp [go_sem, IntWalk.iteOmega, IntWalk.toNatUp, e0, e1, e5, e6, hq, hjE]
          refine roundEnd.mk ⟨i, j + 1, cur, by omega, by omega, by simp [go_sem, e0], by simp [go_sem, e1], by simp [go_sem, e5], by simp [go_sem], hcl, hc32, by rw [hfl]; exact hci, hcd' cur rfl rfl, hN3, hK3⟩ ?_
          simp [go_sem, intOf, e6]; omega
        · rw [if_neg hq] at hfl
          have hq' : askedB S.asked x = false := by simpa using hq
          have hic : i < cur.length := by omega
          have hic' : (i : Int) < ids.length := by omega
          have hin : i < ids.length := by omega
          obtain ⟨hNs, hKs, hcw⟩ := hN3.set hc32 hic hxl
          simp [go_sem, IntWalk.iteOmega, IntWalk.toNatUp, e0, e1, e5, e6, hq', hic', hin, hx3, hcw, hl32, bl_one, hjE, hiE]
          refine roundEnd.mk ⟨i + 1, j + 1, cur.set i x, by omega, by omega, by simp [go_sem, e0], by simp [go_sem, e1], by simp [go_sem], by simp [go_sem], by simpa using hcl, fun y hy => ?_, ?_, hcd' _ (by simp) (by rw [List.drop_set]; rw [if_pos (by omega)]), hNs, hK3.trans hKs⟩ ?_
          · rcases List.mem_or_eq_of_mem_set hy with hy | rfl
            · exact hc32 y hy
            · exact hxl
          · rw [hfl, ← hci]
            have hsi : i < (cur.set i x).length := by simpa using hic
            rw [take_snoc' hsi, List.getElem_set_self, List.take_set_of_le (by omega)]
          · simp [go_sem, intOf, e6]; omega
      · obtain rfl : j = ids.length := by omega
        have hlt' : ¬ (ids.length : Int) < ids.length := by omega
        rw [List.take_of_length_le (Nat.le_refl _)] at hci
        have hfi : (freeL S ids).length = i := by rw [← hci, List.length_take]; omega
        have hi1 : (i : Int) ≤ ids.length := by omega
        have hi2 : (i : Int) ≤ c := by omega
        obtain ⟨w4, hrun, hN4, hK4⟩ := clear_any (ty := 0) (c := c - i) hNr hc32 (i := i) (m := ids.length - i) (by omega) (A := some ⟨g, i * 32, none⟩) (fun _ => rfl)
        have hc4 : ∀ x ∈ cur.take i, x.length = 32 := fun x hx => hc32 x (List.mem_of_mem_take hx)
        have hrd := hN4.rd hc4 (k := i) (by rw [List.length_take]; omega)
        rw [List.take_take, Nat.min_self, hci] at hrd
        have hK := hKr.trans hK4
        simp [go_sem, IntWalk.iteOmega, IntWalk.toNatUp, e0, e1, e5, e6, hlt', hi1, hi2, hrun]
        refine ⟨some ⟨g, 0, none⟩, c, by rw [hfi], ?_, fun j hj => ?_, grown_keeps hK⟩
        · rw [hfi]; exact hrd
        · obtain ⟨_, b, o, e, rfl⟩ := hj
          injection e with e
          injection e with e
          subst e
          rfl
  · have hf : freeL S ids = ids := by
      unfold freeL
      rw [List.filter_eq_self]
      intro x hx
      obtain ⟨m, hm, rfl⟩ := List.getElem_of_mem hx
      rw [hno m hm]
      rfl
    simp [go_sem, IntWalk.iteOmega, IntWalk.toNatUp]
    unfold DelPost
    rw [hf]
    exact ⟨A, c, rfl, Rd.keep (Rd.of_own hown) k1, fun j hj => atB_row hown hj, ⟨k1.os, k1.tape, k1.output, k1.size, fun q hq _ => k1.block q hq⟩⟩
end
noncomputable def wantsF (S : FS) : List (List UInt8) := freeL S ((missL S).map Prod.fst)
def WantsAt (w : World) (r : Value) (L : List (List UInt8)) : Prop := ∃ g A c, r = .func (.func 51) #[] #[.pointer (some ⟨g, 0, none⟩)] ∧ Blk w g 37 #[.slice A L.length c] ∧ Rd w 32 A L.length (flatI L) ∧ (∀ x ∈ L, x.length = 32) ∧ L.length ≤ 32
section
variable {w : World} {O : Nat → Prop} {f : Nat} {S : FS} {tv : Value} {rk ra ro : Nat} {vs : List Value} {K : List (List UInt8 × Bk × Value)}
set_option maxHeartbeats 1600000 in
theorem fwants_any (h : FIn w O f S tv rk ra ro vs K) (hok : FOk S) (hC : Cubes w) :
    callE Tryz.prog 15 #[.pointer (some ⟨f, 0, none⟩)] w fun r w' => WantsAt w' r (wantsF S) ∧ Below w.heap.size w w' := by
  have k2 : Below w.heap.size w ((w.alloc (.cells #[.pointer (some ⟨f, 0, none⟩)] 31)).alloc (.cells #[.slice none 0 0] 37)) := ext_trans (ext_alloc _ _) (ext_alloc _ _)
  have hp : Blk ((w.alloc (.cells #[.pointer (some ⟨f, 0, none⟩)] 31)).alloc (.cells #[.slice none 0 0] 37)) w.heap.size 31 #[.pointer (some ⟨f, 0, none⟩)] := (Blk.self_ rfl).more _
  have hg : Blk ((w.alloc (.cells #[.pointer (some ⟨f, 0, none⟩)] 31)).alloc (.cells #[.slice none 0 0] 37)) (w.heap.size + 1) 37 #[.slice none 0 0] := Blk.self_ (by simp)
  have hsz : ((w.alloc (.cells #[.pointer (some ⟨f, 0, none⟩)] 31)).alloc (.cells #[.slice none 0 0] 37)).heap.size = w.heap.size + 2 := by simp
  refine calls_E Tryz.func15 rfl rfl rfl (Nat.le_of_ble_eq_true rfl) ?_
  simp [go_sem, IntWalk.iteOmega, IntWalk.toNatUp]
  generalize (w.alloc (.cells #[.pointer (some ⟨f, 0, none⟩)] 31)).alloc (.cells #[.slice none 0 0] 37) = w2 at *
  have hF2 := h.keep k2
  have hpc := hp.cell
  have r0 := fun k => callE_eq noinit_fnone (fnone_made hF2.blk (FIn.c35 hok.last)) k
  simp [go_sem, IntWalk.iteOmega, IntWalk.toNatUp, hpc, r0]
  refine callE_of (fmissed_any hF2 hok (hC.keep k2)) ?_
  rintro _ w3 ⟨ov, us, rfl, hov, hM, hR, hW, k3⟩
  have hids : ∀ x ∈ (missL S).map Prod.fst, x.length = 32 := fun x hx => by
    obtain ⟨y, hy, rfl⟩ := List.mem_map.1 hx
    exact (hW.2 y hy).1
  have hln : ((missL S).map Prod.fst).length = (missL S).length := List.length_map ..
  have hov' : w3.ownsRow w2.heap.size 27 32 ov ((missL S).map Prod.fst).length (flatI ((missL S).map Prod.fst)) := by rw [hln]; exact hov
  have hl32 : ((missL S).map Prod.fst).length ≤ 32 := by rw [hln]; exact hW.1
  have hwd : wantsF S = freeL S ((missL S).map Prod.fst) := rfl
  rw [hwd]
  generalize (missL S).map Prod.fst = ids at *
  obtain ⟨-, oA, oc, rfl⟩ := own_sl hov'
  have hp3 := hp.keep k3
  have hg3 := hg.keep k3
  have kC : Below w2.heap.size w2 (w3.setCell ⟨w.heap.size + 1, 0, none⟩ (.slice oA ids.length oc)) → True := fun _ => trivial
  have hlt3 := k3.size
  have hovb : ∀ j, (Value.slice oA ids.length oc).ownBlock = some j → w.heap.size + 2 ≤ j := fun j hj => by have := (hov'.lt j hj).1; omega
  have kS : Keeps (fun j => j ≠ w.heap.size + 1) w3 (w3.setCell ⟨w.heap.size + 1, 0, none⟩ (.slice oA ids.length oc)) := Keeps.setCell _ _ _ (by simp)
  have hp4 : Blk (w3.setCell ⟨w.heap.size + 1, 0, none⟩ (.slice oA ids.length oc)) w.heap.size 31 #[.pointer (some ⟨f, 0, none⟩)] := kS.blk hp3 (by omega)
  have hg4 : Blk (w3.setCell ⟨w.heap.size + 1, 0, none⟩ (.slice oA ids.length oc)) (w.heap.size + 1) 37 #[.slice oA ids.length oc] := Blk_set hg3
  have hov4 := row_keeps hov' kS (fun j hj => by have := hovb j hj; omega)
  have kB4 : Below w.heap.size w (w3.setCell ⟨w.heap.size + 1, 0, none⟩ (.slice oA ids.length oc)) := (k2.trans (k3.mono (by omega))).trans (kS.below (by omega) fun k hk => by omega)
  have hgc := hg3.cell
  have hgf := hg3.frozen
  simp [go_sem, IntWalk.iteOmega, IntWalk.toNatUp, hgc, hgf]
  have hg4c := hg4.cell
  have hsz4 : (w3.setCell ⟨w.heap.size + 1, 0, none⟩ (.slice oA ids.length oc)).heap.size = w3.heap.size := sz_set _ _ _
  generalize w3.setCell ⟨w.heap.size + 1, 0, none⟩ (.slice oA ids.length oc) = w4 at *
  refine callE_of (del_any (h.keep kB4) hok hp4 hids (by omega) hov4) ?_
  rintro _ w5 ⟨A, c, rfl, hrd, hat, hgr⟩
  have kG := Keeps.grown (O := fun j => (Value.slice oA ids.length oc).ownBlock ≠ some j) hgr fun k hk h => h hk
  have hg5 := kG.blk hg4 fun e => by have := hovb _ e; omega
  have hg5c := hg5.cell
  have hg5f := hg5.frozen
  simp [go_sem, IntWalk.iteOmega, IntWalk.toNatUp, hg5c, hg5f]
  have kS5 : Keeps (fun j => j ≠ w.heap.size + 1) w5 (w5.setCell ⟨w.heap.size + 1, 0, none⟩ (.slice A (freeL S ids).length c)) := Keeps.setCell _ _ _ (by simp)
  refine ⟨⟨w.heap.size + 1, A, c, rfl, Blk_set hg5, Rd_on hrd kS5 fun j hj => ?_, fun x hx => hids x (List.mem_filter.1 hx).1, Nat.le_trans (List.length_filter_le _ _) hl32⟩, ?_⟩
  · have := hovb j (hat j hj)
    omega
  · refine kB4.trans ((kG.below (by omega) fun k hk e => ?_).trans (kS5.below ?_ fun k hk => by omega))
    · have := hovb k e; omega
    · have := kG.size; omega
end
section
variable {w : World} {O : Nat → Prop} {f : Nat} {S : FS}
theorem WantsAt.keep {w w' : World} {r : Value} {L : List (List UInt8)} (h : WantsAt w r L) (hk : Below w.heap.size w w') : WantsAt w' r L := by
  obtain ⟨g, A, c, h1, h2, h3, h4⟩ := h
  exact ⟨g, A, c, h1, h2.keep hk, h3.keep hk, h4⟩
theorem fat_wants (h : FAt w O f S) (hok : FOk S) (hC : Cubes w) :
    callE Tryz.prog 15 #[.pointer (some ⟨f, 0, none⟩)] w fun r w' => WantsAt w' r (wantsF S) ∧ Below w.heap.size w w' := by
  obtain ⟨tv, rk, ra, ro, vs, K, h⟩ := h
  exact fwants_any h hok hC
theorem told_wants {r : Value} {L : List (List UInt8)} (h : WantsAt w r L) (most : Nat) (hmost : most ≤ 9223372036854775807) (M : Int) (hM : M = most) :
    callE Tryz.prog 14 #[r, .int .i64 M] w fun v w' => w'.ownsRow w.heap.size 27 32 v (L.take most).length (flatI (L.take most)) ∧ Below w.heap.size w w' := by
  obtain ⟨g, A, c, rfl, h1, h2, h3, h4⟩ := h
  exact told_any L h3 A c g w (by omega) h1 h2 most hmost M hM
end
def nq (q : Nat → Bk) (i : Nat) : List UInt8 := sha (bytesB (q i))
structure QRow (q : Nat → Bk) (m : Nat) : Prop where
  ok : ∀ i, i ≤ m → BkOk (q i) ∧ checkB (q i) = 0 ∧ (q i).height = i
  linked : ∀ i, i < m → linkedB (q (i + 1)) (q i) = 0 ∧ (q (i + 1)).parent = nq q i
  inj : ∀ i j, i ≤ m → j ≤ m → nq q i = nq q j → i = j
section
variable {q : Nat → Bk} {m : Nat}
end
theorem QRow.mono {q : Nat → Bk} {m n : Nat} (h : QRow q n) (hm : m ≤ n) : QRow q m :=
  ⟨fun i hi => h.ok i (by omega), fun i hi => h.linked i (by omega), fun i j hi hj => h.inj i j (by omega) (by omega)⟩
end Go.Proofs.YtdjcjjodbniebaaGreatDoor
