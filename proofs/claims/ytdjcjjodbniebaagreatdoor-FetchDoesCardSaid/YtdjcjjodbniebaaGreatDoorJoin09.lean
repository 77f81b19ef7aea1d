/-
  Texts joined: Open, Make, Own, Copy.
-/
import Derived.Test.YtdjcjjodbniebaaGreatDoorJoin08
import Derived.WalkKit
import Derived.Carry
import Derived.OpenShut
import Derived.ChangeMaps5
import Derived.Deep.Slices
import Derived.Lib.AppendZerosOnto
namespace Go.Proofs.YtdjcjjodbniebaaGreatDoor
open Go.RowKit Go.ChangeShapes Go.WideShapes
set_option linter.unusedVariables false
section
variable {H : Type} {enc : TypeId × Value → H} {P : Program}
def Sl (w : World) (size : Nat) (v : Value) (n : Nat) (xs : List Value) : Prop := ∃ A c, v = .slice A n c ∧ Rd w size A n xs ∧ (A = none → n = 0 ∧ c = 0) ∧ n ≤ c ∧ c ≤ 9223372036854775807
theorem block_lt {w : World} {a : Addr} {v : Value} (h : w.cell? a = some v) : a.block < w.heap.size := by
  rcases Nat.lt_or_ge a.block w.heap.size with h1 | h1
  · exact h1
  · unfold World.cell? at h; rw [Array.getElem?_eq_none h1] at h; cases h
theorem addr_plain {w : World} {a : Addr} {v : Value} (h : w.cell? a = some v) : a = ⟨a.block, a.off, none⟩ := by
  have := World.cell?_spot h
  obtain ⟨b, o, s⟩ := a
  simp at this
  subst this
  rfl
theorem open_sl0 {W : World} {b0 : Nat} {sp : Nat → Bool} {held : Bool} {t e : TypeId} {fuel : Nat} {cs : List Value} {x : DataW H × List MemPlace} (ht : P.underlying t = some (.slice e)) (hpos : 0 < P.cellsOf e) (hf : DataW.trod enc P W b0 sp held fuel t cs = some x) :
    ∃ u n xs, cs = [u] ∧ Sl W (P.cellsOf e) u n xs ∧ ∀ i, i < n → ∃ fuel y, DataW.trod enc P W b0 sp held fuel e ((xs.drop (i * P.cellsOf e)).take (P.cellsOf e)) = some y := by
  rcases Deep.open_slice ht hf with ⟨h0, _⟩ | ⟨a, n, c, m, k, D, Pl, hcs, hb, hl, hm, hmm, hx, hi⟩
  · exact ⟨_, 0, [], h0, ⟨none, 0, rfl, Rd.nil_ _ _ _, fun _ => ⟨rfl, rfl⟩, by omega, by omega⟩, fun i hi => by omega⟩
  · have hmn : n ≤ m := by rw [hmm]; split <;> omega
    generalize hC : P.cellsOf e = C at *
    have hcell : ∀ i, i < n → ∃ cs', cs'.length = C ∧ (∀ j, j < C → W.cell? (a.add (i * C + j)) = cs'[j]?) ∧ DataW.trod enc P W b0 sp held k e cs' = some (D i, Pl i) := by
      intro i hin
      obtain ⟨cs', h1, h2⟩ := hi i (by omega)
      obtain ⟨_, h3, h4⟩ := World.cells?_some h1
      refine ⟨cs', h3, fun j hj => ?_, h2⟩
      rw [← h4 j hj, Deep.add_add]
    obtain ⟨F, hF⟩ := Deep.choose_lt (α := List Value) (p := fun i cs' => cs'.length = C ∧ (∀ j, j < C → W.cell? (a.add (i * C + j)) = cs'[j]?) ∧ DataW.trod enc P W b0 sp held k e cs' = some (D i, Pl i)) hcell
    have hlen : ∀ q, q ≤ n → ((List.range q).flatMap F).length = q * C := by
      intro q
      induction q with
      | zero => intro _; simp
      | succ q ih => intro hq; rw [List.range_succ, List.flatMap_append, List.length_append, ih (by omega)]; simp [(hF q (by omega)).1, Nat.succ_mul]
    have hat : ∀ q, q ≤ n → ∀ i, i < q → (((List.range q).flatMap F).drop (i * C)).take C = F i := by
      intro q
      induction q with
      | zero => intro _ i hi; omega
      | succ q ih =>
        intro hq i hi
        have hfl : (List.range (q + 1)).flatMap F = (List.range q).flatMap F ++ F q := by rw [List.range_succ, List.flatMap_append]; simp
        rw [hfl]
        rcases Nat.lt_or_ge i q with h | h
        · have hle : i * C + C ≤ q * C := by rw [← Nat.succ_mul]; exact Nat.mul_le_mul_right _ h
          rw [List.drop_append_of_le_length (by rw [hlen q (by omega)]; omega), List.take_append_of_le_length (by rw [List.length_drop, hlen q (by omega)]; omega)]
          exact ih (by omega) i h
        · obtain rfl : i = q := by omega
          rw [List.drop_append, hlen i (by omega), List.drop_of_length_le (by rw [hlen i (by omega)]; exact Nat.le_refl _), Nat.sub_self]
          simp
          exact List.take_of_length_le (by rw [(hF i (by omega)).1]; exact Nat.le_refl _)
    refine ⟨_, n, (List.range n).flatMap F, hcs, ⟨some a, c, rfl, ⟨hlen n (Nat.le_refl _), fun hn => ?_⟩, (fun h => nomatch h), hl, by unfold maxLen at hm; exact hm⟩, fun i hi => ⟨k, _, by rw [hat n (Nat.le_refl _) i hi]; exact (hF i hi).2.2⟩⟩
    obtain ⟨f1, f2, _⟩ := hF 0 hn
    have h00 := f2 0 hpos
    rw [List.getElem?_eq_getElem (by omega)] at h00
    rw [Nat.zero_mul, Nat.add_zero] at h00
    have ha0 : a.add 0 = a := by obtain ⟨b, o, s⟩ := a; simp [Addr.add]
    rw [ha0] at h00
    have hap := addr_plain h00
    refine ⟨a.block, a.off, by rw [← hap], block_lt h00, fun j u hu => ?_⟩
    have hj : j < n * C := by
      have := (List.getElem?_eq_some_iff.1 hu).1
      rwa [hlen n (Nat.le_refl _)] at this
    have hC0 : 0 < C := hpos
    have hq : j / C < n := Nat.div_lt_of_lt_mul (by rw [Nat.mul_comm]; exact hj)
    have hr : j % C < C := Nat.mod_lt _ hC0
    have hdm : j / C * C + j % C = j := by rw [Nat.mul_comm]; exact Nat.div_add_mod j C
    obtain ⟨g1, g2, _⟩ := hF (j / C) hq
    have h5 := g2 (j % C) hr
    rw [hdm] at h5
    have h6 : (F (j / C))[j % C]? = some u := by
      rw [← hat n (Nat.le_refl _) (j / C) hq, List.getElem?_take, if_pos hr, List.getElem?_drop, hdm]
      exact hu
    rw [h6, hap, add_none] at h5
    exact h5
theorem open_sl {W : World} {base b0 : Nat} {sp : Nat → Bool} {held : Bool} {t e : TypeId} {v : Value} {d : DataW H} {ps : List MemPlace} (ht : P.underlying t = some (.slice e)) (hpos : 0 < P.cellsOf e) (hval : Value.okWide P W .any base t v)
    (hd : DataW.Trod enc P W b0 sp held t v d ps) :
    ∃ n xs, Sl W (P.cellsOf e) v n xs ∧ ∀ i, i < n → ∃ fuel y, DataW.trod enc P W b0 sp held fuel e ((xs.drop (i * P.cellsOf e)).take (P.cellsOf e)) = some y := by
  obtain ⟨A, n, c, rfl⟩ := okWide_slice ht hval
  obtain ⟨fuel, hf⟩ := hd
  obtain ⟨u, n', xs, h1, h2, h3⟩ := open_sl0 ht hpos hf
  simp [Value.cells] at h1
  subst h1
  exact ⟨n', xs, h2, h3⟩
theorem ints_of {W : World} {b0 : Nat} {sp : Nat → Bool} {held : Bool} {e : TypeId} {k : IntKind} {v : Value} {n : Nat} {xs : List Value} (he : P.underlying e = some (.int k)) (hs : Sl W 1 v n xs)
    (hi : ∀ i, i < n → ∃ fuel y, DataW.trod enc P W b0 sp held fuel e ((xs.drop (i * 1)).take 1) = some y) : ∃ l : List Int, Sl W 1 v l.length (l.map (Value.int k)) ∧ ∀ a ∈ l, (Lit.int k a).wf = true := by
  have hlen : xs.length = n := by obtain ⟨A, c, _, h, _⟩ := hs; have := h.len; omega
  have hel : ∀ i, i < n → ∃ a, xs[i]? = some (.int k a) ∧ (Lit.int k a).wf = true := by
    intro i hin
    obtain ⟨fuel, y, hy⟩ := hi i hin
    obtain ⟨a, ea, _, wa⟩ := DataW.trod_int he hy
    refine ⟨a, ?_, wa⟩
    rw [Nat.mul_one] at ea
    have := congrArg (·[0]?) ea
    simpa [List.getElem?_take, List.getElem?_drop] using this
  let g : Value → Int := fun | .int _ a => a | _ => 0
  have hmap : xs = (xs.map g).map (Value.int k) := by
    apply List.ext_getElem?
    intro i
    rcases Nat.lt_or_ge i n with h | h
    · obtain ⟨a, ha, _⟩ := hel i h
      simp [ha, g]
    · rw [List.getElem?_eq_none (by omega), List.getElem?_eq_none (by simp; omega)]
  refine ⟨xs.map g, by rw [← hmap, List.length_map, hlen]; exact hs, fun a ha => ?_⟩
  obtain ⟨x, hx, rfl⟩ := List.mem_map.1 ha
  obtain ⟨i, hin⟩ := List.mem_iff_getElem?.1 hx
  obtain ⟨b, hb, wb⟩ := hel i (by rw [← hlen]; exact (List.getElem?_eq_some_iff.1 hin).1)
  rw [hin] at hb
  injection hb with hb
  subst hb
  exact wb
theorem bytes_of {W : World} {v : Value} {l : List Int} (hs : Sl W 1 v l.length (l.map (Value.int .u8))) (hw : ∀ a ∈ l, (Lit.int .u8 a).wf = true) : ∃ l : List UInt8, Sl W 1 v l.length (l.map fun c => Value.int .u8 c.toNat) := by
  have e1 : (l.map fun a => UInt8.ofNat a.toNat).map (fun c => Value.int .u8 c.toNat) = l.map (Value.int .u8) := by
    rw [List.map_map]
    refine List.map_congr_left fun a ha => ?_
    have wa' : 0 ≤ a ∧ a ≤ 255 := bounds_u8 (hw a ha)
    simp only [Function.comp, UInt8.toNat_ofNat']
    congr 1
    omega
  exact ⟨l.map fun a => UInt8.ofNat a.toNat, by rw [e1, List.length_map]; exact hs⟩
end
end Go.Proofs.YtdjcjjodbniebaaGreatDoor
namespace Go.Proofs.YtdjcjjodbniebaaGreatDoor
open Go.RowKit
set_option linter.unusedVariables false
theorem run_make1 {P : Program} {t e : TypeId} {z : Value} {bytes : Nat} (ht : P.underlying t = some (.slice e)) (hi : (P.info? e).map (fun i => (i.zero, i.size, i.bytes)) = some (some z, 1, bytes)) (hz : z.cells = #[z]) (n : Nat) (hn : n ≤ 9223372036854775807) (hb : n * bytes ≤ 281474976710656) (W : World) :
    (Instr.makeSlice t (.int .i64 n) (.int .i64 n)).run P W = .ok (.slice (some ⟨W.heap.size, 0, none⟩) n n) (W.alloc (.cells (Array.replicate n z) e)) := by
  obtain ⟨i, h1, h2⟩ := Option.map_eq_some_iff.1 hi
  injection h2 with e1 h3
  injection h3 with e2 e3
  have := run_make (P := P) W t e i _ ht h1 e1 .i64 .i64 n n (by omega) (by omega) (by rw [e3, ← Int.natCast_mul, Nat.mul_comm]; omega) (by omega)
  rw [this, e2, Int.toNat_natCast]
  have hm : madeCells z.cells (n * 1) = Array.replicate n z := by
    apply Array.ext_getElem?
    intro j
    rw [hz, Nat.mul_one]
    unfold madeCells
    rw [Array.getElem?_map, Array.getElem?_range, Array.getElem?_replicate]
    by_cases hj : j < n
    · rw [if_pos hj, if_pos hj]
      simp only [Option.map_some]
      congr 1
      have : j % (#[z] : Array Value).size = 0 := Nat.mod_one j
      rw [this]
      rfl
    · rw [if_neg hj, if_neg hj]; rfl
  rw [hm]
theorem own_sl {w : World} {base : Nat} {e : TypeId} {size n : Nat} {v : Value} {xs : List Value} (h : w.ownsRow base e size v n xs) : Sl w size v n xs ∧ ∃ A c, v = .slice A n c := by
  have h0 := h
  rcases h.2 with ⟨rfl, rfl⟩ | ⟨g, cap, cur, rfl, hb, hg, hnc, hm, _⟩
  · exact ⟨⟨none, 0, rfl, Rd.of_own h0, fun _ => ⟨rfl, rfl⟩, by omega, by omega⟩, _, _, rfl⟩
  · exact ⟨⟨_, cap, rfl, Rd.of_own h0, (fun h => nomatch h), hnc, by unfold maxLen at hm; exact hm⟩, _, _, rfl⟩
theorem row_keeps {O : Nat → Prop} {a b : World} {base e size n : Nat} {v : Value} {xs : List Value} (h : a.ownsRow base e size v n xs) (hk : Keeps O a b) (hv : ∀ j, v.ownBlock = some j → O j) : b.ownsRow base e size v n xs := by
  refine ⟨h.1, ?_⟩
  rcases h.2 with hn | ⟨g, cap, cur, rfl, hb, hg, rest⟩
  · exact .inl hn
  · exact .inr ⟨g, cap, cur, rfl, hb, (hk.block g (Array.getElem?_eq_some_iff.1 hg).1 (hv g rfl)).trans hg, rest⟩
theorem row_below {a b : World} {base e size n : Nat} {v : Value} {xs : List Value} (h : a.ownsRow base e size v n xs) (hk : Below a.heap.size a b) : b.ownsRow base e size v n xs := row_keeps h (Keeps.of_ext (O := fun _ => True) hk) fun _ _ => trivial
theorem row_ne {w : World} {B e size n g : Nat} {v : Value} {xs : List Value} {t : TypeId} {cs : Array Value} (h : w.ownsRow B e size v n xs) (hg : Blk w g t cs) (hne : e ≠ t) : v.ownBlock ≠ some g := by
  rcases h.2 with ⟨rfl, _⟩ | ⟨k, cap, cur, rfl, _, hk, _⟩
  · simp [Value.ownBlock]
  · intro h2
    simp only [Value.ownBlock, Option.some.injEq] at h2
    subst h2
    unfold Blk at hg
    rw [hg] at hk
    injection hk with hk
    injection hk with _ h3 _
    exact hne h3.symm
theorem rows_ne {w : World} {B B' e e' size size' n n' : Nat} {v v' : Value} {xs xs' : List Value} (h : w.ownsRow B e size v n xs) (h' : w.ownsRow B' e' size' v' n' xs') (hne : e ≠ e') : ∀ j, v.ownBlock = some j → v'.ownBlock ≠ some j := by
  intro j hj
  rcases h.2 with ⟨rfl, _⟩ | ⟨k, cap, cur, rfl, _, hk, _⟩
  · simp [Value.ownBlock] at hj
  · simp only [Value.ownBlock, Option.some.injEq] at hj
    subst hj
    exact row_ne (t := e) (cs := cur) h' hk (fun e => hne e.symm)
theorem Sl_on {w w' : World} {size n : Nat} {v : Value} {xs : List Value} (h : Sl w size v n xs) (hb : Below w.heap.size w w') : Sl w' size v n xs := by
  obtain ⟨A, c, h1, h2, h3⟩ := h
  exact ⟨A, c, h1, h2.keep hb, h3⟩
def atB (n : Nat) (A : Option Addr) (j : Nat) : Prop := 0 < n ∧ ∃ b o, A = some ⟨b, o, none⟩ ∧ j = b
theorem Rd_on {N : Nat → Prop} {w w' : World} {size n : Nat} {A : Option Addr} {xs : List Value} (h : Rd w size A n xs) (hk : Keeps N w w') (hN : ∀ j, atB n A j → N j) : Rd w' size A n xs := by
  by_cases h0 : 0 < n
  · exact hk.rd h fun g o e => hN g ⟨h0, g, o, e, rfl⟩
  · obtain rfl : n = 0 := by omega
    have hl := h.len
    obtain rfl : xs = [] := List.length_eq_zero_iff.1 (by omega)
    exact Rd.nil_ _ _ _
theorem atB_row {w : World} {base e size n c : Nat} {A : Option Addr} {xs : List Value} (h : w.ownsRow base e size (.slice A n c) n xs) {j : Nat} (hj : atB n A j) : (Value.slice A n c).ownBlock = some j := by
  obtain ⟨h0, b, o, rfl, rfl⟩ := hj
  rcases h.2 with ⟨e1, _⟩ | ⟨g, cap, cur, e1, _⟩
  · cases e1
  · injection e1 with e1
    injection e1 with e1
    injection e1 with e1
    subst e1
    rfl
theorem atB_lt {w : World} {size n : Nat} {A : Option Addr} {xs : List Value} (h : Rd w size A n xs) {j : Nat} (hj : atB n A j) : j < w.heap.size := by
  obtain ⟨h0, b, o, rfl, rfl⟩ := hj
  obtain ⟨b', o', e, hlt, _⟩ := h.cells h0
  injection e with e
  injection e with e
  omega
theorem copyE {P : Program} {w : World} {t u ty e te : TypeId} (ht : P.underlying t = some (.slice e)) (he : (P.info? e).map (·.size) = some 1) {g o dLen dCap m c : Nat} {A : Option Addr} {cur : Array Value} {D : Option Addr} (cs : List Value) (hb : Blk w g te cur)
    (hn : cs.length = Nat.min m dLen) (hD : 0 < cs.length → D = some ⟨g, o, none⟩) (hsrc : 0 < cs.length → ∃ ad, A = some ad ∧ ∀ j v, cs[j]? = some v → w.cell? (ad.add j) = some v) (hfit : 0 < cs.length → o + cs.length ≤ cur.size) (h1 : allOne cs = true) {k : Kont}
    (hk : ∀ w' cur', Blk w' g te cur' → cur'.toList = cur.toList.take o ++ cs ++ cur.toList.drop (o + cs.length) → w.grownBy w' (some g) → w'.heap.size = w.heap.size → k (goInt cs.length) w') : resE P (copyR P t u ty (.slice D dLen dCap) (.slice A m c) w) k := by
  unfold copyR
  by_cases h0 : cs.length = 0
  · rw [run_copy_none (P := P) w t u ty e D A dLen dCap m c ht he (by omega)]
    have hcs : cs = [] := List.eq_nil_of_length_eq_zero h0
    subst hcs
    exact hk w cur hb (by simp) (World.grownBy.refl w _) rfl
  · obtain ⟨ad, rfl, hs⟩ := hsrc (by omega)
    rw [hD (by omega), run_copy_row (P := P) w t u ty e g o dLen dCap ad m c cur te cs ht he hb hn hs (hfit (by omega)) (allOne_mem h1)]
    exact hk _ _ (Blk_setRow hb) (by simp) ⟨rfl, rfl, rfl, by simp [World.setRow], fun j _ hj => setRow_other w g j _ (fun e => hj (by rw [e]))⟩ (by simp [World.setRow])
theorem append_makeE {P : Program} {w : World} {t u ty e : TypeId} {z : Value} {bytes : Nat} (ht : P.underlying t = some (.slice e)) (hu : P.underlying u = some (.int .i64)) (hi : (P.info? e).map (fun i => (i.zero, i.size, i.bytes)) = some (some z, 1, bytes)) (hz : z.cells.size = 1)
    {g n c k : Nat} {cur : Array Value} {te : TypeId} (hb : Blk w g te cur) (hn : n ≤ cur.size) (h0 : 0 < k) (hg : c < n + k) (hfit : (n + k) * 2 * bytes ≤ 281474976710656) (hb0 : 0 < bytes) {K : Kont}
    (hk : ∀ w' g' cur' cap, Blk w' g' e cur' → g' = w.heap.size → n + k ≤ cap → cap ≤ 9223372036854775807 → cur'.size = cap → cur'.toList.take n = cur.toList.take n → Below w.heap.size w w' → K (.slice (some ⟨g', 0, none⟩) (n + k) cap) w') :
    resE P (appendR P t u ty (.slice (some ⟨g, 0, none⟩) n c) (.int .i64 k) w) K := by
  obtain ⟨i, h1, h2⟩ := Option.map_eq_some_iff.1 hi
  injection h2 with e1 h3
  injection h3 with e2 e3
  have hl : (cur.toList.take n).length = n * i.size := by rw [e2, List.length_take, Nat.mul_one]; simp; omega
  have hf := run_firstCells_some (P := P) (w := w.drew) i.size n ⟨g, 0, none⟩ n c (cur.toList.take n) hl (fun j v hv => by
    rw [add_none, Nat.zero_add]
    have hj := (List.getElem?_eq_some_iff.1 hv).1
    rw [List.getElem?_take, if_pos (by simp at hj; omega), Array.getElem?_toList] at hv
    exact ((hb.drew).cell j).trans hv)
  have hnk : (n + k) * bytes ≤ (n + k) * 2 * bytes := by rw [Nat.mul_assoc]; exact Nat.mul_le_mul_left _ (by omega)
  have hkk : k * bytes ≤ (n + k) * bytes := Nat.mul_le_mul_right _ (by omega)
  have hcap := nextslicecap_le (need := n + k) (old := c) hg
  have hmul : Builtin.nextslicecap (n + k) c * bytes ≤ 2 * (n + k) * bytes := Nat.mul_le_mul_right _ hcap
  have hle : n + k ≤ (n + k) * bytes := Nat.le_mul_of_pos_right _ hb0
  have hr := Lib.run_append_grow_zeros (P := P) w t u ty e i z .i64 .i64 ht hu h1 e1 (some ⟨g, 0, none⟩) n c (cur.toList.take n) hf k h0 (by rw [e2]; omega) hg (by omega) (by rw [e3]; omega) (by rw [e3, Nat.mul_comm 2] at *; omega)
  unfold appendR
  rw [hr]
  have hge := grownCap_ge w (n + k) c e
  have hcm := grownCap_le_maxLen w (n + k) c e (by unfold maxLen; omega)
  unfold maxLen at hcm
  refine hk _ _ _ _ (Blk.self_ (by simp)) (by simp) hge hcm ?_ ?_ (ext_trans (ext_drew w) (ext_alloc _ _))
  · simp only [Array.size_append, List.size_toArray, size_zeroCells, hz, List.length_take, Array.length_toList]
    omega
  · simp only [Array.toList_append, List.append_assoc]
    rw [List.take_append_of_le_length (by simp; omega), List.take_take, Nat.min_self]
end Go.Proofs.YtdjcjjodbniebaaGreatDoor
