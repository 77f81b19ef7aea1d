/-
  Arguments opened to plain data; what every law's row asks behind a walk that leaves all old blocks as they were. Over any program.
-/
import Derived.Test.YtmdkkhogldklnaaDoorRRRRArrs
import Derived.WalkKit
import Derived.Carry
import Derived.OpenShut
import Derived.ChangeMaps5
import Derived.Deep.Slices
namespace Go.Proofs.YtmdkkhogldklnaaDoorRRRR
open Go.RowKit Go.ChangeShapes Go.WideShapes
set_option linter.unusedVariables false
section
variable {H : Type} {enc : TypeId × Value → H} {P : Program}
theorem trodAll_below (hl : laidOutB P = true) {W W' : World} (hb : Below W.heap.size W W') : ∀ {ts : List TypeId} {vs : List Value} {ds : List (DataW H)} {ps : List MemPlace}, (∀ t ∈ ts, P.readableRec t = true ∧ t < P.types.size) →
    DataW.TrodAll enc P W 0 (fun _ => true) true ts vs ds ps → (∀ x ∈ ps, x.block < W.heap.size) → DataW.TrodAll enc P W' 0 (fun b => decide (b < W.heap.size)) true ts vs ds ps
  | [], _, _, _, _, h, _ => by
    obtain ⟨rfl, rfl, rfl⟩ := trodAll_nil h
    exact trodAll_mk0
  | t :: ts, _, _, _, hr, h, hlt => by
    obtain ⟨v, vs, d, ds, p, q, rfl, rfl, rfl, h1, h2⟩ := trodAll_cons h
    obtain ⟨r1, r2⟩ := hr t (by simp)
    exact trodAll_cons_mk (Below.trod hl r1 r2 h1 hb fun x hx => hlt x (by simp [hx])) (trodAll_below hl hb (fun t ht => hr t (by simp [ht])) h2 fun x hx => hlt x (by simp [hx]))
/-- What a law's row says behind a walk that answers yes and leaves the old blocks alone. -/
theorem law_post {fn : Func} {s : ChangeSpec} {W W' : World} {args : Array Value} {ds gs : List (DataW H)} {before : List MemPlace} {tb : TypeId} (hl : laidOutB P = true) (hr : fn.params.toList.all (fun t => P.readableRec t && decide (t < P.types.size)) = true)
    (hres : fn.resultTypes = #[tb]) (htb : P.underlying tb = some .bool) (hv : s.vars = []) (hW : DataW.Whole enc P fn.params.toList s.vars false W args.toList ds gs before)
    (hfn : s.fn H (ds ++ gs) = { results := [.lit (.bool true)], args := ds }) (hB : Below W.heap.size W W') : s.post enc P fn false true false false W args (.bool true) W' := by
  have hW' := hW
  obtain ⟨p, q, hA, hV, rfl, hfz, hnd⟩ := hW
  rw [hv] at hV
  obtain ⟨rfl, rfl⟩ := trodVars_none hV
  have hlt : ∀ x ∈ p, x.block < W.heap.size := fun x hx => hW'.lt x (by simp [hx])
  refine ⟨ds, [], p ++ [], [], p, [], hW', ?_, ?_, ?_, ?_, fun h => by cases h⟩
  · rw [hfn, hres]
    exact trodAll_cons_mk (shut_bool htb true) trodAll_mk0
  · rw [hfn]
    refine trodAll_below hl hB (fun t ht => ?_) hA hlt
    have := List.all_eq_true.1 hr t ht
    simpa using this
  · rw [hfn, hv]; rfl
  · exact hB.frame _
/-- A slice value that reads as so many cells, 'size' of them an element. -/
def Sl (w : World) (size : Nat) (v : Value) (n : Nat) (xs : List Value) : Prop := ∃ A c, v = .slice A n c ∧ Rd w size A n xs ∧ (A = none → n = 0 ∧ c = 0) ∧ n ≤ c ∧ c ≤ 9223372036854775807
theorem block_lt {w : World} {a : Addr} {v : Value} (h : w.cell? a = some v) : a.block < w.heap.size := by
  rcases Nat.lt_or_ge a.block w.heap.size with h1 | h1
  · exact h1
  · unfold World.cell? at h; rw [Array.getElem?_eq_none h1] at h; cases h
theorem addr_plain {w : World} {a : Addr} {v : Value} (h : w.cell? a = some v) : a = ⟨a.block, a.off, none⟩ := by
  have := World.cell?_spot h
  obtain ⟨b, o, s⟩ := a
  simp at this
  subst this
  rfl
/-- A slice's cells, opened: the slice, its cells, and each element's reading. -/
theorem open_sl0 {W : World} {b0 : Nat} {sp : Nat → Bool} {held : Bool} {t e : TypeId} {fuel : Nat} {cs : List Value} {x : DataW H × List MemPlace} (ht : P.underlying t = some (.slice e)) (hpos : 0 < P.cellsOf e) (hf : DataW.trod enc P W b0 sp held fuel t cs = some x) :
    ∃ u n xs, cs = [u] ∧ Sl W (P.cellsOf e) u n xs ∧ ∀ i, i < n → ∃ fuel y, DataW.trod enc P W b0 sp held fuel e ((xs.drop (i * P.cellsOf e)).take (P.cellsOf e)) = some y := by
  rcases Deep.open_slice ht hf with ⟨h0, _⟩ | ⟨a, n, c, m, k, D, Pl, hcs, hb, hl, hm, hmm, hx, hi⟩
  · exact ⟨_, 0, [], h0, ⟨none, 0, rfl, Rd.nil_ _ _ _, fun _ => ⟨rfl, rfl⟩, by omega, by omega⟩, fun i hi => by omega⟩
  · have hmn : n ≤ m := by rw [hmm]; split <;> omega
    generalize hC : P.cellsOf e = C at *
    have hcell : ∀ i, i < n → ∃ cs', cs'.length = C ∧ (∀ j, j < C → W.cell? (a.add (i * C + j)) = cs'[j]?) ∧ DataW.trod enc P W b0 sp held k e cs' = some (D i, Pl i) := by
      intro i hin
      obtain ⟨cs', h1, h2⟩ := hi i (by omega)
      obtain ⟨_, h3, h4⟩ := World.cells?_some h1
      refine ⟨cs', h3, fun j hj => ?_, h2⟩
      rw [← h4 j hj, Deep.add_add]
    obtain ⟨F, hF⟩ := Deep.choose_lt (α := List Value) (p := fun i cs' => cs'.length = C ∧ (∀ j, j < C → W.cell? (a.add (i * C + j)) = cs'[j]?) ∧ DataW.trod enc P W b0 sp held k e cs' = some (D i, Pl i)) hcell
    have hlen : ∀ q, q ≤ n → ((List.range q).flatMap F).length = q * C := by
      intro q
      induction q with
      | zero => intro _; simp
      | succ q ih => intro hq; rw [List.range_succ, List.flatMap_append, List.length_append, ih (by omega)]; simp [(hF q (by omega)).1, Nat.succ_mul]
    have hat : ∀ q, q ≤ n → ∀ i, i < q → (((List.range q).flatMap F).drop (i * C)).take C = F i := by
      intro q
      induction q with
      | zero => intro _ i hi; omega
      | succ q ih =>
        intro hq i hi
        have hfl : (List.range (q + 1)).flatMap F = (List.range q).flatMap F ++ F q := by rw [List.range_succ, List.flatMap_append]; simp
        rw [hfl]
        rcases Nat.lt_or_ge i q with h | h
        · have hle : i * C + C ≤ q * C := by rw [← Nat.succ_mul]; exact Nat.mul_le_mul_right _ h
          rw [List.drop_append_of_le_length (by rw [hlen q (by omega)]; omega), List.take_append_of_le_length (by rw [List.length_drop, hlen q (by omega)]; omega)]
          exact ih (by omega) i h
        · obtain rfl : i = q := by omega
          rw [List.drop_append, hlen i (by omega), List.drop_of_length_le (by rw [hlen i (by omega)]; exact Nat.le_refl _), Nat.sub_self]
          simp
          exact List.take_of_length_le (by rw [(hF i (by omega)).1]; exact Nat.le_refl _)
    refine ⟨_, n, (List.range n).flatMap F, hcs, ⟨some a, c, rfl, ⟨hlen n (Nat.le_refl _), fun hn => ?_⟩, (fun h => nomatch h), hl, by unfold maxLen at hm; exact hm⟩, fun i hi => ⟨k, _, by rw [hat n (Nat.le_refl _) i hi]; exact (hF i hi).2.2⟩⟩
    obtain ⟨f1, f2, _⟩ := hF 0 hn
    have h00 := f2 0 hpos
    rw [List.getElem?_eq_getElem (by omega)] at h00
    rw [Nat.zero_mul, Nat.add_zero] at h00
    have ha0 : a.add 0 = a := by obtain ⟨b, o, s⟩ := a; simp [Addr.add]
    rw [ha0] at h00
    have hap := addr_plain h00
    refine ⟨a.block, a.off, by rw [← hap], block_lt h00, fun j u hu => ?_⟩
    have hj : j < n * C := by
      have := (List.getElem?_eq_some_iff.1 hu).1
      rwa [hlen n (Nat.le_refl _)] at this
    have hC0 : 0 < C := hpos
    have hq : j / C < n := Nat.div_lt_of_lt_mul (by rw [Nat.mul_comm]; exact hj)
    have hr : j % C < C := Nat.mod_lt _ hC0
    have hdm : j / C * C + j % C = j := by rw [Nat.mul_comm]; exact Nat.div_add_mod j C
    obtain ⟨g1, g2, _⟩ := hF (j / C) hq
    have h5 := g2 (j % C) hr
    rw [hdm] at h5
    have h6 : (F (j / C))[j % C]? = some u := by
      rw [← hat n (Nat.le_refl _) (j / C) hq, List.getElem?_take, if_pos hr, List.getElem?_drop, hdm]
      exact hu
    rw [h6, hap, add_none] at h5
    exact h5
/-- A slice argument, opened: its cells, and each element's reading. -/
theorem open_sl {W : World} {base b0 : Nat} {sp : Nat → Bool} {held : Bool} {t e : TypeId} {v : Value} {d : DataW H} {ps : List MemPlace} (ht : P.underlying t = some (.slice e)) (hpos : 0 < P.cellsOf e) (hval : Value.okWide P W .any base t v)
    (hd : DataW.Trod enc P W b0 sp held t v d ps) :
    ∃ n xs, Sl W (P.cellsOf e) v n xs ∧ ∀ i, i < n → ∃ fuel y, DataW.trod enc P W b0 sp held fuel e ((xs.drop (i * P.cellsOf e)).take (P.cellsOf e)) = some y := by
  obtain ⟨A, n, c, rfl⟩ := okWide_slice ht hval
  obtain ⟨fuel, hf⟩ := hd
  obtain ⟨u, n', xs, h1, h2, h3⟩ := open_sl0 ht hpos hf
  simp [Value.cells] at h1
  subst h1
  exact ⟨n', xs, h2, h3⟩
/-- The elements of a slice of ints. -/
theorem ints_of {W : World} {b0 : Nat} {sp : Nat → Bool} {held : Bool} {e : TypeId} {k : IntKind} {v : Value} {n : Nat} {xs : List Value} (he : P.underlying e = some (.int k)) (hs : Sl W 1 v n xs)
    (hi : ∀ i, i < n → ∃ fuel y, DataW.trod enc P W b0 sp held fuel e ((xs.drop (i * 1)).take 1) = some y) : ∃ l : List Int, Sl W 1 v l.length (l.map (Value.int k)) ∧ ∀ a ∈ l, (Lit.int k a).wf = true := by
  have hlen : xs.length = n := by obtain ⟨A, c, _, h, _⟩ := hs; have := h.len; omega
  have hel : ∀ i, i < n → ∃ a, xs[i]? = some (.int k a) ∧ (Lit.int k a).wf = true := by
    intro i hin
    obtain ⟨fuel, y, hy⟩ := hi i hin
    obtain ⟨a, ea, _, wa⟩ := DataW.trod_int he hy
    refine ⟨a, ?_, wa⟩
    rw [Nat.mul_one] at ea
    have := congrArg (·[0]?) ea
    simpa [List.getElem?_take, List.getElem?_drop] using this
  let g : Value → Int := fun | .int _ a => a | _ => 0
  have hmap : xs = (xs.map g).map (Value.int k) := by
    apply List.ext_getElem?
    intro i
    rcases Nat.lt_or_ge i n with h | h
    · obtain ⟨a, ha, _⟩ := hel i h
      simp [ha, g]
    · rw [List.getElem?_eq_none (by omega), List.getElem?_eq_none (by simp; omega)]
  refine ⟨xs.map g, by rw [← hmap, List.length_map, hlen]; exact hs, fun a ha => ?_⟩
  obtain ⟨x, hx, rfl⟩ := List.mem_map.1 ha
  obtain ⟨i, hin⟩ := List.mem_iff_getElem?.1 hx
  obtain ⟨b, hb, wb⟩ := hel i (by rw [← hlen]; exact (List.getElem?_eq_some_iff.1 hin).1)
  rw [hin] at hb
  injection hb with hb
  subst hb
  exact wb
/-- A slice of ints of one kind. -/
theorem open_ints1 {W : World} {base b0 : Nat} {sp : Nat → Bool} {held : Bool} {t e : TypeId} {k : IntKind} {v : Value} {d : DataW H} {ps : List MemPlace} (ht : P.underlying t = some (.slice e)) (he : P.underlying e = some (.int k)) (hC : P.cellsOf e = 1) (hval : Value.okWide P W .any base t v)
    (hd : DataW.Trod enc P W b0 sp held t v d ps) : ∃ l : List Int, Sl W 1 v l.length (l.map (Value.int k)) ∧ ∀ a ∈ l, (Lit.int k a).wf = true := by
  obtain ⟨n, xs, hs, hi⟩ := open_sl ht (by omega) hval hd
  rw [hC] at hs hi
  exact ints_of he hs hi
/-- A slice of bytes. -/
theorem open_bytesl {W : World} {base b0 : Nat} {sp : Nat → Bool} {held : Bool} {t e : TypeId} {v : Value} {d : DataW H} {ps : List MemPlace} (ht : P.underlying t = some (.slice e)) (he : P.underlying e = some (.int .u8)) (hC : P.cellsOf e = 1) (hval : Value.okWide P W .any base t v)
    (hd : DataW.Trod enc P W b0 sp held t v d ps) : ∃ l : List UInt8, Sl W 1 v l.length (l.map fun c => Value.int .u8 c.toNat) := by
  obtain ⟨l, hs, hw⟩ := open_ints1 ht he hC hval hd
  have e1 : (l.map fun a => UInt8.ofNat a.toNat).map (fun c => Value.int .u8 c.toNat) = l.map (Value.int .u8) := by
    rw [List.map_map]
    refine List.map_congr_left fun a ha => ?_
    have wa' : 0 ≤ a ∧ a ≤ 255 := bounds_u8 (hw a ha)
    simp only [Function.comp, UInt8.toNat_ofNat']
    congr 1
    omega
  exact ⟨l.map fun a => UInt8.ofNat a.toNat, by rw [e1, List.length_map]; exact hs⟩
theorem bytes_of {W : World} {v : Value} {l : List Int} (hs : Sl W 1 v l.length (l.map (Value.int .u8))) (hw : ∀ a ∈ l, (Lit.int .u8 a).wf = true) : ∃ l : List UInt8, Sl W 1 v l.length (l.map fun c => Value.int .u8 c.toNat) := by
  have e1 : (l.map fun a => UInt8.ofNat a.toNat).map (fun c => Value.int .u8 c.toNat) = l.map (Value.int .u8) := by
    rw [List.map_map]
    refine List.map_congr_left fun a ha => ?_
    have wa' : 0 ≤ a ∧ a ≤ 255 := bounds_u8 (hw a ha)
    simp only [Function.comp, UInt8.toNat_ofNat']
    congr 1
    omega
  exact ⟨l.map fun a => UInt8.ofNat a.toNat, by rw [e1, List.length_map]; exact hs⟩
/-- A slice of slices of bytes. -/
theorem open_bytesls {W : World} {base b0 : Nat} {sp : Nat → Bool} {held : Bool} {t e q : TypeId} {v : Value} {d : DataW H} {ps : List MemPlace} (ht : P.underlying t = some (.slice e)) (he : P.underlying e = some (.slice q)) (hq : P.underlying q = some (.int .u8)) (hC : P.cellsOf e = 1) (hD : P.cellsOf q = 1)
    (hval : Value.okWide P W .any base t v) (hd : DataW.Trod enc P W b0 sp held t v d ps) :
    ∃ (vs : List Value) (ls : List (List UInt8)), vs.length = ls.length ∧ Sl W 1 v ls.length vs ∧ ∀ i, (h : i < vs.length) → (h' : i < ls.length) → Sl W 1 vs[i] ls[i].length (ls[i].map fun c => Value.int .u8 c.toNat) := by
  obtain ⟨n, xs, hs, hi⟩ := open_sl ht (by omega) hval hd
  rw [hC] at hs hi
  have hlen : xs.length = n := by obtain ⟨A, c, _, h, _⟩ := hs; have := h.len; omega
  have key : ∀ i, i < n → ∃ l : List UInt8, ∀ (h : i < xs.length), Sl W 1 xs[i] l.length (l.map fun c => Value.int .u8 c.toNat) := by
    intro i hin
    obtain ⟨fuel, y, hy⟩ := hi i hin
    obtain ⟨u, m, zs, h1, h2, h3⟩ := open_sl0 he (by omega) hy
    rw [hD] at h2 h3
    obtain ⟨l, h4, h5⟩ := ints_of hq h2 h3
    obtain ⟨l', h6⟩ := bytes_of h4 h5
    refine ⟨l', fun h => ?_⟩
    have : xs[i] = u := by
      have h7 := congrArg (·[0]?) h1
      simp [List.getElem?_take, List.getElem?_drop, List.getElem?_eq_getElem h] at h7
      exact h7
    rw [this]; exact h6
  obtain ⟨F, hF⟩ := Deep.choose_lt (α := List UInt8) (p := fun i l => ∀ (h : i < xs.length), Sl W 1 xs[i] l.length (l.map fun c => Value.int .u8 c.toNat)) key
  refine ⟨xs, (List.range n).map F, by simp [hlen], by simpa using hs, fun i h h' => ?_⟩
  have hin : i < n := by simpa using h'
  simp only [List.getElem_map, List.getElem_range]
  exact hF i hin h
end
end Go.Proofs.YtmdkkhogldklnaaDoorRRRR
