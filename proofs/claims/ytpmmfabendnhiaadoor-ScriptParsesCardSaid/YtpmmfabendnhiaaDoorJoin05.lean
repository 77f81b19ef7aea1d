/-
  Texts joined: Arrs, Open, Make, Own, Runes.
-/
import Derived.Test.YtpmmfabendnhiaaDoorJoin04
import Derived.WideKeyArr2
import Derived.WalkKit
import Derived.Carry
import Derived.OpenShut
import Derived.ChangeMaps5
import Derived.Deep.Slices
import GoSem.Core.Utf8
namespace Go.Proofs.YtpmmfabendnhiaaDoor
open Go.RowKit
set_option linter.unusedVariables false
section
variable {H : Type} {enc : TypeId × Value → H} {P : Program} {t e n : Nat} {q : IntKind}
theorem trod_int_same (he : P.underlying e = some (.int q)) (W W' : World) (base base' : Nat) (sp sp' : Nat → Bool) (held held' : Bool) (fuel : Nat) (cs : List Value) :
    DataW.trod enc P W base sp held fuel e cs = DataW.trod enc P W' base' sp' held' fuel e cs := by
  cases fuel with
  | zero => simp [DataW.trod]
  | succ m =>
    unfold DataW.trod; simp only [he]
    rcases cs with _ | ⟨v, _ | ⟨v2, r⟩⟩
    · rfl
    · cases v <;> rfl
    · cases v <;> rfl
theorem trod_arr_same (ht : P.underlying t = some (.array n e)) (he : P.underlying e = some (.int q)) (W W' : World) (base base' : Nat) (sp sp' : Nat → Bool) (held held' : Bool) (fuel : Nat) (cs : List Value) :
    DataW.trod enc P W base sp held fuel t cs = DataW.trod enc P W' base' sp' held' fuel t cs := by
  cases fuel with
  | zero => simp [DataW.trod]
  | succ m => unfold DataW.trod; simp only [ht, trod_int_same he W W' base base' sp sp' held held']
theorem Trod_arr_same (ht : P.underlying t = some (.array n e)) (he : P.underlying e = some (.int q)) {W : World} (W' : World) {base : Nat} (base' : Nat) {sp : Nat → Bool} (sp' : Nat → Bool) {held : Bool} (held' : Bool) {v : Value} {d : DataW H} {ps : List MemPlace}
    (h : DataW.Trod enc P W base sp held t v d ps) : DataW.Trod enc P W' base' sp' held' t v d ps := by
  obtain ⟨fuel, hf⟩ := h
  exact ⟨fuel, by rw [← hf]; exact (trod_arr_same ht he ..).symm⟩
theorem mapM_ints (he : P.underlying e = some (.int q)) {W : World} {base : Nat} {sp : Nat → Bool} {held : Bool} {m : Nat} {cs : List Value} : ∀ (L : List Nat) (ys : List (DataW H × List MemPlace)),
    L.mapM (fun i => DataW.trod enc P W base sp held m e ((cs.drop (i * 1)).take 1)) = some ys → (∀ i ∈ L, ∃ a, cs[i]? = some (.int q a) ∧ (Lit.int q a).wf = true) ∧ ys.flatMap (·.2) = []
  | [], ys, h => by simp at h; subst h; exact ⟨fun i hi => (by cases hi), rfl⟩
  | i :: L, ys, h => by
    rw [List.mapM_cons] at h
    simp only [bind, Option.bind_eq_some_iff, pure, Option.some.injEq] at h
    obtain ⟨y, hy, ys', hys, rfl⟩ := h
    obtain ⟨h1, h2⟩ := mapM_ints he L ys' hys
    obtain ⟨a, ea, rfl, wa⟩ := DataW.trod_int he hy
    refine ⟨fun j hj => ?_, by simpa using h2⟩
    rcases List.mem_cons.1 hj with rfl | hj
    · refine ⟨a, ?_, wa⟩
      rw [Nat.mul_one] at ea
      have := congrArg (·[0]?) ea
      simpa [List.getElem?_take, List.getElem?_drop] using this
    · exact h1 j hj
/-- An array of n bytes by value: there are n bytes, and its reading touches no place. -/
theorem open_bytes (ht : P.underlying t = some (.array n e)) (he : P.underlying e = some (.int .u8)) (h1 : P.cellsOf e = 1) (hn : P.cellsOf t = n) {W : World} {base : Nat} {sp : Nat → Bool} {held : Bool} {xs : Array Value} {d : DataW H} {ps : List MemPlace}
    (hd : DataW.Trod enc P W base sp held t (.agg xs) d ps) : (∃ x : List UInt8, x.length = n ∧ xs = (x.map fun c => Value.int .u8 c.toNat).toArray) ∧ ps = [] := by
  obtain ⟨fuel, hf⟩ := hd
  cases fuel with
  | zero => simp [DataW.trod] at hf
  | succ m =>
    unfold DataW.trod at hf
    simp only [ht, Value.cells, hn, h1] at hf
    split at hf
    · rename_i hlen
      simp only [Option.map_eq_some_iff] at hf
      obtain ⟨ys, hy, e1⟩ := hf
      obtain ⟨h2, h3⟩ := mapM_ints he _ _ hy
      refine ⟨⟨xs.toList.map fun | .int _ a => UInt8.ofNat a.toNat | _ => 0, by simpa using hlen, ?_⟩, by rw [← h3]; exact (congrArg Prod.snd e1).symm⟩
      apply Array.ext'
      rw [List.map_map]
      refine (List.map_id _).symm.trans (List.map_congr_left fun v hv => ?_)
      obtain ⟨i, hi, rfl⟩ := List.mem_iff_getElem.1 hv
      obtain ⟨a, ha, wa⟩ := h2 i (by simp; omega)
      rw [List.getElem?_eq_getElem hi] at ha
      injection ha with ha
      rw [ha]
      have wa' : 0 ≤ a ∧ a ≤ 255 := by have h := wa; simp [Lit.wf] at h; exact h
      simp only [id, Function.comp, UInt8.toNat_ofNat']
      congr 1
      omega
    · cases hf
end
end Go.Proofs.YtpmmfabendnhiaaDoor
namespace Go.Proofs.YtpmmfabendnhiaaDoor
open Go.RowKit Go.ChangeShapes Go.WideShapes
set_option linter.unusedVariables false
section
variable {H : Type} {enc : TypeId × Value → H} {P : Program}
theorem trodAll_below (hl : laidOutB P = true) {W W' : World} (hb : Below W.heap.size W W') : ∀ {ts : List TypeId} {vs : List Value} {ds : List (DataW H)} {ps : List MemPlace}, (∀ t ∈ ts, P.readableRec t = true ∧ t < P.types.size) →
    DataW.TrodAll enc P W 0 (fun _ => true) true ts vs ds ps → (∀ x ∈ ps, x.block < W.heap.size) → DataW.TrodAll enc P W' 0 (fun b => decide (b < W.heap.size)) true ts vs ds ps
  | [], _, _, _, _, h, _ => by
    obtain ⟨rfl, rfl, rfl⟩ := trodAll_nil h
    exact trodAll_mk0
  | t :: ts, _, _, _, hr, h, hlt => by
    obtain ⟨v, vs, d, ds, p, q, rfl, rfl, rfl, h1, h2⟩ := trodAll_cons h
    obtain ⟨r1, r2⟩ := hr t (by simp)
    exact trodAll_cons_mk (Below.trod hl r1 r2 h1 hb fun x hx => hlt x (by simp [hx])) (trodAll_below hl hb (fun t ht => hr t (by simp [ht])) h2 fun x hx => hlt x (by simp [hx]))
/-- What a law's row says behind a walk that answers yes and leaves the old blocks alone. -/
theorem law_post {fn : Func} {s : ChangeSpec} {W W' : World} {args : Array Value} {ds gs : List (DataW H)} {before : List MemPlace} {tb : TypeId} (hl : laidOutB P = true) (hr : fn.params.toList.all (fun t => P.readableRec t && decide (t < P.types.size)) = true)
    (hres : fn.resultTypes = #[tb]) (htb : P.underlying tb = some .bool) (hv : s.vars = []) (hW : DataW.Whole enc P fn.params.toList s.vars false W args.toList ds gs before)
    (hfn : s.fn H (ds ++ gs) = { results := [.lit (.bool true)], args := ds }) (hB : Below W.heap.size W W') : s.post enc P fn false true false false W args (.bool true) W' := by
  have hW' := hW
  obtain ⟨p, q, hA, hV, rfl, hfz, hnd⟩ := hW
  rw [hv] at hV
  obtain ⟨rfl, rfl⟩ := trodVars_none hV
  have hlt : ∀ x ∈ p, x.block < W.heap.size := fun x hx => hW'.lt x (by simp [hx])
  refine ⟨ds, [], p ++ [], [], p, [], hW', ?_, ?_, ?_, ?_, fun h => by cases h⟩
  · rw [hfn, hres]
    exact trodAll_cons_mk (shut_bool htb true) trodAll_mk0
  · rw [hfn]
    refine trodAll_below hl hB (fun t ht => ?_) hA hlt
    have := List.all_eq_true.1 hr t ht
    simpa using this
  · rw [hfn, hv]; rfl
  · exact hB.frame _
/-- A slice value that reads as so many cells, 'size' of them an element. -/
def Sl (w : World) (size : Nat) (v : Value) (n : Nat) (xs : List Value) : Prop := ∃ A c, v = .slice A n c ∧ Rd w size A n xs ∧ (A = none → n = 0 ∧ c = 0) ∧ n ≤ c ∧ c ≤ 9223372036854775807
theorem block_lt {w : World} {a : Addr} {v : Value} (h : w.cell? a = some v) : a.block < w.heap.size := by
  rcases Nat.lt_or_ge a.block w.heap.size with h1 | h1
  · exact h1
  · unfold World.cell? at h; rw [Array.getElem?_eq_none h1] at h; cases h
theorem addr_plain {w : World} {a : Addr} {v : Value} (h : w.cell? a = some v) : a = ⟨a.block, a.off, none⟩ := by
  have := World.cell?_spot h
  obtain ⟨b, o, s⟩ := a
  simp at this
  subst this
  rfl
/-- A slice's cells, opened: the slice, its cells, and each element's reading. -/
theorem open_sl0 {W : World} {b0 : Nat} {sp : Nat → Bool} {held : Bool} {t e : TypeId} {fuel : Nat} {cs : List Value} {x : DataW H × List MemPlace} (ht : P.underlying t = some (.slice e)) (hpos : 0 < P.cellsOf e) (hf : DataW.trod enc P W b0 sp held fuel t cs = some x) :
    ∃ u n xs, cs = [u] ∧ Sl W (P.cellsOf e) u n xs ∧ ∀ i, i < n → ∃ fuel y, DataW.trod enc P W b0 sp held fuel e ((xs.drop (i * P.cellsOf e)).take (P.cellsOf e)) = some y := by
  rcases Deep.open_slice ht hf with ⟨h0, _⟩ | ⟨a, n, c, m, k, D, Pl, hcs, hb, hl, hm, hmm, hx, hi⟩
  · exact ⟨_, 0, [], h0, ⟨none, 0, rfl, Rd.nil_ _ _ _, fun _ => ⟨rfl, rfl⟩, by omega, by omega⟩, fun i hi => by omega⟩
  · have hmn : n ≤ m := by rw [hmm]; split <;> omega
    generalize hC : P.cellsOf e = C at *
    have hcell : ∀ i, i < n → ∃ cs', cs'.length = C ∧ (∀ j, j < C → W.cell? (a.add (i * C + j)) = cs'[j]?) ∧ DataW.trod enc P W b0 sp held k e cs' = some (D i, Pl i) := by
      intro i hin
      obtain ⟨cs', h1, h2⟩ := hi i (by omega)
      obtain ⟨_, h3, h4⟩ := World.cells?_some h1
      refine ⟨cs', h3, fun j hj => ?_, h2⟩
      rw [← h4 j hj, Deep.add_add]
    obtain ⟨F, hF⟩ := Deep.choose_lt (α := List Value) (p := fun i cs' => cs'.length = C ∧ (∀ j, j < C → W.cell? (a.add (i * C + j)) = cs'[j]?) ∧ DataW.trod enc P W b0 sp held k e cs' = some (D i, Pl i)) hcell
    have hlen : ∀ q, q ≤ n → ((List.range q).flatMap F).length = q * C := by
      intro q
      induction q with
      | zero => intro _; simp
      | succ q ih => intro hq; rw [List.range_succ, List.flatMap_append, List.length_append, ih (by omega)]; simp [(hF q (by omega)).1, Nat.succ_mul]
    have hat : ∀ q, q ≤ n → ∀ i, i < q → (((List.range q).flatMap F).drop (i * C)).take C = F i := by
      intro q
      induction q with
      | zero => intro _ i hi; omega
      | succ q ih =>
        intro hq i hi
        have hfl : (List.range (q + 1)).flatMap F = (List.range q).flatMap F ++ F q := by rw [List.range_succ, List.flatMap_append]; simp
        rw [hfl]
        rcases Nat.lt_or_ge i q with h | h
        · have hle : i * C + C ≤ q * C := by rw [← Nat.succ_mul]; exact Nat.mul_le_mul_right _ h
          rw [List.drop_append_of_le_length (by rw [hlen q (by omega)]; omega), List.take_append_of_le_length (by rw [List.length_drop, hlen q (by omega)]; omega)]
          exact ih (by omega) i h
        · obtain rfl : i = q := by omega
          rw [List.drop_append, hlen i (by omega), List.drop_of_length_le (by rw [hlen i (by omega)]; exact Nat.le_refl _), Nat.sub_self]
          simp
          exact List.take_of_length_le (by rw [(hF i (by omega)).1]; exact Nat.le_refl _)
    refine ⟨_, n, (List.range n).flatMap F, hcs, ⟨some a, c, rfl, ⟨hlen n (Nat.le_refl _), fun hn => ?_⟩, (fun h => nomatch h), hl, by unfold maxLen at hm; exact hm⟩, fun i hi => ⟨k, _, by rw [hat n (Nat.le_refl _) i hi]; exact (hF i hi).2.2⟩⟩
    obtain ⟨f1, f2, _⟩ := hF 0 hn
    have h00 := f2 0 hpos
    rw [List.getElem?_eq_getElem (by omega)] at h00
    rw [Nat.zero_mul, Nat.add_zero] at h00
    have ha0 : a.add 0 = a := by obtain ⟨b, o, s⟩ := a; simp [Addr.add]
    rw [ha0] at h00
    have hap := addr_plain h00
    refine ⟨a.block, a.off, by rw [← hap], block_lt h00, fun j u hu => ?_⟩
    have hj : j < n * C := by
      have := (List.getElem?_eq_some_iff.1 hu).1
      rwa [hlen n (Nat.le_refl _)] at this
    have hC0 : 0 < C := hpos
    have hq : j / C < n := Nat.div_lt_of_lt_mul (by rw [Nat.mul_comm]; exact hj)
    have hr : j % C < C := Nat.mod_lt _ hC0
    have hdm : j / C * C + j % C = j := by rw [Nat.mul_comm]; exact Nat.div_add_mod j C
    obtain ⟨g1, g2, _⟩ := hF (j / C) hq
    have h5 := g2 (j % C) hr
    rw [hdm] at h5
    have h6 : (F (j / C))[j % C]? = some u := by
      rw [← hat n (Nat.le_refl _) (j / C) hq, List.getElem?_take, if_pos hr, List.getElem?_drop, hdm]
      exact hu
    rw [h6, hap, add_none] at h5
    exact h5
/-- A slice argument, opened: its cells, and each element's reading. -/
theorem open_sl {W : World} {base b0 : Nat} {sp : Nat → Bool} {held : Bool} {t e : TypeId} {v : Value} {d : DataW H} {ps : List MemPlace} (ht : P.underlying t = some (.slice e)) (hpos : 0 < P.cellsOf e) (hval : Value.okWide P W .any base t v)
    (hd : DataW.Trod enc P W b0 sp held t v d ps) :
    ∃ n xs, Sl W (P.cellsOf e) v n xs ∧ ∀ i, i < n → ∃ fuel y, DataW.trod enc P W b0 sp held fuel e ((xs.drop (i * P.cellsOf e)).take (P.cellsOf e)) = some y := by
  obtain ⟨A, n, c, rfl⟩ := okWide_slice ht hval
  obtain ⟨fuel, hf⟩ := hd
  obtain ⟨u, n', xs, h1, h2, h3⟩ := open_sl0 ht hpos hf
  simp [Value.cells] at h1
  subst h1
  exact ⟨n', xs, h2, h3⟩
/-- The elements of a slice of ints. -/
theorem ints_of {W : World} {b0 : Nat} {sp : Nat → Bool} {held : Bool} {e : TypeId} {k : IntKind} {v : Value} {n : Nat} {xs : List Value} (he : P.underlying e = some (.int k)) (hs : Sl W 1 v n xs)
    (hi : ∀ i, i < n → ∃ fuel y, DataW.trod enc P W b0 sp held fuel e ((xs.drop (i * 1)).take 1) = some y) : ∃ l : List Int, Sl W 1 v l.length (l.map (Value.int k)) ∧ ∀ a ∈ l, (Lit.int k a).wf = true := by
  have hlen : xs.length = n := by obtain ⟨A, c, _, h, _⟩ := hs; have := h.len; omega
  have hel : ∀ i, i < n → ∃ a, xs[i]? = some (.int k a) ∧ (Lit.int k a).wf = true := by
    intro i hin
    obtain ⟨fuel, y, hy⟩ := hi i hin
    obtain ⟨a, ea, _, wa⟩ := DataW.trod_int he hy
    refine ⟨a, ?_, wa⟩
    rw [Nat.mul_one] at ea
    have := congrArg (·[0]?) ea
    simpa [List.getElem?_take, List.getElem?_drop] using this
  let g : Value → Int := fun | .int _ a => a | _ => 0
  have hmap : xs = (xs.map g).map (Value.int k) := by
    apply List.ext_getElem?
    intro i
    rcases Nat.lt_or_ge i n with h | h
    · obtain ⟨a, ha, _⟩ := hel i h
      simp [ha, g]
    · rw [List.getElem?_eq_none (by omega), List.getElem?_eq_none (by simp; omega)]
  refine ⟨xs.map g, by rw [← hmap, List.length_map, hlen]; exact hs, fun a ha => ?_⟩
  obtain ⟨x, hx, rfl⟩ := List.mem_map.1 ha
  obtain ⟨i, hin⟩ := List.mem_iff_getElem?.1 hx
  obtain ⟨b, hb, wb⟩ := hel i (by rw [← hlen]; exact (List.getElem?_eq_some_iff.1 hin).1)
  rw [hin] at hb
  injection hb with hb
  subst hb
  exact wb
/-- A slice of ints of one kind. -/
theorem open_ints1 {W : World} {base b0 : Nat} {sp : Nat → Bool} {held : Bool} {t e : TypeId} {k : IntKind} {v : Value} {d : DataW H} {ps : List MemPlace} (ht : P.underlying t = some (.slice e)) (he : P.underlying e = some (.int k)) (hC : P.cellsOf e = 1) (hval : Value.okWide P W .any base t v)
    (hd : DataW.Trod enc P W b0 sp held t v d ps) : ∃ l : List Int, Sl W 1 v l.length (l.map (Value.int k)) ∧ ∀ a ∈ l, (Lit.int k a).wf = true := by
  obtain ⟨n, xs, hs, hi⟩ := open_sl ht (by omega) hval hd
  rw [hC] at hs hi
  exact ints_of he hs hi
/-- A slice of bytes. -/
theorem open_bytesl {W : World} {base b0 : Nat} {sp : Nat → Bool} {held : Bool} {t e : TypeId} {v : Value} {d : DataW H} {ps : List MemPlace} (ht : P.underlying t = some (.slice e)) (he : P.underlying e = some (.int .u8)) (hC : P.cellsOf e = 1) (hval : Value.okWide P W .any base t v)
    (hd : DataW.Trod enc P W b0 sp held t v d ps) : ∃ l : List UInt8, Sl W 1 v l.length (l.map fun c => Value.int .u8 c.toNat) := by
  obtain ⟨l, hs, hw⟩ := open_ints1 ht he hC hval hd
  have e1 : (l.map fun a => UInt8.ofNat a.toNat).map (fun c => Value.int .u8 c.toNat) = l.map (Value.int .u8) := by
    rw [List.map_map]
    refine List.map_congr_left fun a ha => ?_
    have wa' : 0 ≤ a ∧ a ≤ 255 := bounds_u8 (hw a ha)
    simp only [Function.comp, UInt8.toNat_ofNat']
    congr 1
    omega
  exact ⟨l.map fun a => UInt8.ofNat a.toNat, by rw [e1, List.length_map]; exact hs⟩
theorem bytes_of {W : World} {v : Value} {l : List Int} (hs : Sl W 1 v l.length (l.map (Value.int .u8))) (hw : ∀ a ∈ l, (Lit.int .u8 a).wf = true) : ∃ l : List UInt8, Sl W 1 v l.length (l.map fun c => Value.int .u8 c.toNat) := by
  have e1 : (l.map fun a => UInt8.ofNat a.toNat).map (fun c => Value.int .u8 c.toNat) = l.map (Value.int .u8) := by
    rw [List.map_map]
    refine List.map_congr_left fun a ha => ?_
    have wa' : 0 ≤ a ∧ a ≤ 255 := bounds_u8 (hw a ha)
    simp only [Function.comp, UInt8.toNat_ofNat']
    congr 1
    omega
  exact ⟨l.map fun a => UInt8.ofNat a.toNat, by rw [e1, List.length_map]; exact hs⟩
/-- A slice of slices of bytes. -/
theorem open_bytesls {W : World} {base b0 : Nat} {sp : Nat → Bool} {held : Bool} {t e q : TypeId} {v : Value} {d : DataW H} {ps : List MemPlace} (ht : P.underlying t = some (.slice e)) (he : P.underlying e = some (.slice q)) (hq : P.underlying q = some (.int .u8)) (hC : P.cellsOf e = 1) (hD : P.cellsOf q = 1)
    (hval : Value.okWide P W .any base t v) (hd : DataW.Trod enc P W b0 sp held t v d ps) :
    ∃ (vs : List Value) (ls : List (List UInt8)), vs.length = ls.length ∧ Sl W 1 v ls.length vs ∧ ∀ i, (h : i < vs.length) → (h' : i < ls.length) → Sl W 1 vs[i] ls[i].length (ls[i].map fun c => Value.int .u8 c.toNat) := by
  obtain ⟨n, xs, hs, hi⟩ := open_sl ht (by omega) hval hd
  rw [hC] at hs hi
  have hlen : xs.length = n := by obtain ⟨A, c, _, h, _⟩ := hs; have := h.len; omega
  have key : ∀ i, i < n → ∃ l : List UInt8, ∀ (h : i < xs.length), Sl W 1 xs[i] l.length (l.map fun c => Value.int .u8 c.toNat) := by
    intro i hin
    obtain ⟨fuel, y, hy⟩ := hi i hin
    obtain ⟨u, m, zs, h1, h2, h3⟩ := open_sl0 he (by omega) hy
    rw [hD] at h2 h3
    obtain ⟨l, h4, h5⟩ := ints_of hq h2 h3
    obtain ⟨l', h6⟩ := bytes_of h4 h5
    refine ⟨l', fun h => ?_⟩
    have : xs[i] = u := by
      have h7 := congrArg (·[0]?) h1
      simp [List.getElem?_take, List.getElem?_drop, List.getElem?_eq_getElem h] at h7
      exact h7
    rw [this]; exact h6
  obtain ⟨F, hF⟩ := Deep.choose_lt (α := List UInt8) (p := fun i l => ∀ (h : i < xs.length), Sl W 1 xs[i] l.length (l.map fun c => Value.int .u8 c.toNat)) key
  refine ⟨xs, (List.range n).map F, by simp [hlen], by simpa using hs, fun i h h' => ?_⟩
  have hin : i < n := by simpa using h'
  simp only [List.getElem_map, List.getElem_range]
  exact hF i hin h
end
end Go.Proofs.YtpmmfabendnhiaaDoor
namespace Go.Proofs.YtpmmfabendnhiaaDoor
open Go.RowKit
set_option linter.unusedVariables false
theorem run_make1 {P : Program} {t e : TypeId} {z : Value} {bytes : Nat} (ht : P.underlying t = some (.slice e)) (hi : (P.info? e).map (fun i => (i.zero, i.size, i.bytes)) = some (some z, 1, bytes)) (hz : z.cells = #[z]) (n : Nat) (hn : n ≤ 9223372036854775807) (hb : n * bytes ≤ 281474976710656) (W : World) :
    (Instr.makeSlice t (.int .i64 n) (.int .i64 n)).run P W = .ok (.slice (some ⟨W.heap.size, 0, none⟩) n n) (W.alloc (.cells (Array.replicate n z) e)) := by
  obtain ⟨i, h1, h2⟩ := Option.map_eq_some_iff.1 hi
  injection h2 with e1 h3
  injection h3 with e2 e3
  have := run_make (P := P) W t e i _ ht h1 e1 .i64 .i64 n n (by omega) (by omega) (by rw [e3, ← Int.natCast_mul, Nat.mul_comm]; omega) (by omega)
  rw [this, e2, Int.toNat_natCast]
  have hm : madeCells z.cells (n * 1) = Array.replicate n z := by
    apply Array.ext_getElem?
    intro j
    rw [hz, Nat.mul_one]
    unfold madeCells
    rw [Array.getElem?_map, Array.getElem?_range, Array.getElem?_replicate]
    by_cases hj : j < n
    · rw [if_pos hj, if_pos hj]
      simp only [Option.map_some]
      congr 1
      have : j % (#[z] : Array Value).size = 0 := Nat.mod_one j
      rw [this]
      rfl
    · rw [if_neg hj, if_neg hj]; rfl
  rw [hm]
/-- a slice of the call's own reads -/
theorem own_sl {w : World} {base : Nat} {e : TypeId} {size n : Nat} {v : Value} {xs : List Value} (h : w.ownsRow base e size v n xs) : Sl w size v n xs ∧ ∃ A c, v = .slice A n c := by
  have h0 := h
  rcases h.2 with ⟨rfl, rfl⟩ | ⟨g, cap, cur, rfl, hb, hg, hnc, hm, _⟩
  · exact ⟨⟨none, 0, rfl, Rd.of_own h0, fun _ => ⟨rfl, rfl⟩, by omega, by omega⟩, _, _, rfl⟩
  · exact ⟨⟨_, cap, rfl, Rd.of_own h0, (fun h => nomatch h), hnc, by unfold maxLen at hm; exact hm⟩, _, _, rfl⟩
end Go.Proofs.YtpmmfabendnhiaaDoor
namespace Go.Proofs.YtpmmfabendnhiaaDoor
open Go.RowKit
set_option linter.unusedVariables false
theorem row_keeps {O : Nat → Prop} {a b : World} {base e size n : Nat} {v : Value} {xs : List Value} (h : a.ownsRow base e size v n xs) (hk : Keeps O a b) (hv : ∀ j, v.ownBlock = some j → O j) : b.ownsRow base e size v n xs := by
  refine ⟨h.1, ?_⟩
  rcases h.2 with hn | ⟨g, cap, cur, rfl, hb, hg, rest⟩
  · exact .inl hn
  · exact .inr ⟨g, cap, cur, rfl, hb, (hk.block g (Array.getElem?_eq_some_iff.1 hg).1 (hv g rfl)).trans hg, rest⟩
theorem row_below {a b : World} {base e size n : Nat} {v : Value} {xs : List Value} (h : a.ownsRow base e size v n xs) (hk : Below a.heap.size a b) : b.ownsRow base e size v n xs := row_keeps h (Keeps.of_ext (O := fun _ => True) hk) fun _ _ => trivial
/-- a row, and a block of another element type -/
theorem row_ne {w : World} {B e size n g : Nat} {v : Value} {xs : List Value} {t : TypeId} {cs : Array Value} (h : w.ownsRow B e size v n xs) (hg : Blk w g t cs) (hne : e ≠ t) : v.ownBlock ≠ some g := by
  rcases h.2 with ⟨rfl, _⟩ | ⟨k, cap, cur, rfl, _, hk, _⟩
  · simp [Value.ownBlock]
  · intro h2
    simp only [Value.ownBlock, Option.some.injEq] at h2
    subst h2
    unfold Blk at hg
    rw [hg] at hk
    injection hk with hk
    injection hk with _ h3 _
    exact hne h3.symm
/-- two rows of unlike element types -/
theorem rows_ne {w : World} {B B' e e' size size' n n' : Nat} {v v' : Value} {xs xs' : List Value} (h : w.ownsRow B e size v n xs) (h' : w.ownsRow B' e' size' v' n' xs') (hne : e ≠ e') : ∀ j, v.ownBlock = some j → v'.ownBlock ≠ some j := by
  intro j hj
  rcases h.2 with ⟨rfl, _⟩ | ⟨k, cap, cur, rfl, _, hk, _⟩
  · simp [Value.ownBlock] at hj
  · simp only [Value.ownBlock, Option.some.injEq] at hj
    subst hj
    exact row_ne (t := e) (cs := cur) h' hk (fun e => hne e.symm)
/-- a field of one cell, of a struct by value -/
theorem run_field1 {P : Program} {w : World} {t i : Nat} {fs : Array Field} {f : Field} {cs : Array Value} {v : Value} (hu : P.underlying t = some (.struct fs)) (hf : fs[i]? = some f) (hs : shapeOf P f.type = some none) (hc : cs[f.offset]? = some v) : (Instr.field t (.agg cs) i).run P w = .ok v w := by
  simp [Instr.field, run_underlying hu, hf, part, asAgg, run_isAgg hs, hc]
theorem Sl_on {w w' : World} {size n : Nat} {v : Value} {xs : List Value} (h : Sl w size v n xs) (hb : Below w.heap.size w w') : Sl w' size v n xs := by
  obtain ⟨A, c, h1, h2, h3⟩ := h
  exact ⟨A, c, h1, h2.keep hb, h3⟩
/-- the block of a slice -/
def atB (n : Nat) (A : Option Addr) (j : Nat) : Prop := 0 < n ∧ ∃ b o, A = some ⟨b, o, none⟩ ∧ j = b
theorem Rd_on {N : Nat → Prop} {w w' : World} {size n : Nat} {A : Option Addr} {xs : List Value} (h : Rd w size A n xs) (hk : Keeps N w w') (hN : ∀ j, atB n A j → N j) : Rd w' size A n xs := by
  by_cases h0 : 0 < n
  · exact hk.rd h fun g o e => hN g ⟨h0, g, o, e, rfl⟩
  · obtain rfl : n = 0 := by omega
    have hl := h.len
    obtain rfl : xs = [] := List.length_eq_zero_iff.1 (by omega)
    exact Rd.nil_ _ _ _
theorem atB_row {w : World} {base e size n c : Nat} {A : Option Addr} {xs : List Value} (h : w.ownsRow base e size (.slice A n c) n xs) {j : Nat} (hj : atB n A j) : (Value.slice A n c).ownBlock = some j := by
  obtain ⟨h0, b, o, rfl, rfl⟩ := hj
  rcases h.2 with ⟨e1, _⟩ | ⟨g, cap, cur, e1, _⟩
  · cases e1
  · injection e1 with e1
    injection e1 with e1
    injection e1 with e1
    subst e1
    rfl
theorem atB_lt {w : World} {size n : Nat} {A : Option Addr} {xs : List Value} (h : Rd w size A n xs) {j : Nat} (hj : atB n A j) : j < w.heap.size := by
  obtain ⟨h0, b, o, rfl, rfl⟩ := hj
  obtain ⟨b', o', e, hlt, _⟩ := h.cells h0
  injection e with e
  injection e with e
  omega
end Go.Proofs.YtpmmfabendnhiaaDoor
namespace Go.Proofs.YtpmmfabendnhiaaDoor
open Go.RowKit
set_option linter.unusedVariables false
set_option linter.unusedSimpArgs false
theorem width_pos (s : ByteArray) (i : Nat) : 1 ≤ (Utf8.decode s i).2 := by
  unfold Utf8.decode
  simp only
  repeat' split
  all_goals simp
/-- the runes of s from the byte i on -/
def runesF (s : ByteArray) : Nat → Nat → List Int
  | 0, _ => []
  | f + 1, i => if i < s.size then ((Utf8.decode s i).1 : Int) :: runesF s f (i + (Utf8.decode s i).2) else []
def runesAt (s : ByteArray) (i : Nat) : List Int := runesF s s.size i
def runes (s : ByteArray) : List Int := runesAt s 0
theorem runesF_more (s : ByteArray) : ∀ (f g i : Nat), s.size ≤ f + i → s.size ≤ g + i → runesF s f i = runesF s g i
  | 0, 0, _, _, _ => rfl
  | 0, g + 1, i, h, _ => by simp [runesF]; omega
  | f + 1, 0, i, _, h => by simp [runesF]; omega
  | f + 1, g + 1, i, h1, h2 => by
    have := width_pos s i
    simp only [runesF]
    split
    · rw [runesF_more s f g _ (by omega) (by omega)]
    · rfl
theorem runesAt_next {s : ByteArray} {i : Nat} (h : i < s.size) : runesAt s i = ((Utf8.decode s i).1 : Int) :: runesAt s (i + (Utf8.decode s i).2) := by
  have hw := width_pos s i
  unfold runesAt
  obtain ⟨n, hn⟩ : ∃ n, s.size = n + 1 := ⟨s.size - 1, by omega⟩
  have : runesF s s.size i = runesF s (n + 1) i := by rw [hn]
  rw [this]
  simp only [runesF, h, if_true]
  rw [runesF_more s n s.size _ (by omega) (by omega)]
theorem runesAt_end {s : ByteArray} {i : Nat} (h : ¬ i < s.size) : runesAt s i = [] := by
  unfold runesAt
  cases s.size with
  | zero => rfl
  | succ n => simp [runesF, h]
/-- an iterator over a string, at the byte i -/
def It (w : World) (r : Nat) (s : ByteArray) (i : Nat) : Prop := w.heap[r]? = some (.stringIter s i)
def itPut (w : World) (r : Nat) (o : Obj) : World := { w with heap := w.heap.setIfInBounds r o }
section
variable {P : Program} {w : World} {r : Nat} {s : ByteArray} {i : Nat}
theorem It.lt (h : It w r s i) : r < w.heap.size := (Array.getElem?_eq_some_iff.1 h).1
theorem It.keep {w' : World} (h : It w r s i) (hb : Below w.heap.size w w') : It w' r s i := (hb.block r h.lt).trans h
theorem It_made (w : World) (s : ByteArray) : It (w.alloc (.stringIter s 0)) w.heap.size s 0 := heap_alloc_new w _
theorem It.put (h : It w r s i) (j : Nat) : It (itPut w r (.stringIter s j)) r s j := by
  have := h.lt
  unfold It itPut
  simp [this]
theorem itPut_far (w : World) (r : Nat) (o : Obj) {k : Nat} (h : k ≠ r) : (itPut w r o).heap[k]? = w.heap[k]? := by
  simp [itPut, Array.getElem?_setIfInBounds_ne (Ne.symm h)]
@[go_sem] theorem itPut_size (w : World) (r : Nat) (o : Obj) : (itPut w r o).heap.size = w.heap.size := by simp [itPut]
theorem Below.itPut {B : Nat} {a w : World} (h : Below B a w) {r : Nat} (hr : B ≤ r) (o : Obj) : Below B a (itPut w r o) :=
  ⟨h.os, h.tape, h.output, by rw [itPut_size]; exact h.size, fun k hk => by rw [itPut_far _ _ _ (by omega)]; exact h.block k hk⟩
theorem run_range_str {t : TypeId} (ht : P.underlying t = some .string) (s : ByteArray) : (Instr.range t (.string s)).run P w = .ok (.pointer (some ⟨w.heap.size, 0, none⟩)) (w.alloc (.stringIter s 0)) := by
  simp [Instr.range, run_underlying ht, Result.andThen]
theorem run_next_str (h : It w r s i) (ty : TypeId) (hlt : i < s.size) :
    (Instr.next (.pointer (some ⟨r, 0, none⟩)) true ty).run P w = .ok (.tuple #[.bool true, goInt i, .int .i32 ((Utf8.decode s i).1 : Int)]) (itPut w r (.stringIter s (i + (Utf8.decode s i).2))) := by
  unfold It at h
  simp [Instr.next, getObj, setObj, Sem.run, h, hlt, Result.andThen, itPut]
theorem run_next_end (h : It w r s i) (ty : TypeId) (hlt : ¬ i < s.size) :
    (Instr.next (.pointer (some ⟨r, 0, none⟩)) true ty).run P w = .ok (.tuple #[.bool false]) w := by
  unfold It at h
  simp [Instr.next, getObj, Sem.run, h, hlt, Result.andThen]
end
end Go.Proofs.YtpmmfabendnhiaaDoor
