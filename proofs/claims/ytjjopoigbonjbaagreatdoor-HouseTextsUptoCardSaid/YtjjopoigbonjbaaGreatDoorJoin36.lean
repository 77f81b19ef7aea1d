/-
  Texts joined: HOpen.
-/
import Derived.Test.YtjjopoigbonjbaaGreatDoorJoin35
import Derived.Test.YtjjopoigbonjbaaGreatDoorRows
import Derived.KernelRfl
namespace Go.Proofs.YtjjopoigbonjbaaGreatDoor.Ho
open Go Go.Proofs Go.RowKit Go.ChangeShapes Go.WideShapes
set_option linter.unusedVariables false
set_option linter.unusedSimpArgs false
set_option maxRecDepth 10000
section
variable {H : Type} {enc : TypeId × Value → H} {P : Program}
abbrev bulk (d : DataW H) : Nat := Rows.uptoBulk d
theorem bulk_all : ∀ {L : List (DataW H)} {d : DataW H}, d ∈ L → bulk d ≤ Rows.uptoBulkAll L
  | x :: L, d, h => by
    have e : Rows.uptoBulkAll (x :: L) = Rows.uptoBulk x + Rows.uptoBulkAll L := by simp [Rows.uptoBulkAll]
    rw [e]
    rcases List.mem_cons.1 h with rfl | h
    · exact Nat.le_add_right _ _
    · exact Nat.le_trans (bulk_all h) (Nat.le_add_left _ _)
theorem bulk_agg {L : List (DataW H)} {d : DataW H} (h : d ∈ L) : bulk d ≤ bulk (.agg L) := by
  have e : Rows.uptoBulk (.agg L) = Rows.uptoBulkAll L + 1 := by simp [Rows.uptoBulk]
  show Rows.uptoBulk d ≤ Rows.uptoBulk (.agg L)
  rw [e]
  exact Nat.le_trans (bulk_all h) (Nat.le_add_right _ _)
theorem bulk_slice {L M : List (DataW H)} {d : DataW H} (h : d ∈ L) : bulk d ≤ bulk (.slice L M) := by
  have e : Rows.uptoBulk (.slice L M) = Rows.uptoBulkAll L + Rows.uptoBulkAll M + 1 := by simp [Rows.uptoBulk]
  show Rows.uptoBulk d ≤ Rows.uptoBulk (.slice L M)
  rw [e]
  have h1 : Rows.uptoBulk d ≤ Rows.uptoBulkAll L := bulk_all h
  omega
theorem open_sl0B {W : World} {b0 : Nat} {sp : Nat → Bool} {held : Bool} {t e : TypeId} {fuel : Nat} {cs : List Value} {x : DataW H × List MemPlace} (ht : P.underlying t = some (.slice e)) (hpos : 0 < P.cellsOf e) (hf : DataW.trod enc P W b0 sp held fuel t cs = some x) :
    ∃ u n xs, cs = [u] ∧ Sl W (P.cellsOf e) u n xs ∧ ∀ i, i < n → ∃ fuel y, DataW.trod enc P W b0 sp held fuel e ((xs.drop (i * P.cellsOf e)).take (P.cellsOf e)) = some y ∧ bulk y.1 ≤ bulk x.1 := by
  rcases Deep.open_slice ht hf with ⟨h0, _⟩ | ⟨a, n, c, m, k, D, Pl, hcs, hb, hl, hm, hmm, hx, hi⟩
  · exact ⟨_, 0, [], h0, ⟨none, 0, rfl, Rd.nil_ _ _ _, fun _ => ⟨rfl, rfl⟩, by omega, by omega⟩, fun i hi => by omega⟩
  · have hmn : n ≤ m := by rw [hmm]; split <;> omega
    generalize hC : P.cellsOf e = C at *
    have hcell : ∀ i, i < n → ∃ cs', cs'.length = C ∧ (∀ j, j < C → W.cell? (a.add (i * C + j)) = cs'[j]?) ∧ DataW.trod enc P W b0 sp held k e cs' = some (D i, Pl i) := by
      intro i hin
      obtain ⟨cs', h1, h2⟩ := hi i (by omega)
      obtain ⟨_, h3, h4⟩ := World.cells?_some h1
      refine ⟨cs', h3, fun j hj => ?_, h2⟩
      rw [← h4 j hj, Deep.add_add]
    obtain ⟨F, hF⟩ := Deep.choose_lt (α := List Value) (p := fun i cs' => cs'.length = C ∧ (∀ j, j < C → W.cell? (a.add (i * C + j)) = cs'[j]?) ∧ DataW.trod enc P W b0 sp held k e cs' = some (D i, Pl i)) hcell
    have hlen : ∀ q, q ≤ n → ((List.range q).flatMap F).length = q * C := by
      intro q
      induction q with
      | zero => intro _; simp
      | succ q ih => intro hq; rw [List.range_succ, List.flatMap_append, List.length_append, ih (by omega)]; simp [(hF q (by omega)).1, Nat.succ_mul]
    have hat : ∀ q, q ≤ n → ∀ i, i < q → (((List.range q).flatMap F).drop (i * C)).take C = F i := by
      intro q
      induction q with
      | zero => intro _ i hi; omega
      | succ q ih =>
        intro hq i hi
        have hfl : (List.range (q + 1)).flatMap F = (List.range q).flatMap F ++ F q := by rw [List.range_succ, List.flatMap_append]; simp
        rw [hfl]
        rcases Nat.lt_or_ge i q with h | h
        · have hle : i * C + C ≤ q * C := by rw [← Nat.succ_mul]; exact Nat.mul_le_mul_right _ h
          rw [List.drop_append_of_le_length (by rw [hlen q (by omega)]; omega), List.take_append_of_le_length (by rw [List.length_drop, hlen q (by omega)]; omega)]
          exact ih (by omega) i h
        · obtain rfl : i = q := by omega
          rw [List.drop_append, hlen i (by omega), List.drop_of_length_le (by rw [hlen i (by omega)]; exact Nat.le_refl _), Nat.sub_self]
          simp
          exact List.take_of_length_le (by rw [(hF i (by omega)).1]; exact Nat.le_refl _)
    refine ⟨_, n, (List.range n).flatMap F, hcs, ⟨some a, c, rfl, ⟨hlen n (Nat.le_refl _), fun hn => ?_⟩, (fun h => nomatch h), hl, by unfold maxLen at hm; exact hm⟩, fun i hi => ⟨k, _, by rw [hat n (Nat.le_refl _) i hi]; exact (hF i hi).2.2, by rw [hx]; exact bulk_slice (List.mem_map.2 ⟨i, List.mem_range.2 hi, rfl⟩)⟩⟩
    obtain ⟨f1, f2, _⟩ := hF 0 hn
    have h00 := f2 0 hpos
    rw [List.getElem?_eq_getElem (by omega)] at h00
    rw [Nat.zero_mul, Nat.add_zero] at h00
    have ha0 : a.add 0 = a := by obtain ⟨b, o, s⟩ := a; simp [Addr.add]
    rw [ha0] at h00
    have hap := addr_plain h00
    refine ⟨a.block, a.off, by rw [← hap], block_lt h00, fun j u hu => ?_⟩
    have hj : j < n * C := by
      have := (List.getElem?_eq_some_iff.1 hu).1
      rwa [hlen n (Nat.le_refl _)] at this
    have hC0 : 0 < C := hpos
    have hq : j / C < n := Nat.div_lt_of_lt_mul (by rw [Nat.mul_comm]; exact hj)
    have hr : j % C < C := Nat.mod_lt _ hC0
    have hdm : j / C * C + j % C = j := by rw [Nat.mul_comm]; exact Nat.div_add_mod j C
    obtain ⟨g1, g2, _⟩ := hF (j / C) hq
    have h5 := g2 (j % C) hr
    rw [hdm] at h5
    have h6 : (F (j / C))[j % C]? = some u := by
      rw [← hat n (Nat.le_refl _) (j / C) hq, List.getElem?_take, if_pos hr, List.getElem?_drop, hdm]
      exact hu
    rw [h6, hap, add_none] at h5
    exact h5
theorem mapM_at {α β : Type} {f : α → Option β} : ∀ (L : List α) (ys : List β), L.mapM f = some ys → ∀ x ∈ L, ∃ y, f x = some y ∧ y ∈ ys
  | [], ys, _, x, hx => by cases hx
  | z :: L, ys, h, x, hx => by
    rw [List.mapM_cons] at h
    simp only [bind, Option.bind_eq_some_iff, pure, Option.some.injEq] at h
    obtain ⟨y, hy, ys', hys, rfl⟩ := h
    rcases List.mem_cons.1 hx with rfl | hx
    · exact ⟨y, hy, List.mem_cons_self⟩
    · obtain ⟨y', h1, h2⟩ := mapM_at L ys' hys x hx
      exact ⟨y', h1, List.mem_cons_of_mem _ h2⟩
/-- A struct's field: its type, where it stands. -/
def fieldAt (P : Program) (t : TypeId) (j : Nat) : Option (TypeId × Nat) := match P.underlying t with
  | some (.struct fs) => (fs.toList[j]?).map fun f => (f.type, f.offset)
  | _ => none
theorem trod_field {t ft : TypeId} {j o m : Nat} (hj : fieldAt P t j = some (ft, o)) (hm : P.cellsOf ft = m) {W : World} {base fuel : Nat} {sp : Nat → Bool} {held : Bool} {cs : List Value} {y : DataW H × List MemPlace}
    (hf : DataW.trod enc P W base sp held fuel t cs = some y) : cs.length = P.cellsOf t ∧ ∃ fuel z, DataW.trod enc P W base sp held fuel ft ((cs.drop o).take m) = some z ∧ bulk z.1 ≤ bulk y.1 := by
  subst hm
  unfold fieldAt at hj
  split at hj
  · rename_i fs ht
    simp only [Option.map_eq_some_iff, Prod.mk.injEq] at hj
    obtain ⟨f, hf0, rfl, rfl⟩ := hj
    have hfm : f ∈ fs.toList := List.mem_of_getElem? hf0
    cases fuel with
    | zero => simp [DataW.trod] at hf
    | succ k =>
      unfold DataW.trod at hf
      simp only [ht] at hf
      split at hf
      · rename_i hlen
        simp only [Option.map_eq_some_iff] at hf
        obtain ⟨ys, hy, e1⟩ := hf
        refine ⟨hlen, ?_⟩
        obtain ⟨z, hz, hzm⟩ := mapM_at _ _ hy f hfm
        refine ⟨k, z, hz, ?_⟩
        rw [← e1]
        exact bulk_agg (List.mem_map.2 ⟨z, hzm, rfl⟩)
      · cases hf
  · cases hj
theorem one_at {cs : List Value} {o : Nat} {v : Value} (h : (cs.drop o).take 1 = [v]) : cs[o]? = some v := by
  have := congrArg (·[0]?) h
  simpa [List.getElem?_take, List.getElem?_drop] using this
theorem trod_sl1 {e t : TypeId} {W : World} {base fuel : Nat} {sp : Nat → Bool} {held : Bool} {cs : List Value} {y : DataW H × List MemPlace} (ht : P.underlying t = some (.slice e)) (h : DataW.trod enc P W base sp held fuel t cs = some y) : ∃ A n c, cs = [.slice A n c] := by
  rcases DataW.trod_slice ht h with ⟨rfl, _⟩ | ⟨a, len, cap, elems, rest, n, _, rfl, rfl, _⟩
  · exact ⟨_, _, _, rfl⟩
  · exact ⟨_, _, _, rfl⟩
/-- An array of bytes. -/
theorem trod_bytes {t e : TypeId} {n : Nat} (ht : P.underlying t = some (.array n e)) (he : P.underlying e = some (.int .u8)) (hc : P.cellsOf e = 1) (hct : P.cellsOf t = n) {W : World} {base fuel : Nat} {sp : Nat → Bool} {held : Bool} {cs : List Value} {y : DataW H × List MemPlace}
    (hf : DataW.trod enc P W base sp held fuel t cs = some y) : ∃ l : List UInt8, l.length = n ∧ cs = bl l := by
  obtain ⟨xs, m, _, _, hlen, hxl, hi⟩ := DataW.trod_array ht hf
  rw [hct] at hlen
  rw [hc] at hi
  have hall : ∀ i, i < n → ∃ c : UInt8, (cs.drop (i * 1)).take 1 = [.int .u8 (c.toNat : Int)] := by
    intro i hin
    obtain ⟨x, hx⟩ : ∃ x, xs[i]? = some x := ⟨_, List.getElem?_eq_getElem (by omega)⟩
    have := hi i hin
    rw [hx] at this
    obtain ⟨a, ea, _, wa⟩ := DataW.trod_int he this
    have hb : 0 ≤ a ∧ a ≤ 255 := by simpa [Lit.wf, IntKind.min, IntKind.max, IntKind.signed, IntKind.bits] using wa
    refine ⟨UInt8.ofNat a.toNat, ?_⟩
    rw [ea]
    congr 2
    simp
    omega
  obtain ⟨l, h1, h2, _⟩ := list_of_elems (m := 1) (fun c : UInt8 => [.int .u8 (c.toNat : Int)]) (fun _ => True) n cs (by omega) (fun i hin => by
    obtain ⟨c, hc⟩ := hall i hin
    exact ⟨c, hc, trivial⟩)
  refine ⟨l, h1, ?_⟩
  rw [h2]
  unfold bl
  clear h1 h2
  induction l with
  | nil => rfl
  | cons a l ih => simp [ih]
theorem field_int {t ft : TypeId} {j o : Nat} (hj : fieldAt P t j = some (ft, o)) (hm : P.cellsOf ft = 1) (hu : P.underlying ft = some (.int .i64)) {W : World} {base fuel : Nat} {sp : Nat → Bool} {held : Bool} {cs : List Value} {y : DataW H × List MemPlace}
    (hf : DataW.trod enc P W base sp held fuel t cs = some y) : ∃ n, cs[o]? = some (.int .i64 n) ∧ I64 n := by
  obtain ⟨_, f2, z, hz, _⟩ := trod_field hj hm hf
  obtain ⟨n, e, _, wa⟩ := DataW.trod_int hu hz
  exact ⟨n, one_at e, bounds_i64 wa⟩
theorem field_bool {t ft : TypeId} {j o : Nat} (hj : fieldAt P t j = some (ft, o)) (hm : P.cellsOf ft = 1) (hu : P.underlying ft = some .bool) {W : World} {base fuel : Nat} {sp : Nat → Bool} {held : Bool} {cs : List Value} {y : DataW H × List MemPlace}
    (hf : DataW.trod enc P W base sp held fuel t cs = some y) : ∃ b, cs[o]? = some (.bool b) := by
  obtain ⟨_, f2, z, hz, _⟩ := trod_field hj hm hf
  obtain ⟨b, e, _⟩ := DataW.trod_bool hu hz
  exact ⟨b, one_at e⟩
theorem field_str {t ft : TypeId} {j o : Nat} (hj : fieldAt P t j = some (ft, o)) (hm : P.cellsOf ft = 1) (hu : P.underlying ft = some .string) {W : World} {base fuel : Nat} {sp : Nat → Bool} {held : Bool} {cs : List Value} {y : DataW H × List MemPlace}
    (hf : DataW.trod enc P W base sp held fuel t cs = some y) : ∃ l : List UInt8, cs[o]? = some (.string (strOf l)) ∧ l.length ≤ bulk y.1 := by
  obtain ⟨_, f2, z, hz, hb⟩ := trod_field hj hm hf
  obtain ⟨s, e, hz1, _⟩ := DataW.trod_string hu hz
  refine ⟨s.data.toList, one_at (by rw [e, strOf_self]), Nat.le_trans ?_ hb⟩
  rw [hz1]
  show _ ≤ Rows.uptoBulk (DataW.lit (.string s.data.toList))
  simp [Rows.uptoBulk]
theorem field_id {t ft e : TypeId} {j o : Nat} (hj : fieldAt P t j = some (ft, o)) (hm : P.cellsOf ft = 32) (hu : P.underlying ft = some (.array 32 e)) (he : P.underlying e = some (.int .u8)) (hc : P.cellsOf e = 1) {W : World} {base fuel : Nat} {sp : Nat → Bool} {held : Bool} {cs : List Value} {y : DataW H × List MemPlace}
    (hf : DataW.trod enc P W base sp held fuel t cs = some y) : ∃ l : List UInt8, l.length = 32 ∧ (cs.drop o).take 32 = bl l := by
  obtain ⟨_, f2, z, hz, hb⟩ := trod_field hj hm hf
  exact trod_bytes hu he hc hm hz
theorem part_one' {cs : List Value} {o k : Nat} {v : Value} (h : ((cs.drop o).take 7)[k]? = some v) : cs[o + k]? = some v := by
  rw [List.getElem?_take] at h
  split at h
  · rwa [List.getElem?_drop] at h
  · cases h
end
section
variable {H : Type} {enc : TypeId × Value → H}
theorem open_stand {W : World} {base fuel : Nat} {sp : Nat → Bool} {held : Bool} {cs : List Value} {y : DataW H × List MemPlace} (hf : DataW.trod enc Tryz.prog W base sp held fuel 60 cs = some y) :
    ∃ s : Std, cs = stdCells s ∧ s.OK ∧ s.name.length ≤ bulk y.1 ∧ I64 s.height ∧ I64 s.phase := by
  have hlen : cs.length = 69 := (trod_field (j := 0) (o := 0) (ft := 9) (by kernel_rfl) rfl hf).1.trans (by kernel_rfl)
  obtain ⟨nm, g0, hnm⟩ := field_str (j := 0) (o := 0) (ft := 9) (by kernel_rfl) (by kernel_rfl) Tryz.underlying9 hf
  obtain ⟨bz, g1⟩ := field_bool (j := 1) (o := 1) (ft := 4) (by kernel_rfl) (by kernel_rfl) Tryz.underlying4 hf
  obtain ⟨dn, g2⟩ := field_bool (j := 2) (o := 2) (ft := 4) (by kernel_rfl) (by kernel_rfl) Tryz.underlying4 hf
  obtain ⟨ph, g3, w3⟩ := field_int (j := 3) (o := 3) (ft := 3) (by kernel_rfl) (by kernel_rfl) Tryz.underlying3 hf
  obtain ⟨ht, g4, w4⟩ := field_int (j := 4) (o := 4) (ft := 2) (by kernel_rfl) (by kernel_rfl) Tryz.underlying2 hf
  have hc8 : Tryz.prog.cellsOf 5 = 1 := by kernel_rfl
  obtain ⟨la, l5, g5⟩ := field_id (j := 5) (o := 5) (ft := 58) (by kernel_rfl) (by kernel_rfl) Tryz.underlying58 Tryz.underlying5 hc8 hf
  obtain ⟨pr, l6, g6⟩ := field_id (j := 6) (o := 37) (ft := 58) (by kernel_rfl) (by kernel_rfl) Tryz.underlying58 Tryz.underlying5 hc8 hf
  refine ⟨⟨nm, bz, dn, ph, ht, la, pr⟩, ?_, ⟨l5, l6⟩, hnm, w4, w3⟩
  have e1 : cs = cs.take 5 ++ ((cs.drop 5).take 32 ++ (cs.drop 37).take 32) := by
    conv => lhs; rw [← List.take_append_drop 5 cs, ← List.take_append_drop 32 (cs.drop 5), List.drop_drop]
    rw [List.take_of_length_le (l := cs.drop 37) (by simp; omega)]
  have e2 : cs.take 5 = [.string (strOf nm), .bool bz, .bool dn, .int .i64 ph, .int .i64 ht] := by
    apply List.ext_getElem?
    intro i
    by_cases hi : i < 5
    · rw [List.getElem?_take, if_pos hi]
      rcases (by omega : i = 0 ∨ i = 1 ∨ i = 2 ∨ i = 3 ∨ i = 4) with rfl | rfl | rfl | rfl | rfl <;> first | exact g0 | exact g1 | exact g2 | exact g3 | exact g4
    · rw [List.getElem?_eq_none (by simp; omega), List.getElem?_eq_none (by simp; omega)]
  rw [e1, e2, g5, g6]
  simp [stdCells]
theorem open_report {W : World} {base b0 : Nat} {sp : Nat → Bool} {held : Bool} {v : Value} {d : DataW H} {ps : List MemPlace} (hval : Value.okWide Tryz.prog W .any base 27 v) (hd : DataW.Trod enc Tryz.prog W b0 sp held 27 v d ps) :
    ∃ (r : Rep) (ev sv : Value), v = .agg (repCells r ev sv) ∧ Sl W 1 ev r.errs.length (r.errs.map (.int .i64)) ∧ Sl W 69 sv r.stands.length (stands r.stands) ∧ (∀ e ∈ r.errs, I64 e) ∧ (∀ n ∈ r.nums, I64 n) ∧ I64 r.facts ∧ ∀ s ∈ r.stands, s.OK ∧ s.name.length ≤ bulk d ∧ I64 s.height ∧ I64 s.phase := by
  obtain ⟨cs, rfl, hcs⟩ := okWide_struct Tryz.underlying27 hval
  obtain ⟨fuel, hf⟩ := hd
  have hlen : cs.size = 15 := hcs.trans (by kernel_rfl)
  obtain ⟨_, f0, z0, h0, k0⟩ := trod_field (j := 0) (o := 0) (ft := 22) (m := 1) (by kernel_rfl) (by kernel_rfl) hf
  obtain ⟨_, f1, z1, h1, k1⟩ := trod_field (j := 1) (o := 1) (ft := 23) (m := 1) (by kernel_rfl) (by kernel_rfl) hf
  obtain ⟨_, f2, z2, h2, k2⟩ := trod_field (j := 2) (o := 2) (ft := 25) (m := 7) (by kernel_rfl) (by kernel_rfl) hf
  have ce : Tryz.prog.cellsOf 33 = 1 := by kernel_rfl
  have cst : Tryz.prog.cellsOf 60 = 69 := by kernel_rfl
  obtain ⟨ev, n0, xs0, e0, s0, i0⟩ := open_sl0B Tryz.underlying22 (by rw [ce]; omega) h0
  obtain ⟨sv, n1, xs1, e1, s1, i1⟩ := open_sl0B Tryz.underlying23 (by rw [cst]; omega) h1
  rw [ce] at s0 i0
  rw [cst] at s1 i1
  have l0 : xs0.length = n0 * 1 := by obtain ⟨A, c, _, h, _⟩ := s0; exact h.len
  have l1 : xs1.length = n1 * 69 := by obtain ⟨A, c, _, h, _⟩ := s1; exact h.len
  obtain ⟨er, a1, a2, a3⟩ := list_of_elems (m := 1) (fun a : Int => [.int .i64 a]) I64 n0 xs0 l0 (fun i hi => by
    obtain ⟨fu, y, hy, _⟩ := i0 i hi
    obtain ⟨n, e, _, wa⟩ := DataW.trod_int Tryz.underlying33 hy
    exact ⟨n, e, bounds_i64 wa⟩)
  obtain ⟨st, b1, b2, b3⟩ := list_of_elems (m := 69) stdCells (fun s => s.OK ∧ s.name.length ≤ bulk d ∧ I64 s.height ∧ I64 s.phase) n1 xs1 l1 (fun i hi => by
    obtain ⟨fu, y, hy, hk⟩ := i1 i hi
    obtain ⟨s, q1, q2, q3, q4, q5⟩ := open_stand hy
    exact ⟨s, q1, q2, Nat.le_trans q3 (Nat.le_trans hk k1), q4, q5⟩)
  subst a1 b1
  have stat : ∀ k, k < 7 → fieldAt Tryz.prog 25 k = some (2, k) → ∃ n, cs[2 + k]? = some (.int .i64 n) ∧ I64 n := by
    intro k hk hfa
    obtain ⟨n, g, w⟩ := field_int hfa (by kernel_rfl) Tryz.underlying2 h2
    exact ⟨n, by simpa [Value.cells] using part_one' g, w⟩
  obtain ⟨c2, g2, w2⟩ := stat 0 (by omega) (by kernel_rfl)
  obtain ⟨c3, g3, w3⟩ := stat 1 (by omega) (by kernel_rfl)
  obtain ⟨c4, g4, w4⟩ := stat 2 (by omega) (by kernel_rfl)
  obtain ⟨c5, g5, w5⟩ := stat 3 (by omega) (by kernel_rfl)
  obtain ⟨c6, g6, w6⟩ := stat 4 (by omega) (by kernel_rfl)
  obtain ⟨c7, g7, w7⟩ := stat 5 (by omega) (by kernel_rfl)
  obtain ⟨c8, g8, w8⟩ := stat 6 (by omega) (by kernel_rfl)
  obtain ⟨c9, g9, w9⟩ := field_int (j := 3) (o := 9) (ft := 3) (by kernel_rfl) (by kernel_rfl) Tryz.underlying3 hf
  obtain ⟨c10, g10, w10⟩ := field_int (j := 4) (o := 10) (ft := 3) (by kernel_rfl) (by kernel_rfl) Tryz.underlying3 hf
  obtain ⟨c11, g11⟩ := field_bool (j := 5) (o := 11) (ft := 4) (by kernel_rfl) (by kernel_rfl) Tryz.underlying4 hf
  obtain ⟨c12, g12⟩ := field_bool (j := 6) (o := 12) (ft := 4) (by kernel_rfl) (by kernel_rfl) Tryz.underlying4 hf
  obtain ⟨c13, g13⟩ := field_bool (j := 7) (o := 13) (ft := 4) (by kernel_rfl) (by kernel_rfl) Tryz.underlying4 hf
  obtain ⟨c14, g14⟩ := field_bool (j := 8) (o := 14) (ft := 4) (by kernel_rfl) (by kernel_rfl) Tryz.underlying4 hf
  have g0 := one_at e0
  have g1 := one_at e1
  simp only [Value.cells, Array.getElem?_toList] at g0 g1 g2 g3 g4 g5 g6 g7 g8 g9 g10 g11 g12 g13 g14
  refine ⟨⟨er, st, c2, c3, c4, c5, c6, c7, c8, c9, c10, c11, c12, c13, c14⟩, ev, sv, ?_, ?_, ?_, a3, ?_, w10, b3⟩
  · congr 1
    apply Array.ext_getElem?
    intro i
    by_cases hi : i < 15
    · rcases (by omega : i = 0 ∨ i = 1 ∨ i = 2 ∨ i = 3 ∨ i = 4 ∨ i = 5 ∨ i = 6 ∨ i = 7 ∨ i = 8 ∨ i = 9 ∨ i = 10 ∨ i = 11 ∨ i = 12 ∨ i = 13 ∨ i = 14) with rfl | rfl | rfl | rfl | rfl | rfl | rfl | rfl | rfl | rfl | rfl | rfl | rfl | rfl | rfl
      all_goals first | exact g0 | exact g1 | exact g2 | exact g3 | exact g4 | exact g5 | exact g6 | exact g7 | exact g8 | exact g9 | exact g10 | exact g11 | exact g12 | exact g13 | exact g14
    · rw [Array.getElem?_eq_none (by omega), Array.getElem?_eq_none (by simp [repCells]; omega)]
  · have : xs0 = er.map (.int .i64) := by rw [a2]; clear a2 a3 l0 s0 i0 g0 e0; induction er with | nil => rfl | cons a l ih => simp [ih]
    rw [← this]; exact s0
  · rw [show stands st = xs1 from b2.symm]; exact s1
  · intro n hn
    simp only [Rep.nums, List.mem_cons, List.not_mem_nil, or_false] at hn
    rcases hn with rfl | rfl | rfl | rfl | rfl | rfl | rfl | rfl <;> assumption
theorem bulk_le {L : List (DataW H)} {d : DataW H} (h : Rows.uptoSmall H L = true) (hd : d ∈ L) : bulk d ≤ 1048576 := Nat.le_trans (bulk_all hd) (of_decide_eq_true h)
theorem fit_of {a : Rep} {d : DataW H} (a3 : ∀ e ∈ a.errs, I64 e) (a4 : ∀ n ∈ a.nums, I64 n) (a5 : I64 a.facts) (a6 : ∀ s ∈ a.stands, s.OK ∧ s.name.length ≤ bulk d ∧ I64 s.height ∧ I64 s.phase) (hk : bulk d ≤ 1048576) (h1 : a.errs.length ≤ 200) (h2 : a.stands.length ≤ 100) : a.Fit :=
  ⟨a3, fun s hs => ⟨(a6 s hs).1, Nat.le_trans (a6 s hs).2.1 (by omega), (a6 s hs).2.2.1, (a6 s hs).2.2.2⟩, a4, a5, h1, h2⟩
end
end Go.Proofs.YtjjopoigbonjbaaGreatDoor.Ho
