/-
  Texts joined: ExA.
-/
import Derived.Test.YtmcbcoafodmbjaaGreatDoorJoin13
import Derived.Deep.AppendSrc
namespace Go.Proofs.YtmcbcoafodmbjaaGreatDoor.Ex
open Go Go.RowKit
set_option linter.unusedVariables false
set_option linter.unusedSimpArgs false
section
variable {C : Ctx} {B : Nat} {w0 : World} {callF : CallF} {e : Env} {st : St} {w : World} {s : Sl} {σ : Slots} {d : Option Tmp} {ty : TypeId} {pos : String} {after : Array Edge} {g : Option (Nat × Bool)}
theorem Rel.bind_ (h : Rel C B w0 e st w) {b : Nat} {c : Cel} (hg : st.heap.get b = some c) (hn : e b = none) {x : Bind} (hx : x.blk < w.heap.size) (hB : B ≤ x.blk) (hfree : ∀ b2 c2 x2, st.heap.get b2 = some c2 → c2.live = true → e b2 = some x2 → x2.blk ≠ x.blk)
    (hc : CR C (e.upd b x) x c w.heap[x.blk]?) : Rel C B w0 (e.upd b x) st w := by
  have hle : e.le (e.upd b x) := upd_le hn
  have at_ : ∀ b2 x2, e.upd b x b2 = some x2 → (b2 = b ∧ x2 = x) ∨ (b2 ≠ b ∧ e b2 = some x2) := by
    intro b2 x2 he
    unfold Env.upd at he
    split at he
    · rename_i e1; simp at he; exact .inl ⟨e1, he.symm⟩
    · rename_i e1; exact .inr ⟨e1, he⟩
  refine ⟨fun b2 c2 x2 hg2 he2 => ?_, fun b2 b3 c2 c3 x2 x3 hg2 hg3 hl2 hl3 he2 he3 hxx => ?_, fun b2 x2 he2 => ?_, h.fresh, fun b2 c2 x2 hg2 he2 hm2 => ?_, h.keep, h.base, fun g hg2 => hle _ _ (h.glob g hg2)⟩
  · rcases at_ _ _ he2 with ⟨rfl, rfl⟩ | ⟨hne, he2⟩
    · rw [hg] at hg2; simp at hg2; subst hg2; exact hc
    · exact (h.obj _ _ _ hg2 he2).mono hle
  · rcases at_ _ _ he2 with ⟨rfl, rfl⟩ | ⟨hne, he2n⟩
    · rcases at_ _ _ he3 with ⟨rfl, rfl⟩ | ⟨hne3, he3n⟩
      · rfl
      · exact absurd hxx.symm (hfree _ _ _ hg3 hl3 he3n)
    · rcases at_ _ _ he3 with ⟨rfl, rfl⟩ | ⟨hne3, he3n⟩
      · exact absurd hxx (hfree _ _ _ hg2 hl2 he2n)
      · exact h.inj _ _ _ _ _ _ hg2 hg3 hl2 hl3 he2n he3n hxx
  · rcases at_ _ _ he2 with ⟨rfl, rfl⟩ | ⟨hne, he2⟩
    · exact ⟨hx, _, hg⟩
    · exact h.dom _ _ he2
  · rcases at_ _ _ he2 with ⟨rfl, rfl⟩ | ⟨hne, he2⟩
    · exact hB
    · exact h.own _ _ _ hg2 he2 hm2
theorem readCells_at {w : World} {g : Nat} : ∀ (n o i : Nat) (l : List Value), readCells w ⟨g, o, none⟩ i n = some l → l.length = n ∧ ∀ (j : Nat) (u : Value), l[j]? = some u → w.cell? ⟨g, o + i + j, none⟩ = some u
  | 0, o, i, l, h => by
    have h' : some [] = some l := h
    cases h'
    exact ⟨rfl, fun j u h => by simp at h⟩
  | n + 1, o, i, l, h => by
    have h' : (match w.cell? ((⟨g, o, none⟩ : Addr).add i) with
      | some v => (readCells w ⟨g, o, none⟩ (i + 1) n).map (v :: ·)
      | none => none) = some l := h
    rw [add_none] at h'
    cases hc : w.cell? ⟨g, o + i, none⟩ with
    | none => rw [hc] at h'; cases h'
    | some v =>
      rw [hc] at h'
      simp only [Option.map_eq_some_iff] at h'
      obtain ⟨r, hr, rfl⟩ := h'
      obtain ⟨h1, h2⟩ := readCells_at n o (i + 1) r hr
      refine ⟨by simp [h1], fun j u hj => ?_⟩
      cases j with
      | zero => simp at hj; subst hj; exact hc
      | succ j =>
        have := h2 j u (by simpa using hj)
        rw [show o + i + (j + 1) = o + (i + 1) + j by omega]
        exact this
structure ASrc (P : Program) (t u ty el : TypeId) (i : TypeInfo) (x : Value) (n : Nat) (news : List Value) (w : World) : Prop where
  len : news.length = n * i.size
  nothing : n = 0 → ∀ base m c, m ≤ c → (Builtin.append_ #[t, u] ty #[.slice base m c, x]).run P w = .ok (.slice base m c) w
  room : ∀ b off m c, m + n ≤ c → canWrite w ⟨b, off + m * i.size, none⟩ 0 news.length = true → (Builtin.append_ #[t, u] ty #[.slice (some ⟨b, off, none⟩) m c, x]).run P w = .ok (.slice (some ⟨b, off, none⟩) (m + n) c) (storeSeg w ⟨b, off + m * i.size, none⟩ 0 news)
  grow : ∀ z base m c (olds : List Value), i.zero = some z → (Builtin.firstCells i.size m (.slice base m c)).run P w.drew = .ok olds.toArray w.drew → c < m + n → m + n ≤ 2 ^ 40 → i.bytes * (m + n) ≤ 2 ^ 40 →
    (Builtin.append_ #[t, u] ty #[.slice base m c, x]).run P w = .ok (.slice (some ⟨w.heap.size, 0, none⟩) (m + n) (grownCap w (m + n) c el)) (w.drew.alloc (.cells ((olds ++ news).toArray ++ Builtin.zeroCells z.cells (grownCap w (m + n) c el - (m + n))) el))
theorem asrc_of {P : Program} {t u ty el : TypeId} {i : TypeInfo} {x : Value} {n : Nat} {news : List Value} (ht : P.underlying t = some (.slice el)) (hi : P.info? el = some i) (hs : Src P i.size u x n news w) : ASrc P t u ty el i x n news w := by
  refine ⟨hs.newsLen, fun h0 base m c hle => ?_, fun b off m c hroom hcw => ?_, fun z base m c olds hz hold hlt hn hb => ?_⟩
  · subst h0
    have hnl := hs.newsLen
    rw [Nat.zero_mul] at hnl
    have : news = [] := List.eq_nil_of_length_eq_zero hnl
    subst this
    rcases hs.kind with ⟨e', hk⟩ | hk <;> cases base <;> simp [Builtin.append_, run_underlying ht, run_underlying hk, sizeOf, typeInfo, hi, hs.len, hle, hs.cells, storeCells]
  · have hst := run_storeSeg (P := P) news 0 w hcw hs.one
    rcases hs.kind with ⟨e', hk⟩ | hk <;> simp [Builtin.append_, run_underlying ht, run_underlying hk, sizeOf, typeInfo, hi, hs.len, hroom, hs.cells, Addr.add_lit, hst]
  · exact run_append_grow_src w t u ty el i z ht hi hz base m c olds hold x n news hs hlt (by omega) (by
      have h1 := nextslicecap_le hlt
      have h2 : Builtin.nextslicecap (m + n) c * i.bytes ≤ 2 * (m + n) * i.bytes := Nat.mul_le_mul_right _ h1
      have h3 : 2 * (m + n) * i.bytes = 2 * (i.bytes * (m + n)) := by rw [Nat.mul_assoc, Nat.mul_comm (m + n)]
      omega)
theorem asrc_zeros {P : Program} {t u ty el : TypeId} {i : TypeInfo} {k kx : IntKind} {n : Nat} {z : Value} (ht : P.underlying t = some (.slice el)) (hu : P.underlying u = some (.int k)) (hi : P.info? el = some i) (hz : i.zero = some z) (hzs : z.cells.size = i.size) (h1 : 0 < i.size) (hn : n ≤ 2 ^ 30) (hb : i.bytes * n ≤ 2 ^ 40) (hone : ∀ v ∈ repA z.cells.toList n, v.oneCell' = true) :
    ASrc P t u ty el i (.int kx (n : Int)) n (repA z.cells.toList n) w := by
  have hzc : Builtin.zeroCells z.cells n = ⟨repA z.cells.toList n⟩ := by
    unfold Builtin.zeroCells
    rw [rangeCells_eq]
  have hw : IntKind.i64.wrap (n : Int) = n := by rw [IntKind.wrap_i64]; omega
  have h48 : ¬ (281474976710656 < (n : Int) * (i.bytes : Int)) := by
    have : ((i.bytes * n : Nat) : Int) ≤ 1099511627776 := by omega
    rw [Int.natCast_mul, Int.mul_comm] at this
    omega
  have hneg : ¬ ((n : Int) < 0) := by omega
  have hlen : (repA z.cells.toList n).length = n * i.size := by rw [rep_len]; simp [hzs]
  have hap : ∀ W : World, ((if n * i.size = 0 then pure #[] else do pure (Builtin.zeroCells (← zeroValue el).cells n)) : Sem (Array Value)).run P W = .ok ⟨repA z.cells.toList n⟩ W := by
    intro W
    by_cases h0 : n * i.size = 0
    · rw [if_pos h0]
      rw [h0] at hlen
      rw [List.eq_nil_of_length_eq_zero hlen]
      rfl
    · rw [if_neg h0]
      simp [Sem.run_bind, r_zero hi hz, Result.andThen, hzc]
  refine ⟨hlen, fun h0 base m c hle => ?_, fun b off m c hroom hcw => ?_, fun z2 base m c olds hz2 hold hlt hn hb => ?_⟩
  · subst h0
    have h48' : ¬ (281474976710656 < (0 : Int) * (i.bytes : Int)) := by simp
    cases base <;> simp [Builtin.append_, run_underlying ht, run_underlying hu, sizeOf, typeInfo, hi, asInt, asIntOf, IntKind.wrap_i64, hle, storeCells]
  · have hst := run_storeSeg (P := P) (repA z.cells.toList n) 0 w hcw hone
    have := hap w
    simp [Builtin.append_, run_underlying ht, run_underlying hu, sizeOf, typeInfo, hi, asInt, asIntOf, hw, hneg, h48, hroom, Addr.add_lit]
    by_cases h0 : n * i.size = 0
    · have hr0 : repA z.cells.toList n = [] := List.eq_nil_of_length_eq_zero (by rw [hlen, h0])
      rw [if_pos h0, hr0]
      rfl
    · rw [if_neg h0]
      simp [r_zero hi hz, Result.andThen, hzc, hst]
  · rw [hz] at hz2
    cases hz2
    have hn0 : ¬ (m + n ≤ c) := by omega
    have h63' : ¬ (9223372036854775807 < ((m : Int) + (n : Int))) := by omega
    have h48' : ¬ (281474976710656 < Builtin.nextslicecap (m + n) c * i.bytes) := by
      have h1 := nextslicecap_le hlt
      have h2 : Builtin.nextslicecap (m + n) c * i.bytes ≤ 2 * (m + n) * i.bytes := Nat.mul_le_mul_right _ h1
      have h3 : 2 * (m + n) * i.bytes = 2 * (i.bytes * (m + n)) := by rw [Nat.mul_assoc, Nat.mul_comm (m + n)]
      omega
    simp [Builtin.append_, run_underlying ht, run_underlying hu, sizeOf, typeInfo, hi, asInt, asIntOf, hw, hneg, h48, hn0, h63', h48', Question.forced, hold, grownCap]
    by_cases h0 : n * i.size = 0
    · have hr0 : repA z.cells.toList n = [] := List.eq_nil_of_length_eq_zero (by rw [hlen, h0])
      rw [if_pos h0, hr0]
      simp [r_zero hi hz, Result.andThen, newRow]
    · rw [if_neg h0]
      simp [r_zero hi hz, Result.andThen, hzc, newRow]
      congr 2
      apply Array.ext'
      simp [List.append_assoc]
theorem news_ok (hR : Rel C B w0 e st w) (hC : C.OK) {t u el : TypeId} {i : TypeInfo} {x x' : Value} {n : Nat} {l : List Value} (ht : C.P.underlying t = some (.slice el)) (hi : C.P.info? el = some i) (h : newsA C u i x st = some (n, l)) (hone : n ≠ 0 → lall isOne l = true) (hx : VR e x x') : ∃ news, LR e l news ∧ ASrc C.P t u ty el i x' n news w := by
  suffices hs : (∃ news, LR e l news ∧ Src C.P i.size u x' n news w) ∨ ∃ news, LR e l news ∧ ASrc C.P t u ty el i x' n news w by
    rcases hs with ⟨news, h1, h2⟩ | h2
    · exact ⟨news, h1, asrc_of ht hi h2⟩
    · exact h2
  unfold newsA at h
  split at h
  · rename_i el2 hu
    have hk := und_ok hC hu
    refine .inl ?_
    split at h
    · cases h
      cases hx
      exact ⟨[], LR.nil, Src.ofNil w hk _⟩
    · cases h
      generalize hv : (Value.slice _ 0 0) = v at hx
      cases hx with
      | sl2 hb h0 =>
        exact ⟨[], LR.nil, Src.ofSlice w hk _ 0 _ [] (by simp) (fun j u h => by simp at h) (fun u h => by simp at h)⟩
      | _ => cases hv
    · rename_i _ b off n2 c
      split at h
      · rename_i l2 hl
        simp only [Option.some.injEq, Prod.mk.injEq] at h
        obtain ⟨rfl, rfl⟩ := h
        generalize hv : (Value.slice _ _ _) = v at hx
        cases hx with
        | sl hb =>
          cases hv
          rename_i xb
          obtain ⟨l', h1, h2, h3⟩ := hR.cells_ hl hb
          have hlen : l'.length = n2 * i.size := by rw [← h2.1, h3]
          refine ⟨l', h2, Src.ofSlice w hk _ n2 _ l' hlen (fun j u hj => ?_) fun u hu => ?_⟩
          · rw [add_none]
            have := (readCells_at (n2 * i.size) _ 0 l' h1).2 j u hj
            rw [Nat.add_zero] at this
            exact this
          · obtain ⟨j, hj⟩ := List.mem_iff_getElem?.1 hu
            have hjl : j < l2.length := by rw [h2.1]; exact (List.getElem?_eq_some_iff.1 hj).1
            have hn0 : n2 ≠ 0 := fun e1 => by subst e1; rw [Nat.zero_mul] at h3; omega
            have := hone hn0
            rw [lall_eq, List.all_eq_true] at this
            exact one_ok (h2.2 j _ u (List.getElem?_eq_getElem hjl) hj) (this _ (List.getElem_mem hjl))
        | _ => cases hv
      · cases h
    · cases h
  · rename_i kk hu
    have hk := und_ok hC hu
    refine .inr ?_
    split at h
    · rename_i kx m z hz
      cases hb : (Nat.ble m (2 ^ 30) && Nat.ble (i.bytes * m) (2 ^ 40) && Nat.beq (llen z.cells.toList) i.size && Nat.blt 0 i.size && lall nf z.cells.toList) with
      | false => rw [hb] at h; cases h
      | true =>
        rw [hb] at h
        simp only [cond_true, Option.some.injEq, Prod.mk.injEq] at h
        obtain ⟨rfl, rfl⟩ := h
        simp only [Bool.and_eq_true, llen_eq] at hb
        obtain ⟨⟨⟨⟨b1, b2⟩, b3⟩, b4⟩, b5⟩ := hb
        have hlr : LR e (repA z.cells.toList m) (repA z.cells.toList m) := lall_nf (by
          rw [lall_eq, List.all_eq_true] at b5 ⊢
          intro v hv
          rw [repA_get] at hv
          simp only [List.mem_flatten, List.mem_replicate] at hv
          obtain ⟨l2, ⟨_, rfl⟩, h2⟩ := hv
          exact b5 v h2)
        rw [hx.int_inv]
        refine ⟨_, hlr, asrc_zeros ht hk hi hz (by have := Nat.eq_of_beq_eq_true b3; simpa using this) (Nat.le_of_ble_eq_true b4) (Nat.le_of_ble_eq_true b1) (Nat.le_of_ble_eq_true b2) fun v hv => ?_⟩
        have hm0 : m ≠ 0 := fun e1 => by subst e1; cases hv
        have := hone hm0
        rw [lall_eq, List.all_eq_true] at this
        obtain ⟨j, hj⟩ := List.mem_iff_getElem?.1 hv
        exact one_ok (hlr.2 j v v hj hj) (this v hv)
    · cases h
  · rename_i hu
    have hk := und_ok hC hu
    refine .inl ?_
    split at h
    · rename_i str
      cases hb : Nat.beq i.size 1 with
      | false => rw [hb] at h; cases h
      | true =>
        rw [hb] at h
        cases h
        rw [hx.str_inv, Nat.eq_of_beq_eq_true hb]
        refine ⟨byteCells str, ?_, Src.ofString w hk str⟩
        rw [lmap_eq]
        unfold byteCells
        exact LR.map_ (fun b => .int _ _) _
    · cases h
  · cases h
theorem sized_inv {i : TypeInfo} {n : Nat} (h : sizedA i n = true) : ∃ z, i.zero = some z ∧ z.cells.size = i.size ∧ i.bytes * n ≤ 2 ^ 40 ∧ n ≤ 2 ^ 40 := by
  unfold sizedA at h
  split at h
  · rename_i z hz
    simp only [Bool.and_eq_true, llen_eq] at h
    exact ⟨z, hz, by have := Nat.eq_of_beq_eq_true h.1.1; simpa using this, Nat.le_of_ble_eq_true h.1.2, Nat.le_of_ble_eq_true h.2⟩
  · cases h
theorem appendE_of {t u : TypeId} {x y : Operand} {k : Kont} {v : Value} {W : World} (h : (Builtin.append_ #[t, u] ty #[ev σ x, ev σ y]).run C.P w = .ok v W) (hk : k v W) : resE C.P ((execOp (ev σ) ⟨d, .call ⟨.builtin .append, ⟨[x, y]⟩, ⟨[t, u]⟩⟩, ty, pos, after, g⟩).run C.P w) k := by
  refine resE_ends (opR_ends C.P ⟨d, .call ⟨.builtin .append, ⟨[x, y]⟩, ⟨[t, u]⟩⟩, ty, pos, after, g⟩ σ w) ?_
  show resE C.P (appendR C.P t u ty (ev σ x) (ev σ y) w) k
  unfold appendR
  rw [h]
  exact hk
theorem grow_ok {st1 : St} (hR1 : Rel C B w0 e st1 w) (hF : Fol st e st1 e) {t u el : TypeId} {x y : Operand} {i : TypeInfo} {base : Option Addr} {m c n : Nat} {olds olds' l news : List Value} (ht : C.P.underlying t = some (.slice el)) (hi : C.P.info? el = some i) (hsz : sizedA i (m + n) = true)
    (hx : ev σ x = .slice base m c) (hold : (Builtin.firstCells i.size m (.slice base m c)).run C.P w.drew = .ok olds'.toArray w.drew) (ho : LR e olds olds') (hol : olds'.length = m * i.size) (hl : LR e l news) (hs : ASrc C.P t u ty el i (ev σ y) n news w) (hlt : c < m + n) :
    resE C.P ((execOp (ev σ) ⟨d, .call ⟨.builtin .append, ⟨[x, y]⟩, ⟨[t, u]⟩⟩, ty, pos, after, g⟩).run C.P w) (PostA C B w0 st e (st1.new (.cells (olds ++ l) el .grown)) (.slice (some ⟨st1.next, 0, none⟩) (m + n) (m + n))) := by
  obtain ⟨z, hz, hzs, hb, hn⟩ := sized_inv hsz
  have hrun := hs.grow z base m c olds' hz hold hlt hn hb
  have hge : m + n ≤ grownCap w (m + n) c el := by
    unfold grownCap Question.cut
    exact Nat.le_add_right _ _
  have hcap : grownCap w (m + n) c el ≤ 9223372036854775807 := by
    unfold grownCap Question.cut
    have : w.tape w.drawn (.appendCap (m + n) c el) % (2 ^ 63 - (m + n)) < 2 ^ 63 - (m + n) := Nat.mod_lt _ (by omega)
    show m + n + w.tape w.drawn (.appendCap (m + n) c el) % (2 ^ 63 - (m + n)) ≤ _
    omega
  generalize grownCap w (m + n) c el = cap at hrun hge hcap
  rw [← hx] at hrun
  refine appendE_of hrun ?_
  have hdr := hR1.drew
  have hzl : (Builtin.zeroCells z.cells (cap - (m + n))).toList.length = (cap - (m + n)) * i.size := by simp [Builtin.zeroCells, hzs]
  have harr : (olds' ++ news).toArray ++ Builtin.zeroCells z.cells (cap - (m + n)) = ⟨(olds' ++ news) ++ (Builtin.zeroCells z.cells (cap - (m + n))).toList⟩ := by apply Array.ext'; simp
  rw [harr]
  have hLR := ho.append hl
  have hR2 := hdr.new_ (.cells (olds ++ l) el .grown) (.cells ⟨(olds' ++ news) ++ (Builtin.zeroCells z.cells (cap - (m + n))).toList⟩ el) 0 (cap - (m + n)) (.cells (fun h => by cases h) (fun j v hj => by
      obtain ⟨v', h1, h2⟩ := hLR.get hj
      refine ⟨v', ?_, h2.mono (upd_le hdr.next_none)⟩
      show ((olds' ++ news) ++ (Builtin.zeroCells z.cells (cap - (m + n))).toList)[j + 0]? = some v'
      rw [Nat.add_zero, List.getElem?_append_left (List.getElem?_eq_some_iff.1 h1).1]
      exact h1) (fun _ j _ hh => by simp at hh) (fun _ => ⟨i, hi, by
        have h1 : (olds ++ l).length = (olds' ++ news).length := hLR.1
        have h2 : ((olds' ++ news) ++ (Builtin.zeroCells z.cells (cap - (m + n))).toList).length = (olds' ++ news).length + (cap - (m + n)) * i.size := by rw [List.length_append, hzl]
        show (olds ++ l).length + 0 + (cap - (m + n)) * i.size ≤ _
        rw [h2, h1]; omega, by
        have h3 : (olds ++ l).length = m * i.size + n * i.size := by rw [List.length_append, ho.1, hol, hl.1, hs.len]
        show (olds ++ l).length / i.size + (cap - (m + n)) ≤ _
        rw [h3, ← Nat.add_mul]
        have h4 : (m + n) * i.size / i.size ≤ m + n := Nat.div_le_of_le_mul (by rw [Nat.mul_comm]; exact Nat.le_refl _)
        omega, fun j _ _ hh => by simp at hh⟩))
  refine ⟨_, hF.trans (Fol.new_ hdr _ _), hR2, ?_⟩
  have := VR.sl (o := 0) (n := m + n) (c := m + n) (upd_self e st1.next ⟨w.drew.heap.size, 0, cap - (m + n)⟩)
  simp only [Nat.add_zero] at this
  rw [show m + n + (cap - (m + n)) = cap by omega] at this
  exact this
theorem lou_append (hC : C.OK) (hR : Rel C B w0 e st w) {t u : TypeId} {x y : Operand} (hx : VR e (evA s x) (ev σ x)) (hy : VR e (evA s y) (ev σ y)) : Lou C B w0 callF e w σ s st ⟨d, .call ⟨.builtin .append, ⟨[x, y]⟩, ⟨[t, u]⟩⟩, ty, pos, after, g⟩ (.append t u x y) := by
  intro v st' _ h
  have h' : aappend C t u (evA s x) (evA s y) st = some (v, st') := h
  unfold aappend at h'
  split at h'
  · rename_i el ht
    have ht' := und_ok hC ht
    split at h'
    · rename_i i hi
      have hi' := hC.tys _ _ hi
      split at h'
      · cases h'
      · rename_i n l hnews
        cases hn : Nat.beq n 0 with
        | true =>
          rw [hn] at h'
          have hn0 := Nat.eq_of_beq_eq_true hn
          subst hn0
          simp only [cond_true] at h'
          split at h'
          · rename_i base m c hv
            cases hmc : Nat.ble m c with
            | false => rw [hmc] at h'; cases h'
            | true =>
              rw [hmc] at h'
              simp only [cond_true, Option.some.injEq, Prod.mk.injEq] at h'
              obtain ⟨rfl, rfl⟩ := h'
              obtain ⟨news, hl, hs⟩ := news_ok (ty := ty) hR hC ht' hi' hnews (fun h => absurd rfl h) hy
              have hnl := hs.len
              have hsl : ∃ base' c', ev σ x = .slice base' m c' ∧ m ≤ c' := by
                have hle := Nat.le_of_ble_eq_true hmc
                rw [hv] at hx
                generalize ev σ x = xv at hx
                cases hx with
                | nils => exact ⟨_, _, rfl, hle⟩
                | sl hb => exact ⟨_, _, rfl, by omega⟩
                | sl1 hb => exact ⟨_, _, rfl, hle⟩
                | sl2 hb _ => exact ⟨_, _, rfl, Nat.zero_le _⟩
              obtain ⟨base', c', hσ, hle⟩ := hsl
              refine appendE_of (v := ev σ x) (W := w) ?_ (post_same hR hx)
              rw [hσ]
              exact hs.nothing rfl _ _ _ hle
          · cases h'
        | false =>
          rw [hn] at h'
          simp only [cond_false] at h'
          cases hsz : (sizedA i (Nat.add (lenA (evA s x)) n) && lall isOne l) with
          | false => rw [hsz] at h'; cases h'
          | true =>
            rw [hsz] at h'
            simp only [cond_true] at h'
            simp only [Bool.and_eq_true] at hsz
            have hn0 : 0 < n := by
              rcases Nat.eq_zero_or_pos n with h0 | h0
              · subst h0; cases hn
              · exact h0
            obtain ⟨news, hl, hs⟩ := news_ok (ty := ty) hR hC ht' hi' hnews (fun _ => hsz.2) hy
            split at h'
            · rename_i hv
              rw [hv] at hx hsz
              have hsz1 : sizedA i (0 + n) = true := hsz.1
              cases h'
              generalize hσ : ev σ x = xv at hx
              cases hx with
              | nils =>
                have := grow_ok (C := C) (B := B) (w0 := w0) (d := d) (ty := ty) (pos := pos) (after := after) (g := g) hR (Fol.refl st e) ht' hi' hsz1 hσ (run_firstCells_none w.drew i.size 0 0 0) LR.nil (by simp) hl hs (by omega)
                simpa using this
            · rename_i b2 o2 hv
              rw [hv] at hx hsz
              have hsz1 : sizedA i (0 + n) = true := hsz.1
              cases h'
              generalize hσ : ev σ x = xv at hx
              cases hx with
              | sl1 hb =>
                have := grow_ok (C := C) (B := B) (w0 := w0) (d := d) (ty := ty) (pos := pos) (after := after) (g := g) hR (Fol.refl st e) ht' hi' hsz1 hσ (olds := []) (olds' := []) (by simp [Builtin.firstCells, loadCells, loadCellsFrom]) LR.nil (by simp) hl hs (by omega)
                simpa using this
            · rename_i b off m c hv
              rw [hv] at hx hsz
              have hsz1 : sizedA i (m + n) = true := hsz.1
              split at h'
              · rename_i cs e' k hg
                cases hw : (k.mayWrite && Nat.ble (off + m * i.size) (llen cs)) with
                | false => rw [hw] at h'; cases h'
                | true =>
                  rw [hw] at h'
                  simp only [cond_true] at h'
                  simp only [Bool.and_eq_true, llen_eq] at hw
                  have hwle := Nat.le_of_ble_eq_true hw.2
                  generalize hσ : ev σ x = xv at hx
                  cases hx with
                  | sl hb =>
                    rename_i xb
                    cases hmn : Nat.ble (m + n) c with
                    | true =>
                      rw [hmn] at h'
                      simp only [cond_true] at h'
                      cases hst : st.store b (off + m * i.size) l with
                      | none => rw [hst] at h'; cases h'
                      | some st1 =>
                        rw [hst] at h'
                        simp only [Option.some.injEq, Prod.mk.injEq] at h'
                        obtain ⟨rfl, rfl⟩ := h'
                        obtain ⟨hcw, hR'⟩ := hR.store_ hst hb hl
                        have hmn' := Nat.le_of_ble_eq_true hmn
                        have hoff : off + m * i.size + xb.shift = off + xb.shift + m * i.size := by omega
                        rw [hoff] at hcw hR'
                        refine appendE_of (by rw [hσ]; exact hs.room _ _ _ _ (by omega) hcw) ?_
                        obtain ⟨l2, t2, k2, _, _, _, rfl⟩ := store_spec hst
                        exact post_put hR' (VR.sl hb)
                    | false =>
                      rw [hmn] at h'
                      simp only [cond_false] at h'
                      have hmn' : c < m + n := by
                        rcases Nat.lt_or_ge c (m + n) with h9 | h9
                        · exact h9
                        · rw [Nat.ble_eq_true_of_le h9] at hmn; cases hmn
                      have hrd : st.cells? b off (m * i.size) = some (ltake (m * i.size) (ldrop off cs)) := by
                        unfold St.cells?
                        rw [hg]
                        simp only [llen_eq]
                        rw [Nat.ble_eq_true_of_le hwle]
                        rfl
                      obtain ⟨olds', ho1, ho2, ho3⟩ := hR.cells_ hrd hb
                      have hold : (Builtin.firstCells i.size m (.slice (some ⟨xb.blk, off + xb.shift, none⟩) m (c + xb.room))).run C.P w.drew = .ok olds'.toArray w.drew := by
                        have hlen : olds'.length = m * i.size := by rw [← ho2.1, ho3]
                        refine run_firstCells_some w.drew i.size m _ m _ olds' hlen fun j u hj => ?_
                        have := (readCells_at _ _ 0 olds' ho1).2 j u hj
                        rw [Nat.add_zero] at this
                        rw [add_none]
                        simpa using this
                      cases k with
                      | exact =>
                        have h9 : some (Value.slice (some ⟨st.next, 0, none⟩) (m + n) (m + n), st.new (.cells (lapp (ltake (m * i.size) (ldrop off cs)) l) el .grown)) = some (v, st') := h'
                        cases h9
                        rw [lapp_eq]
                        have hroom : xb.room = 0 := by
                          obtain ⟨l', fr, _, _, _, h0, _⟩ := hR.at_ hg hb
                          exact h0 rfl
                        exact grow_ok hR (Fol.refl st e) ht' hi' hsz1 hσ hold ho2 (by rw [← ho2.1, ho3]) hl hs (by omega)
                      | ro => cases hw.1
                      | dead => cases hw.1
                      | grown =>
                        have h9 : cond (Nat.beq (off + c * i.size) (llen cs) && Nat.beq el e' && Nat.ble m c) (grow (st.put b .dead) (lapp (ltake (m * i.size) (ldrop off cs)) l) el (m + n)) none = some (v, st') := h'
                        cases hcc : (Nat.beq (off + c * i.size) (llen cs) && Nat.beq el e' && Nat.ble m c) with
                        | false => rw [hcc] at h9; cases h9
                        | true =>
                          rw [hcc] at h9
                          simp only [Bool.and_eq_true, llen_eq] at hcc
                          have hend := Nat.eq_of_beq_eq_true hcc.1.1
                          have hee := Nat.eq_of_beq_eq_true hcc.1.2
                          have hmc := Nat.le_of_ble_eq_true hcc.2
                          subst hee
                          have h10 : some (Value.slice (some ⟨(st.put b .dead).next, 0, none⟩) (m + n) (m + n), (st.put b .dead).new (.cells (lapp (ltake (m * i.size) (ldrop off cs)) l) el .grown)) = some (v, st') := h9
                          cases h10
                          rw [lapp_eq]
                          have hRd : Rel C B w0 e (st.put b .dead) w := hR.turn hg rfl hw.1 hb rfl rfl rfl rfl (fun _ _ => rfl) (.dead _)
                          have hFd : Fol st e (st.put b .dead) e := Fol.put_ _ _ _ _
                          by_cases hfit : m + n ≤ c + xb.room
                          · obtain ⟨l', fr, hwb, hat, hun, _, hgr⟩ := hR.at_ hg hb
                            obtain ⟨i2, hi2, hlen2, hbd2, hfr2⟩ := hgr rfl
                            rw [hi'] at hi2
                            cases hi2
                            have hnl := hs.len
                            have hcs : (c + xb.room) * i.size = c * i.size + xb.room * i.size := Nat.add_mul _ _ _
                            have hmns : (m + n) * i.size = m * i.size + n * i.size := Nat.add_mul _ _ _
                            have hle2 : (m + n) * i.size ≤ (c + xb.room) * i.size := Nat.mul_le_mul_right _ hfit
                            have hmcs : m * i.size ≤ c * i.size := Nat.mul_le_mul_right _ hmc
                            have hcw : canWrite w ⟨xb.blk, off + xb.shift + m * i.size, none⟩ 0 news.length = true := by
                              refine canWrite_of _ _ 0 fun j hj => ?_
                              have hj2 : off + xb.shift + m * i.size + 0 + j < l'.length := by omega
                              refine ⟨?_, ?_⟩
                              · simp [World.cell?, hwb, List.getElem?_eq_getElem hj2]
                                omega
                              · simp only [World.frozen?, hwb]
                                by_cases h11 : off + xb.shift + m * i.size + 0 + j < cs.length + xb.shift
                                · have := hun rfl (off + m * i.size + j) (by omega)
                                  rw [show off + m * i.size + j + xb.shift = off + xb.shift + m * i.size + 0 + j by omega] at this
                                  simp only [Bool.and_eq_false_iff, decide_eq_false_iff_not]
                                  by_cases h12 : fr.1 ≤ off + xb.shift + m * i.size + 0 + j
                                  · exact .inr fun h13 => this ⟨h12, h13⟩
                                  · exact .inl h12
                                · have := hfr2 (off + xb.shift + m * i.size + 0 + j) (by omega) (by omega)
                                  simp only [Bool.and_eq_false_iff, decide_eq_false_iff_not]
                                  by_cases h12 : fr.1 ≤ off + xb.shift + m * i.size + 0 + j
                                  · exact .inr fun h13 => this ⟨h12, h13⟩
                                  · exact .inl h12
                            refine appendE_of (by rw [hσ]; exact hs.room _ _ _ _ hfit hcw) ?_
                            obtain ⟨l2, q1, q2, q3⟩ := seg_heap (o := off + xb.shift + m * i.size) news 0 w l' hwb
                            obtain ⟨r1, r2, r3, r4⟩ := seg_rest (g := xb.blk) (o := off + xb.shift + m * i.size) news 0 w
                            have hRw : Rel C B w0 e (st.put b .dead) (storeSeg w ⟨xb.blk, off + xb.shift + m * i.size, none⟩ 0 news) :=
                              hR.turn hg rfl hw.1 hb r2 r3 r4 r1 (fun k hk => seg_other news 0 w k hk) (.dead _)
                            have hB := hR.own b _ xb hg hb hw.1
                            have hlt := (hR.dom _ _ hb).1
                            have hself : ((st.put b .dead).new (.cells (ltake (m * i.size) (ldrop off cs) ++ l) el .grown)).heap.get (st.put b .dead).next = some (.cells (ltake (m * i.size) (ldrop off cs) ++ l) el .grown) := by simp [St.new, get_set]
                            have hlt2 : xb.blk < (storeSeg w ⟨xb.blk, off + xb.shift + m * i.size, none⟩ 0 news).heap.size := by rw [r1]; exact hlt
                            have hLR := (ho2.append hl)
                            have hol : (ltake (m * i.size) (ldrop off cs)).length = m * i.size := ho3
                            have holds : olds'.length = m * i.size := by rw [← ho2.1]; exact hol
                            have hb2 := (hRw.ghost (.cells (ltake (m * i.size) (ldrop off cs) ++ l) el .grown)).bind_ (x := ⟨xb.blk, off + xb.shift, c + xb.room - (m + n)⟩) hself hRw.next_none hlt2 hB (fun b2 c2 x2 hg2 hl2 he2 hx2 => by
                                simp only [St.new, St.put, get_set] at hg2
                                split at hg2
                                · rename_i e1
                                  subst e1
                                  have := hRw.next_none
                                  rw [show (st.put b .dead).next = st.next from rfl] at this
                                  rw [this] at he2; cases he2
                                · split at hg2
                                  · cases hg2; cases hl2
                                  · rename_i e2
                                    exact e2 (hR.inj _ _ _ _ _ _ hg2 hg hl2 rfl he2 hb hx2)) (by
                                rw [q1]
                                have hrm : (c + xb.room - (m + n)) * i.size = (c + xb.room) * i.size - (m + n) * i.size := Nat.sub_mul _ _ _
                                have hnll : l.length = n * i.size := by rw [hl.1]; exact hnl
                                refine .cells (fun h => by cases h) (fun j v hj => ?_) (fun _ j hj hh => ?_) (fun _ => ⟨i, hi', ?_, ?_, fun j hj1 hj2 hh => ?_⟩)
                                · show ∃ v', l2[j + (off + xb.shift)]? = some v' ∧ _
                                  obtain ⟨v', v1, v2⟩ := hLR.get hj
                                  refine ⟨v', ?_, v2.mono (upd_le hRw.next_none)⟩
                                  rw [q3]
                                  rcases Nat.lt_or_ge j (m * i.size) with h11 | h11
                                  · rw [if_neg (by omega)]
                                    rw [List.getElem?_append_left (by omega)] at v1
                                    have h14 := (readCells_at _ _ 0 olds' ho1).2 j v' v1
                                    simp only [World.cell?, hwb] at h14
                                    simp at h14
                                    rw [show j + (off + xb.shift) = off + xb.shift + j by omega]
                                    exact h14
                                  · rw [List.getElem?_append_right (by omega)] at v1
                                    have h12 := (List.getElem?_eq_some_iff.1 v1).1
                                    rw [if_pos (by omega), show j + (off + xb.shift) - (off + xb.shift + m * i.size + 0) = j - olds'.length by omega]
                                    exact v1
                                · have hj' : j < m * i.size + n * i.size := by rw [List.length_append, hol, hnll] at hj; exact hj
                                  by_cases h11 : j + (off + xb.shift) < cs.length + xb.shift
                                  · have := hun rfl (j + off) (by omega)
                                    rw [show j + off + xb.shift = j + (off + xb.shift) by omega] at this
                                    exact this hh
                                  · exact hfr2 (j + (off + xb.shift)) (by omega) (by omega) hh
                                · show (ltake (m * i.size) (ldrop off cs) ++ l).length + (off + xb.shift) + (c + xb.room - (m + n)) * i.size ≤ l2.length
                                  rw [q2, List.length_append, hol, hnll, hrm]
                                  omega
                                · show (ltake (m * i.size) (ldrop off cs) ++ l).length / i.size + (c + xb.room - (m + n)) ≤ _
                                  rw [List.length_append, hol, hnll, ← Nat.add_mul]
                                  rcases Nat.eq_zero_or_pos i.size with hz0 | hz0
                                  · rw [hz0] at hbd2 ⊢
                                    simp only [Nat.div_zero, Nat.zero_add] at hbd2 ⊢
                                    omega
                                  · rw [Nat.mul_div_cancel _ hz0]
                                    have h15 : c ≤ cs.length / i.size := (Nat.le_div_iff_mul_le hz0).2 (by omega)
                                    omega
                                · have hj1' : m * i.size + n * i.size + (off + xb.shift) ≤ j := by
                                    have : (ltake (m * i.size) (ldrop off cs) ++ l).length + (off + xb.shift) ≤ j := hj1
                                    rw [List.length_append, hol, hnll] at this
                                    exact this
                                  have hj2' : j < m * i.size + n * i.size + (off + xb.shift) + ((c + xb.room) * i.size - (m + n) * i.size) := by
                                    have : j < (ltake (m * i.size) (ldrop off cs) ++ l).length + (off + xb.shift) + (c + xb.room - (m + n)) * i.size := hj2
                                    rw [List.length_append, hol, hnll, hrm] at this
                                    exact this
                                  by_cases h11 : j < cs.length + xb.shift
                                  · have := hun rfl (j - xb.shift) (by omega)
                                    rw [show j - xb.shift + xb.shift = j by omega] at this
                                    exact this hh
                                  · exact hfr2 j (by omega) (by omega) hh)
                            refine ⟨_, hFd.trans (Fol.new_ hRw _ _), hb2, ?_⟩
                            have := VR.sl (o := 0) (n := m + n) (c := m + n) (upd_self e (st.put b .dead).next ⟨xb.blk, off + xb.shift, c + xb.room - (m + n)⟩)
                            simp only [Nat.zero_add] at this
                            rw [show m + n + (c + xb.room - (m + n)) = c + xb.room by omega] at this
                            exact this
                          · exact grow_ok hRd hFd ht' hi' hsz1 hσ hold ho2 (by rw [← ho2.1, ho3]) hl hs (by omega)
              · cases h'
            · cases h'
    · cases h'
  · cases h'
end
end Go.Proofs.YtmcbcoafodmbjaaGreatDoor.Ex
