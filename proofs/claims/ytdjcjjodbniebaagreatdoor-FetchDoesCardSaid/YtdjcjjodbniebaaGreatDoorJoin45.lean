/-
  Texts joined: FOps, FSmallO, FPick.
-/
import Derived.Test.YtdjcjjodbniebaaGreatDoorJoin44
namespace Go.Proofs.YtdjcjjodbniebaaGreatDoor
open Go.RowKit Go.ChangeShapes Go.WideShapes
set_option linter.unusedVariables false
set_option linter.unusedSimpArgs false
set_option maxRecDepth 10000
structure Op1 where
  d : Int
  a : UInt8
  b : UInt8
  want : Bool
  fr : List Int
  many : UInt8
  bad : UInt8
  raw : List UInt8
  fv : Value
  rv : Value
def opA (o : Op1) : Array Value := opV o.d o.a.toNat o.b.toNat o.want o.fv o.many o.bad o.rv
def opc (o : Op1) : List Value := (opA o).toList
theorem opc_len (o : Op1) : (opc o).length = 8 := rfl
def OpIn (w : World) (o : Op1) : Prop := RdB w o.rv o.raw ∧ Sl w 1 o.fv o.fr.length (intsK .i64 o.fr)
theorem OpIn.keep {w w' : World} {o : Op1} (h : OpIn w o) (hk : Below w.heap.size w w') : OpIn w' o := by
  refine ⟨h.1.keep hk, ?_⟩
  obtain ⟨A, c, e, hr, h2⟩ := h.2
  exact ⟨A, c, e, hr.keep hk, h2⟩
section
variable {H : Type} {enc : TypeId × Value → H} {P : Program}
theorem mapM_each {α β : Type} {f : α → Option β} : ∀ (L : List α) (ys : List β), L.mapM f = some ys → ∀ x ∈ L, ∃ y, f x = some y
  | [], ys, _, x, hx => by cases hx
  | z :: L, ys, h, x, hx => by
    rw [List.mapM_cons] at h
    simp only [bind, Option.bind_eq_some_iff, pure, Option.some.injEq] at h
    obtain ⟨y, hy, ys', hys, rfl⟩ := h
    rcases List.mem_cons.1 hx with rfl | hx
    · exact ⟨y, hy⟩
    · exact mapM_each L ys' hys x hx
theorem trod_part {t : TypeId} {L : List (Nat × Option TypeDesc × Nat)} (hL : structOf P t = some L) {W : World} {base fuel : Nat} {sp : Nat → Bool} {held : Bool} {cs : List Value} {y : DataW H × List MemPlace}
    (hf : DataW.trod enc P W base sp held fuel t cs = some y) : cs.length = P.cellsOf t ∧ ∀ (o : Nat) (d : TypeDesc) (m : Nat), (o, some d, m) ∈ L → ∃ ft fuel y, P.underlying ft = some d ∧ P.cellsOf ft = m ∧ DataW.trod enc P W base sp held fuel ft ((cs.drop o).take m) = some y := by
  unfold structOf at hL
  split at hL
  · rename_i fs ht
    injection hL with hL
    subst hL
    cases fuel with
    | zero => simp [DataW.trod] at hf
    | succ k =>
      unfold DataW.trod at hf
      simp only [ht] at hf
      split at hf
      · rename_i hlen
        simp only [Option.map_eq_some_iff] at hf
        obtain ⟨ys, hy, e1⟩ := hf
        refine ⟨hlen, fun o d m hm => ?_⟩
        obtain ⟨f, hfm, e⟩ := List.mem_map.1 hm
        simp only [Prod.mk.injEq] at e
        obtain ⟨e1, e2, e3⟩ := e
        obtain ⟨z, hz⟩ := mapM_each _ _ hy f hfm
        subst e1; subst e3
        exact ⟨f.type, k, z, e2, rfl, hz⟩
      · cases hf
  · cases hL
theorem one_at {cs : List Value} {o : Nat} {v : Value} (h : (cs.drop o).take 1 = [v]) : cs[o]? = some v := by
  have := congrArg (·[0]?) h
  simpa [List.getElem?_take, List.getElem?_drop] using this
end
theorem u8_ex {n : Int} (h : (Lit.int IntKind.u8 n).wf = true) : ∃ k : UInt8, n = (k.toNat : Int) := by
  have h1 : 0 ≤ n ∧ n ≤ 255 := by
    simp [Lit.wf] at h
    exact h
  exact ⟨UInt8.ofNat n.toNat, by simp; omega⟩
theorem rdB_of_sl {w : World} {v : Value} {l : List UInt8} (h : Sl w 1 v l.length (l.map fun c => Value.int .u8 c.toNat)) : RdB w v l := by
  obtain ⟨A, c, e, hr, h0, h1, h2⟩ := h
  exact ⟨A, c, e, hr, fun h => (h0 h).1, h1, h2⟩
theorem open_ops {H : Type} {enc : TypeId × Value → H} {W : World} {base b0 : Nat} {sp : Nat → Bool} {held : Bool} {v : Value} {d : DataW H} {ps : List MemPlace} (hval : Value.okWide Tryz.prog W .any base 57 v)
    (hd : DataW.Trod enc Tryz.prog W b0 sp held 57 v d ps) : ∃ l : List Op1, Sl W 8 v l.length (l.flatMap opc) ∧ ∀ o ∈ l, OpIn W o := by
  have hc : Tryz.prog.cellsOf 52 = 8 := by kernel_rfl
  have c3 : Tryz.prog.cellsOf 3 = 1 := by kernel_rfl
  have c5 : Tryz.prog.cellsOf 5 = 1 := by kernel_rfl
  obtain ⟨n, xs, hs, hi⟩ := open_sl (P := Tryz.prog) Tryz.underlying57 (by rw [hc]; omega) hval hd
  rw [hc] at hs hi
  have hlen : xs.length = n * 8 := by obtain ⟨A, c, _, h, _⟩ := hs; exact h.len
  obtain ⟨l, h1, h2, h3⟩ := list_of_elems (m := 8) opc (OpIn W) n xs hlen (fun i hin => by
    obtain ⟨fuel, y, hy⟩ := hi i hin
    obtain ⟨hl, hp⟩ := trod_part (L := [(0, some (.int .i64), 1), (1, some (.int .u8), 1), (2, some (.int .u8), 1), (3, some .bool, 1), (4, some (.slice 3), 1), (5, some (.int .u8), 1), (6, some (.int .u8), 1), (7, some (.slice 5), 1)]) (by kernel_rfl) hy
    rw [hc] at hl
    generalize (xs.drop (i * 8)).take 8 = cs at *
    obtain ⟨_, _, _, g0, -, t0⟩ := hp 0 (.int .i64) 1 (by simp)
    obtain ⟨_, _, _, g1, -, t1⟩ := hp 1 (.int .u8) 1 (by simp)
    obtain ⟨_, _, _, g2, -, t2⟩ := hp 2 (.int .u8) 1 (by simp)
    obtain ⟨_, _, _, g3, -, t3⟩ := hp 3 .bool 1 (by simp)
    obtain ⟨_, _, _, g4, -, t4⟩ := hp 4 (.slice 3) 1 (by simp)
    obtain ⟨_, _, _, g5, -, t5⟩ := hp 5 (.int .u8) 1 (by simp)
    obtain ⟨_, _, _, g6, -, t6⟩ := hp 6 (.int .u8) 1 (by simp)
    obtain ⟨_, _, _, g7, -, t7⟩ := hp 7 (.slice 5) 1 (by simp)
    obtain ⟨d0, e0, -, w0⟩ := DataW.trod_int g0 t0
    obtain ⟨d1, e1, -, w1⟩ := DataW.trod_int g1 t1
    obtain ⟨d2, e2, -, w2⟩ := DataW.trod_int g2 t2
    obtain ⟨d3, e3, -⟩ := DataW.trod_bool g3 t3
    obtain ⟨u4, n4, xs4, e4, s4, i4⟩ := open_sl0 g4 (by rw [c3]; omega) t4
    obtain ⟨d5, e5, -, w5⟩ := DataW.trod_int g5 t5
    obtain ⟨d6, e6, -, w6⟩ := DataW.trod_int g6 t6
    obtain ⟨u7, n7, xs7, e7, s7, i7⟩ := open_sl0 g7 (by rw [c5]; omega) t7
    rw [c3] at s4 i4
    rw [c5] at s7 i7
    obtain ⟨l4, s4, -⟩ := ints_of Tryz.underlying3 s4 i4
    obtain ⟨l7, s7, w7⟩ := ints_of Tryz.underlying5 s7 i7
    obtain ⟨r7, s7⟩ := bytes_of s7 w7
    obtain ⟨k1, rfl⟩ := u8_ex w1
    obtain ⟨k2, rfl⟩ := u8_ex w2
    obtain ⟨k5, rfl⟩ := u8_ex w5
    obtain ⟨k6, rfl⟩ := u8_ex w6
    have a0 := one_at e0
    have a1 := one_at e1
    have a2 := one_at e2
    have a3 := one_at e3
    have a4 := one_at e4
    have a5 := one_at e5
    have a6 := one_at e6
    have a7 := one_at e7
    refine ⟨⟨d0, k1, k2, d3, l4, k5, k6, r7, u4, u7⟩, ?_, rdB_of_sl s7, s4⟩
    match cs, hl with
    | [x0, x1, x2, x3, x4, x5, x6, x7], _ =>
      simp at a0 a1 a2 a3 a4 a5 a6 a7
      rw [a0, a1, a2, a3, a4, a5, a6, a7]
      rfl)
  subst h1
  exact ⟨l, by rw [h2] at hs; exact hs, h3⟩
end Go.Proofs.YtdjcjjodbniebaaGreatDoor
namespace Go.Proofs.YtdjcjjodbniebaaGreatDoor
open Go.RowKit
set_option linter.unusedVariables false
set_option linter.unusedSimpArgs false
set_option maxRecDepth 10000
theorem flat_take : ∀ (l : List Op1) (m : Nat), (l.flatMap opc).take (m * 8) = (l.take m).flatMap opc
  | [], m => by simp
  | o :: l, 0 => by simp
  | o :: l, m + 1 => by
    show (opc o ++ l.flatMap opc).take ((m + 1) * 8) = opc o ++ (l.take m).flatMap opc
    rw [List.take_append, opc_len, List.take_of_length_le (by rw [opc_len]; omega), show (m + 1) * 8 - 8 = m * 8 by omega, flat_take l m]
theorem ops_at : ∀ (l : List Op1) (i : Nat) (o : Op1), l[i]? = some o → ∀ (j : Nat) (v : Value), (opc o)[j]? = some v → (l.flatMap opc)[i * 8 + j]? = some v
  | [], i, o, h, _, _, _ => by simp at h
  | y :: l, 0, o, h, j, v, hj => by
    simp at h
    subst h
    show (opc y ++ l.flatMap opc)[0 * 8 + j]? = some v
    rw [Nat.zero_mul, Nat.zero_add, List.getElem?_append_left (List.getElem?_eq_some_iff.1 hj).1]
    exact hj
  | y :: l, i + 1, o, h, j, v, hj => by
    show (opc y ++ l.flatMap opc)[(i + 1) * 8 + j]? = some v
    rw [List.getElem?_append_right (by rw [opc_len]; omega), opc_len, show (i + 1) * 8 + j - 8 = i * 8 + j by omega]
    exact ops_at l i o (by simpa using h) j v hj
theorem Sl.take_ {w : World} {A : Option Addr} {c : Nat} {l : List Op1} (h : Sl w 8 (.slice A l.length c) l.length (l.flatMap opc)) (m : Nat) : Sl w 8 (.slice A (l.take m).length c) (l.take m).length ((l.take m).flatMap opc) := by
  obtain ⟨A', c', e, hr, h0, h1, h2⟩ := h
  injection e with e1 e2 e3
  subst e1 e3
  have hle : (l.take m).length ≤ l.length := by rw [List.length_take]; omega
  refine ⟨A, c, rfl, ⟨?_, fun hp => ?_⟩, fun hA => ⟨by have := (h0 hA).1; omega, (h0 hA).2⟩, by omega, h2⟩
  · rw [← flat_take, List.length_take, hr.len, List.length_take]
    omega
  · obtain ⟨g, o, e, hg, hc⟩ := hr.cells (by omega)
    refine ⟨g, o, e, hg, fun j v hj => hc j v ?_⟩
    rw [← flat_take, List.getElem?_take] at hj
    split at hj
    · exact hj
    · cases hj
theorem rd_op {w : World} {A : Option Addr} {c : Nat} {l : List Op1} (h : Sl w 8 (.slice A l.length c) l.length (l.flatMap opc)) {i : Nat} (hi : i < l.length) : ∃ b o, A = some ⟨b, o, none⟩ ∧ b < w.heap.size ∧ ∀ W, Below w.heap.size w W → readCells W ⟨b, o + i * 8, none⟩ 0 8 = some (opc l[i]) := by
  obtain ⟨A', c', e, hr, -⟩ := h
  injection e with e1 e2 e3
  subst e1 e3
  obtain ⟨b, o, rfl, hb, hc⟩ := hr.cells (by omega)
  refine ⟨b, o, rfl, hb, fun W hW => readCells_cells 8 0 _ (opc_len _) fun j v hj => ?_⟩
  rw [show o + i * 8 + 0 + j = o + (i * 8 + j) by omega]
  exact (hW.cell (p := ⟨b, o + (i * 8 + j), none⟩) hb).trans (hc _ _ (ops_at l i _ (List.getElem?_eq_getElem hi) j v hj))
def zeroO : List Value := [.int .i64 0, .int .u8 0, .int .u8 0, .bool false, .slice none 0 0, .int .u8 0, .int .u8 0, .slice none 0 0]
def OpSmall (o : Op1) : Prop := o.fr.length ≤ 50 ∧ o.raw.length ≤ 300
set_option maxHeartbeats 3200000 in
theorem small_any {w : World} {v : Value} {l : List Op1} (hs : Sl w 8 v l.length (l.flatMap opc)) (ho : ∀ o ∈ l, OpIn w o) :
    callE Tryz.prog 25 #[v] w fun r w' => ((∃ A c, (∀ o ∈ l.take 40, OpSmall o) ∧ r = .tuple #[.slice A (l.take 40).length c, .bool true] ∧ Sl w 8 (.slice A (l.take 40).length c) (l.take 40).length ((l.take 40).flatMap opc)) ∨ r = .tuple #[.slice none 0 0, .bool false]) ∧ Below w.heap.size w w' := by
  obtain ⟨A, c, rfl, hr, h0, h1, h2⟩ := id hs
  have ht := Sl.take_ hs 40
  have hoT : ∀ o ∈ l.take 40, OpIn w o := fun o h => ho o (List.mem_of_mem_take h)
  have hmin : min (l.length : Int) 40 = ((l.take 40).length : Int) := by rw [List.length_take]; omega
  have hle : (l.take 40).length ≤ l.length := by rw [List.length_take]; omega
  have hlec : ((l.take 40).length : Int) ≤ c := by omega
  have hlec' : (l.take 40).length ≤ c := by omega
  have h40 : (l.take 40).length ≤ 40 := by rw [List.length_take]; omega
  generalize l.take 40 = L at *
  refine calls_E Tryz.func25 rfl rfl rfl (Nat.le_of_ble_eq_true rfl) ?_
  simp [go_sem, IntWalk.iteOmega, IntWalk.toNatUp, hmin, hlec, hlec']
  refine W_loop (fun st wr => ∃ i : Nat, i ≤ L.length ∧ st 0 = .slice A L.length c ∧ st 11 = .slice A L.length c ∧ st 12 = .int .i64 L.length ∧ st 13 = .int .i64 i ∧ (∀ m (hm : m < L.length), m < i → OpSmall L[m]) ∧ Below w.heap.size w wr) (fun st _ => L.length - (intOf (st 13)).toNat) ?_ ?_
  · exact ⟨0, by omega, by simp [go_sem], by simp [go_sem], by simp [go_sem], by simp [go_sem], fun m hm h => by omega, Below.refl _ _⟩
  · clear hmin hlec hlec' hle h0 h1 h2
    rintro st wr ⟨i, hi, e0, e11, e12, e13, hsm, hB⟩
    by_cases hlt : i < L.length
    · have hlt' : (i : Int) < L.length := by omega
      obtain ⟨b, o, rfl, hb, hat⟩ := rd_op ht hlt
      obtain ⟨fA, fc, efv, -, -, -⟩ := (hoT _ (List.getElem_mem hlt)).2
      obtain ⟨rA, rc, erv, -, -, -⟩ := (hoT _ (List.getElem_mem hlt)).1
      have hstep : OpSmall L[i] → ∀ m (hm : m < L.length), m < i + 1 → OpSmall L[m] := fun h m hm hmi => by
        by_cases hme : m = i
        · subst hme; exact h
        · exact hsm m hm (by omega)
      have x1 := hat wr hB
      have x1a : ∀ q, readCells (wr.alloc q) ⟨b, o + i * 8, none⟩ 0 8 = some (opc L[i]) := fun q => hat _ (hB.trans ((ext_alloc wr q).mono hB.size))
      have hst : L[i].fr.length ≤ 50 → L[i].raw.length ≤ 300 → OpSmall L[i] := fun h1 h2 => ⟨h1, h2⟩
      generalize L[i] = ob at *
      have l8 : (opc ob).length = 8 := rfl
      have h1c : allOne (opc ob) = true := by
        unfold opc opA opV
        rw [efv, erv]
        rfl
      have y2 : ∀ (k : Array Value) (t : TypeId), k.size = 8 → canWrite (wr.alloc (.cells k t)) ⟨wr.heap.size, 0, none⟩ 0 8 = true := fun k t hk => canWrite_all (Blk.self_ rfl) 8 hk
      have y3 : ∀ (k : Array Value) (t : TypeId) (l : List Value), k.size = 8 → l.length = 8 → storeSeg (wr.alloc (.cells k t)) ⟨wr.heap.size, 0, none⟩ 0 l = (wr.alloc (.cells k t)).setRow wr.heap.size l.toArray := fun k t l hk hl => storeSeg_all (Blk.self_ rfl) l (by omega)
      have hX : ∀ (k : Array Value) (t : TypeId), Blk ((wr.alloc (.cells k t)).setRow wr.heap.size (opc ob).toArray) wr.heap.size t (opc ob).toArray := fun k t => Blk_setRow (Blk.self_ rfl)
      have x4 : ∀ (k : Array Value) (t : TypeId), ((wr.alloc (.cells k t)).setRow wr.heap.size (opc ob).toArray).cell? ⟨wr.heap.size, 4, none⟩ = some (.slice fA ob.fr.length fc) := fun k t => by rw [(hX k t).cell, ← efv]; rfl
      have x7 : ∀ (k : Array Value) (t : TypeId), ((wr.alloc (.cells k t)).setRow wr.heap.size (opc ob).toArray).cell? ⟨wr.heap.size, 7, none⟩ = some (.slice rA ob.raw.length rc) := fun k t => by rw [(hX k t).cell, ← erv]; rfl
      have kS : ∀ (k : Array Value) (t : TypeId), Below w.heap.size w ((wr.alloc (.cells k t)).setRow wr.heap.size (opc ob).toArray) := fun k t => hB.trans ((below_setRow (ext_alloc wr _) (Nat.le_refl _) _).mono hB.size)
      by_cases h50 : 50 < ob.fr.length
      · have h50' : (50 : Int) < ob.fr.length := by omega
        simp [go_sem, IntWalk.iteOmega, IntWalk.toNatUp, e0, e11, e12, e13, hlt, hlt', x1, x1a, l8, h1c, y2, y3, x4, x7, h50, h50']
        exact kS _ _
      · have h50' : ¬ (50 : Int) < ob.fr.length := by omega
        by_cases h300 : 300 < ob.raw.length
        · have h300' : (300 : Int) < ob.raw.length := by omega
          simp [go_sem, IntWalk.iteOmega, IntWalk.toNatUp, e0, e11, e12, e13, hlt, hlt', x1, x1a, l8, h1c, y2, y3, x4, x7, h50, h50', h300, h300']
          exact kS _ _
        · have h300' : ¬ (300 : Int) < ob.raw.length := by omega
          simp [go_sem, IntWalk.iteOmega, IntWalk.toNatUp, e0, e11, e12, e13, hlt, hlt', x1, x1a, l8, h1c, y2, y3, x4, x7, h50, h50', h300, h300']
          refine roundEnd.mk ⟨i + 1, by omega, by simp [go_sem, e0], by simp [go_sem, e11], by simp [go_sem, e12], by simp [go_sem], hstep (hst (by omega) (by omega)), kS _ _⟩ ?_
          simp [go_sem, intOf, e13]; omega
    · have hlt' : ¬ (i : Int) < L.length := by omega
      simp [go_sem, IntWalk.iteOmega, IntWalk.toNatUp, e0, e11, e12, e13, hlt']
      exact ⟨⟨fun o hoo => by
        obtain ⟨m, hm, rfl⟩ := List.getElem_of_mem hoo
        exact hsm m hm (by omega), A, c, ⟨rfl, rfl⟩, ht⟩, hB⟩
def three {α : Type} (a b c : α) : Nat → α
  | 0 => a
  | 1 => b
  | _ => c
set_option maxHeartbeats 3200000 in
theorem pick_any {w : World} {a b c : Value} {A B C : List Bk} (ha : BksR w a A) (hb : BksR w b B) (hc : BksR w c C) (hA : 0 < A.length ∧ A.length ≤ 100000) (hB : 0 < B.length ∧ B.length ≤ 100000) (hC : 0 < C.length ∧ C.length ≤ 100000) (o : Op1) :
    callE Tryz.prog 27 #[.agg #[a, b, c], .agg (opA o)] w fun r w' => r = .tuple #[three a b c (o.b.toNat % 3), .int .i64 ((o.a.toNat % (three A B C (o.b.toNat % 3)).length : Nat) : Int)] ∧ Below w.heap.size w w' := by
  obtain ⟨i, hi⟩ : ∃ i, i = o.b.toNat % 3 := ⟨_, rfl⟩
  rw [← hi]
  have hi3 : i < 3 := by omega
  have hX : BksR w (three a b c i) (three A B C i) ∧ 0 < (three A B C i).length ∧ (three A B C i).length ≤ 100000 := by
    match i, hi3 with
    | 0, _ => exact ⟨ha, hA⟩
    | 1, _ => exact ⟨hb, hB⟩
    | 2, _ => exact ⟨hc, hC⟩
  obtain ⟨hX, hX0, hX1⟩ := hX
  have hcell : (#[a, b, c] : Array Value)[i]? = some (three a b c i) := by
    match i, hi3 with
    | 0, _ => rfl
    | 1, _ => rfl
    | 2, _ => rfl
  generalize three a b c i = x at *
  generalize three A B C i = X at *
  obtain ⟨xA, xc, -, rfl, -⟩ := id hX
  obtain ⟨m, hm⟩ : ∃ m, m = o.a.toNat % X.length := ⟨_, rfl⟩
  rw [← hm]
  have v1 : (o.b.toNat : Int).tmod 3 = (i : Int) := by rw [hi, Int.tmod_eq_emod_of_nonneg (by omega)]; omega
  have v2 : IntKind.i64.wrap (o.a.toNat : Int) = (o.a.toNat : Int) := by rw [wrap_i64_if, if_pos (by have := o.a.toNat_lt; omega)]
  have v3 : (o.a.toNat : Int).tmod (X.length : Int) = (m : Int) := by
    rw [Int.tmod_eq_emod_of_nonneg (by omega), hm]
    exact (Int.natCast_emod _ _).symm
  have v4 : IntKind.i64.wrap (m : Int) = (m : Int) := by
    have := Nat.mod_lt o.a.toNat hX0
    rw [wrap_i64_if, if_pos (by omega)]
  have v5 : ((X.length : Int) == 0) = false := by simp; intro h; simp [h] at hX0
  have v6 : ¬ (X.length : Int) = 0 := by omega
  have v7 : ¬ X = [] := by rintro rfl; simp at hX0
  have hP : Blk ((w.alloc (.cells #[a, b, c] 60)).alloc (.cells (opA o) 52)) w.heap.size 60 #[a, b, c] := (Blk.self_ rfl).more _
  have hQ : Blk ((w.alloc (.cells #[a, b, c] 60)).alloc (.cells (opA o) 52)) (w.heap.size + 1) 52 (opA o) := Blk.self_ (by simp)
  have kW : Below w.heap.size w ((w.alloc (.cells #[a, b, c] 60)).alloc (.cells (opA o) 52)) := ext_trans (ext_alloc _ _) (ext_alloc _ _)
  have q1 : (opA o)[1]? = some (.int .u8 o.a.toNat) := rfl
  have q2 : (opA o)[2]? = some (.int .u8 o.b.toNat) := rfl
  have hi3' : (i : Int) < 3 := by omega
  have hc2 : ([a, b, c] : List Value)[i] = .slice xA X.length xc := by
    have h : ([a, b, c] : List Value)[i]? = some (.slice xA X.length xc) := by simpa using hcell
    rw [List.getElem?_eq_getElem (by simpa using hi3)] at h
    exact Option.some.inj h
  refine calls_E Tryz.func27 rfl rfl rfl (Nat.le_of_ble_eq_true rfl) ?_
  simp [go_sem, IntWalk.iteOmega, IntWalk.toNatUp, q1, q2, v1, hcell, hc2, hi3, hi3']
  refine W_still follows (by kernel_rfl) ?_
  simp [go_sem, IntWalk.iteOmega, IntWalk.toNatUp, q1, q2, v1, v2, v3, v4, v5, v6, v7, hcell, hc2]
  exact kW.drew
end Go.Proofs.YtdjcjjodbniebaaGreatDoor
