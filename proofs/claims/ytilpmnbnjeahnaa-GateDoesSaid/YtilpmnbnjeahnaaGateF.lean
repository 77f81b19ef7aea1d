/-
  A gate, by the blocks that are its own: what its methods do turns no other block.
-/
import Derived.Test.YtilpmnbnjeahnaaGOf
namespace Go.Proofs.Ytilpmnbnjeahnaa.F
open Go.RowKit
set_option linter.unusedVariables false
set_option linter.unusedSimpArgs false
set_option maxRecDepth 10000
/-- Nothing that lies outside B has turned. -/
def Turns (B : Nat → Prop) (a b : World) : Prop := Keeps (fun j => ¬ B j) a b
section
variable {B : Nat → Prop} {a b c w : World}
theorem Turns.refl (B : Nat → Prop) (w : World) : Turns B w w := Keeps.refl _ _
theorem Turns.trans (h : Turns B a b) (k : Turns B b c) : Turns B a c := Keeps.trans h k
theorem Turns.setCell (h : Turns B a b) {p : Addr} (hp : B p.block) (v : Value) : Turns B a (b.setCell p v) := Keeps.trans h (Keeps.setCell _ _ _ fun h => h hp)
theorem Turns.alloc (h : Turns B a b) (o : Obj) : Turns B a (b.alloc o) := Keeps.trans h (Keeps.alloc _ _ _)
theorem Turns.drew (h : Turns B a b) : Turns B a b.drew := Keeps.trans h (Keeps.drew _ _)
theorem Turns.of_below (h : Below a.heap.size a b) : Turns B a b := Keeps.of_ext h
theorem Turns.below {n : Nat} (h : Turns B a b) (hn : n ≤ a.heap.size) (hB : ∀ j, B j → n ≤ j) : Below n a b := Keeps.below h hn fun k hk hb => by have := hB k hb; omega
theorem Turns.mapPut (h : Turns B a w) {r : Nat} (hr : B r) (k v : Value) (d : TypeDesc) : Turns B a (mapPut w r k v d) := by
  refine Keeps.trans h ⟨?_, ?_, ?_, by rw [mapPut_size]; exact Nat.le_refl _, fun j hj hn => mapPut_far _ _ _ _ _ fun e => hn (e ▸ hr)⟩
  all_goals
    unfold Go.Proofs.Ytilpmnbnjeahnaa.mapPut; split
    · split <;> rfl
    · rfl
theorem Turns.mapDel (h : Turns B a w) {r : Nat} (hr : B r) (k : Value) (d : TypeDesc) : Turns B a (mapDel w r k d) := by
  refine Keeps.trans h ⟨?_, ?_, ?_, by rw [mapDel_size]; exact Nat.le_refl _, fun j hj hn => mapDel_far _ _ _ _ fun e => hn (e ▸ hr)⟩
  all_goals
    unfold Go.Proofs.Ytilpmnbnjeahnaa.mapDel; split
    · split <;> rfl
    · rfl
end
/-- a row of int64 that is the gate's -/
def Row (w : World) (B : Nat → Prop) (v : Value) (n : Nat) (xs : List Value) : Prop := w.ownsRow 0 2 1 v n xs ∧ ∀ j, v.ownBlock = some j → B j
theorem row_far {w w' : World} {B : Nat → Prop} {n : Nat} {v : Value} {xs : List Value} (h : Row w B v n xs) (hk : ∀ (k : Nat) (cs : Array Value), w.heap[k]? = some (Obj.cells cs 2 (0, 0)) → w'.heap[k]? = w.heap[k]?) : Row w' B v n xs := ⟨own_far h.1 hk, h.2⟩
/-- the gate g lies in w, all of it in blocks from B on -/
def GateIn (w : World) (B : Nat → Prop) (g : Nat) (S : GS) : Prop := ∃ sv m b, B g ∧ B m ∧ B b ∧ Blk w g 64 (gcells S sv m b) ∧ Row w B sv S.n (ints .i64 S.share) ∧ Mp w m .i64 (lv S.l) ∧ Wst w b S.n S.st ∧ S.n ≤ 32
/-- The gate behind a write into its validators' row alone. -/
theorem gate_st {w w' : World} {B : Nat → Prop} {g : Nat} {S : GS} {sv : Value} {m b : Nat} {st : Nat → GSt} {cs cs' : Array Value} (h1 : B g) (h2 : B m) (h3 : B b) (hg : Blk w g 64 (gcells S sv m b)) (hsh : Row w B sv S.n (ints .i64 S.share)) (hmp : Mp w m .i64 (lv S.l)) (hn : S.n ≤ 32)
    (hb : Blk w b 44 cs) (hfar : ∀ k, k ≠ b → w'.heap[k]? = w.heap[k]?) (hb' : Blk w' b 44 cs') (hcs : 4 * S.n ≤ cs'.size)
    (hall : ∀ u, u < S.n → cs'[u * 4]? = some (.int .i64 (st u).many) ∧ cs'[u * 4 + 1]? = some (.int .i64 (st u).large) ∧ cs'[u * 4 + 2]? = some (.int .i64 (st u).own) ∧ cs'[u * 4 + 3]? = some (.int .i64 (st u).drops)) :
    GateIn w' B g { S with st := st } := by
  refine ⟨sv, m, b, h1, h2, h3, Blk_farh hg (hfar _ (Blk_ne hg hb (by decide))), row_far hsh fun k cs hk => hfar _ ?_, Mp_far hmp (hfar _ fun e => ?_), ⟨cs', hb', hcs, hall⟩, hn⟩
  · exact Blk_ne (t := 2) hk hb (by decide)
  · exact Blk_ne_map hb hmp e.symm
theorem none_runs (B : Nat → Prop) (g : Nat) (S : GS) (w : World) (h : GateIn w B g S) : Runs Try.prog 33 #[.pointer (some ⟨g, 0, none⟩)] w (.bool false) w := by
  obtain ⟨sv, m, b, h1, h2, h3, hg, hsh, hmp, hst, hn⟩ := h
  have hcell := hg.cell
  have hlt := hg.lt
  simp only [gcells] at hcell
  refine runs_of_callE ?_
  refine calls_E Try.func33 rfl rfl rfl (Nat.le_of_ble_eq_true rfl) ?_
  simp [go_sem, IntWalk.iteOmega, IntWalk.toNatUp, hcell]
theorem large_runs (B : Nat → Prop) (g : Nat) (S : GS) (w : World) (h : GateIn w B g S) : Runs Try.prog 20 #[.pointer (some ⟨g, 0, none⟩)] w (.int .i64 S.free) w := by
  have hno := fun k => callE_eq noinit_none (none_runs B g S w h) k
  obtain ⟨sv, m, b, h1, h2, h3, hg, hsh, hmp, hst, hn⟩ := h
  have hcell := hg.cell
  have hlt := hg.lt
  simp only [gcells] at hcell
  refine runs_of_callE ?_
  refine calls_E Try.func20 rfl rfl rfl (Nat.le_of_ble_eq_true rfl) ?_
  simp [go_sem, IntWalk.iteOmega, IntWalk.toNatUp, hcell, hno]
theorem refuses_any (B : Nat → Prop) (g : Nat) (S : GS) (w : World) (h : GateIn w B g S) (v : Nat) (hv : v < S.n) (e : Int) :
    callE Try.prog 35 #[.pointer (some ⟨g, 0, none⟩), .int .i64 v, .int .i64 e] w fun u w' => u = .tuple #[.int .i64 0, .int .i64 e] ∧
      GateIn w' B g (S.setSt v { S.st v with drops := IntKind.i64.wrap ((S.st v).drops + 1) }) ∧ Turns B w w' := by
  obtain ⟨sv, m, b, h1, h2, h3, hg, hsh, hmp, ⟨cs, hb, hcs, hall⟩, hn⟩ := h
  have hcell := hg.cell
  have hlt := hg.lt
  have hbcell := hb.cell
  have hblt := hb.lt
  have hbfr := hb.frozen
  obtain ⟨x0, x1, x2, x3⟩ := hall v hv
  simp only [gcells] at hcell
  refine calls_E Try.func35 rfl rfl rfl (Nat.le_of_ble_eq_true rfl) ?_
  simp [go_sem, IntWalk.iteOmega, IntWalk.toNatUp, hcell, hbcell, x3, hbfr, hv]
  refine ⟨gate_st h1 h2 h3 hg hsh hmp hn hb (fun k hk => Below.heap_setCell _ _ _ _ hk) (Blk_set hb) (by simpa using hcs) fun u hu => ?_, (Turns.refl _ _).setCell h3 _⟩
  obtain ⟨y0, y1, y2, y3⟩ := hall u hu
  by_cases hvu : u = v
  · subst hvu
    simp [Array.getElem?_setIfInBounds, y0, y1, y2]; omega
  · have hvu' : ¬ v = u := fun e => hvu e.symm
    simp [Array.getElem?_setIfInBounds, y0, y1, y2, y3, hvu]
    refine ⟨by omega, by omega, by omega, by omega⟩
theorem counts_any (B : Nat → Prop) (g : Nat) (S : GS) (w : World) (h : GateIn w B g S) (v : Nat) (hv : v < S.n) (many large own : Int) :
    callE Try.prog 34 #[.pointer (some ⟨g, 0, none⟩), .int .i64 v, .int .i64 many, .int .i64 large, .int .i64 own] w fun u w' => GateIn w' B g (S.count v many large own) ∧ Turns B w w' := by
  obtain ⟨sv, m, b, h1, h2, h3, hg, hsh, hmp, ⟨cs, hb, hcs, hall⟩, hn⟩ := h
  have hcell := hg.cell
  have hlt := hg.lt
  have hgfr := hg.frozen
  have hbcell := hb.cell
  have hblt := hb.lt
  have hbfr := hb.frozen
  have hgb := Blk_ne hg hb (by decide)
  obtain ⟨x0, x1, x2, x3⟩ := hall v hv
  simp only [gcells] at hcell
  refine calls_E Try.func34 rfl rfl rfl (Nat.le_of_ble_eq_true rfl) ?_
  simp [go_sem, IntWalk.iteOmega, IntWalk.toNatUp, hcell, hgfr]
  have hfree : (if -9223372036854775808 ≤ S.free - large ∧ S.free - large ≤ 9223372036854775807 then S.free - large else wrapO .i64 (S.free - large)) = IntKind.i64.wrap (S.free - large) := by simp [go_sem]
  rw [hfree]
  obtain ⟨x, hx⟩ : ∃ x, x = Value.int .i64 (IntKind.i64.wrap (S.free - large)) := ⟨_, rfl⟩
  simp only [← hx]
  have hb2 : Blk (w.setCell ⟨g, 8, none⟩ x) b 44 cs := by rw [Blk_far (Ne.symm hgb)]; exact hb
  have hg2 := Blk_set (o := 8) (v := x) hg
  have k2 : Turns B w (w.setCell ⟨g, 8, none⟩ x) := (Turns.refl _ _).setCell h1 _
  have f2 : ∀ k, k ≠ g → (w.setCell ⟨g, 8, none⟩ x).heap[k]? = w.heap[k]? := fun k hk => Below.heap_setCell _ _ _ _ hk
  generalize w.setCell ⟨g, 8, none⟩ x = W at *
  have hbcell := hb2.cell
  have hblt := hb2.lt
  have hbfr := hb2.frozen
  refine W_fork (.pure 0 (.pure 1 (.pure 2 (.pure 3 (.pure 4 (.pure 5 (.pure 7 (.pure 9 (.pure 10 (.pure 11 (.pure 13 (.pure 15 (.pure 16 (.pure 17 (.pure 19 (.alt 6 (.pure 8 (.alt 12 (.pure 14 (.alt 18 (.pure 20 (.pure 21 (.pure 22 (.alt 23 (.pure 24 (.pure 25 (.alt 26 (.pure 27 (.pure 28 (.alt 29 (.done) (.no)))) (.no)))) (.no))))) (.no))) (.alt 18 (.pure 20 (.alt 12 (.pure 14 (.pure 21 (.pure 22 (.alt 23 (.pure 24 (.pure 25 (.alt 26 (.pure 27 (.pure 28 (.alt 29 (.done) (.no)))) (.no)))) (.no))))) (.no))) (.no)))) (.alt 12 (.pure 14 (.alt 6 (.pure 8 (.alt 18 (.pure 20 (.pure 21 (.pure 22 (.alt 23 (.pure 24 (.pure 25 (.alt 26 (.pure 27 (.pure 28 (.alt 29 (.done) (.no)))) (.no)))) (.no))))) (.no))) (.alt 18 (.pure 20 (.alt 6 (.pure 8 (.pure 21 (.pure 22 (.alt 23 (.pure 24 (.pure 25 (.alt 26 (.pure 27 (.pure 28 (.alt 29 (.done) (.no)))) (.no)))) (.no))))) (.no))) (.no)))) (.alt 18 (.pure 20 (.alt 6 (.pure 8 (.alt 12 (.pure 14 (.pure 21 (.pure 22 (.alt 23 (.pure 24 (.pure 25 (.alt 26 (.pure 27 (.pure 28 (.alt 29 (.done) (.no)))) (.no)))) (.no))))) (.no))) (.alt 12 (.pure 14 (.alt 6 (.pure 8 (.pure 21 (.pure 22 (.alt 23 (.pure 24 (.pure 25 (.alt 26 (.pure 27 (.pure 28 (.alt 29 (.done) (.no)))) (.no)))) (.no))))) (.no))) (.no)))) (.no))))))))))))))))))) follows (by kernel_rfl) (fun _ W' => GateIn W' B g (S.count v many large own) ∧ Turns B w W') ?_ fun s' W' hk => by simpa [go_sem] using hk
  simp [go_sem, IntWalk.iteOmega, IntWalk.toNatUp, hbcell, hbfr, x0, x1, x2]
  simp only [ifwrap]
  subst hx
  have hg3 : Blk W g 64 (gcells { S with free := IntKind.i64.wrap (S.free - large) } sv m b) := hg2
  have hsh3 : Row W B sv S.n (ints .i64 S.share) := row_far hsh fun k cs hk => f2 _ (Blk_ne (t := 2) hk hg (by decide))
  have hmp3 : Mp W m .i64 (lv S.l) := Mp_far hmp (f2 _ fun e => Blk_ne_map hg hmp e.symm)
  have k3 : ∀ p1 p2 p3 : Value, Turns B w (((W.setCell ⟨b, v * 4, none⟩ p1).setCell ⟨b, v * 4 + 1, none⟩ p2).setCell ⟨b, v * 4 + 2, none⟩ p3).drew := fun p1 p2 p3 => (((k2.setCell h3 _).setCell h3 _).setCell h3 _).drew
  refine ⟨gate_st (S := { S with free := IntKind.i64.wrap (S.free - large) }) h1 h2 h3 hg3 hsh3 hmp3 hn hb2 (fun k hk => ?_) ((Blk_set (Blk_set (Blk_set hb2))).drew) (by simpa using hcs) fun u hu => ?_, k3 _ _ _⟩
  · show (((W.setCell ⟨b, v * 4, none⟩ _).setCell ⟨b, v * 4 + 1, none⟩ _).setCell ⟨b, v * 4 + 2, none⟩ _).heap[k]? = _
    rw [Below.heap_setCell _ _ _ _ hk, Below.heap_setCell _ _ _ _ hk, Below.heap_setCell _ _ _ _ hk]
  obtain ⟨y0, y1, y2, y3⟩ := hall u hu
  by_cases hvu : u = v
  · subst hvu
    simp [Array.getElem?_setIfInBounds, y3]; omega
  · refine ⟨?_, ?_, ?_, ?_⟩ <;> rw [Array.getElem?_setIfInBounds_ne (by omega), Array.getElem?_setIfInBounds_ne (by omega), Array.getElem?_setIfInBounds_ne (by omega)]
    · simp [y0, hvu]
    · simp [y1, hvu]
    · simp [y2, hvu]
    · simp [y3, hvu]
theorem GateIn.grow {w w' : World} {B : Nat → Prop} {g : Nat} {S : GS} (h : GateIn w B g S) (hb : Below w.heap.size w w') : GateIn w' B g S := by
  obtain ⟨sv, m, b, h1, h2, h3, hg, hsh, hmp, ⟨cs, hst, hr⟩, hn⟩ := h
  exact ⟨sv, m, b, h1, h2, h3, hg.keep hb, row_far hsh fun k cs hk => hb.block _ (Blk.lt (t := 2) hk), hmp.keep hb, ⟨cs, hst.keep hb, hr⟩, hn⟩
theorem gate_map {w w' : World} {B : Nat → Prop} {g : Nat} {S : GS} {sv : Value} {m b : Nat} {L : List (Int × GIn)} {cs : Array Value} (h1 : B g) (h2 : B m) (h3 : B b) (hg : Blk w g 64 (gcells S sv m b)) (hsh : Row w B sv S.n (ints .i64 S.share)) (hmp : Mp w m .i64 (lv S.l)) (hst : Wst w b S.n S.st) (hn : S.n ≤ 32)
    (hfar : ∀ k, k ≠ m → w'.heap[k]? = w.heap[k]?) (hm' : Mp w' m .i64 (lv L)) : GateIn w' B g { S with l := L } := by
  obtain ⟨es, c, h, hE⟩ := id hmp
  obtain ⟨cs, hb, hr⟩ := hst
  refine ⟨sv, m, b, h1, h2, h3, Blk_farh hg (hfar _ (Blk_ne_map hg hmp)), row_far hsh fun k cs hk => hfar _ (Blk_ne_map (t := 2) hk hmp), hm', ⟨cs, Blk_farh hb (hfar _ (Blk_ne_map hb hmp)), hr⟩, hn⟩
theorem leave_any (B : Nat → Prop) (g : Nat) (S : GS) (w : World) (h : GateIn w B g S) (hl : ∀ x ∈ S.l, x.2.v < S.n) (t : Int) :
    callE Try.prog 16 #[.pointer (some ⟨g, 0, none⟩), .int .i64 t] w fun u w' => u = .int .i64 (S.leave t).2 ∧ GateIn w' B g (S.leave t).1 ∧ Turns B w w' := by
  have hno := fun k => callE_eq noinit_none (none_runs B g S w h) k
  obtain ⟨sv, m, b, h1, h2, h3, hg, hsh, hmp, hst, hn⟩ := id h
  have hcell := hg.cell
  have hlt := hg.lt
  have hgfr := hg.frozen
  simp only [gcells] at hcell
  have hlook := run_lookup_int hmp und61 und2 t (zero_in76 w)
  rw [atKey_lv] at hlook
  refine calls_E Try.func16 rfl rfl rfl (Nat.le_of_ble_eq_true rfl) ?_
  cases hat : atG t S.l with
  | none =>
    have hlv : S.leave t = (S, 4) := by simp [GS.leave, hat]
    rw [hat] at hlook
    simp [go_sem, IntWalk.iteOmega, IntWalk.toNatUp, hcell, hno, hlook, hlv]
    exact ⟨h.grow (ext_alloc _ _), (Turns.refl _ _).alloc _⟩
  | some x =>
    obtain ⟨v, a, o⟩ := x
    have hv : v < S.n := hl _ (at_in hat)
    have hlv : S.leave t = (({ S with l := delG t S.l } : GS).count v (-1) (IntKind.i64.wrap (-a)) (IntKind.i64.wrap (-o)), 0) := by simp [GS.leave, hat]
    rw [hat] at hlook
    have hlook : (Instr.lookup 61 (.map (some m)) (.int .i64 t) true).run Try.prog w = .ok (.tuple #[.agg #[.int .i64 v, .int .i64 a, .int .i64 o], .bool true]) w := hlook
    have hg2 := hg.more (.cells #[.int .i64 v, .int .i64 a, .int .i64 o] 76)
    have hmp2 := hmp.keep (ext_alloc w (.cells #[.int .i64 v, .int .i64 a, .int .i64 o] 76))
    have hcell2 := hg2.cell
    simp only [gcells] at hcell2
    have hdel := fun ty => run_delete_int (ty := ty) hmp2 und61 und2 t (t2 := 2)
    have k2 := ext_alloc w (.cells #[.int .i64 v, .int .i64 a, .int .i64 o] 76)
    have hgw := h.grow k2
    have hx2 : Blk (w.alloc (.cells #[.int .i64 v, .int .i64 a, .int .i64 o] 76)) w.heap.size 76 #[.int .i64 v, .int .i64 a, .int .i64 o] := Blk.self_ rfl
    have hne : w.heap.size ≠ m := fun e => absurd hmp.lt (by omega)
    have hx3 : Blk (mapDel (w.alloc (.cells #[.int .i64 v, .int .i64 a, .int .i64 o] 76)) m (.int .i64 t) (.int .i64)) w.heap.size 76 #[.int .i64 v, .int .i64 a, .int .i64 o] := by rw [Blk_mapDel hne]; exact hx2
    have hx3c := hx3.cell
    have hsh2 := row_far hsh fun k cs hk => k2.block _ (Blk.lt (t := 2) hk)
    have hst2 : Wst (w.alloc (.cells #[.int .i64 v, .int .i64 a, .int .i64 o] 76)) b S.n S.st := by
      obtain ⟨cs, hb, hr⟩ := hst
      exact ⟨cs, hb.keep k2, hr⟩
    have hmp3 := hmp2.del t
    rw [delKey_lv] at hmp3
    have hG := gate_map (L := delG t S.l) (cs := #[]) h1 h2 h3 hg2 hsh2 hmp2 hst2 hn (fun k hk => mapDel_far _ _ _ _ hk) hmp3
    have kB : Turns B w (mapDel (w.alloc (.cells #[.int .i64 v, .int .i64 a, .int .i64 o] 76)) m (.int .i64 t) (.int .i64)) := Turns.mapDel ((Turns.refl _ _).alloc _) h2 _ _
    simp [go_sem, IntWalk.iteOmega, IntWalk.toNatUp, hcell, hno, hlook, hcell2, hdel, hx3c]
    refine callE_of (counts_any B g _ _ hG v hv _ _ _) ?_
    rintro u w1 ⟨hG1, k1⟩
    simp [go_sem, IntWalk.iteOmega, IntWalk.toNatUp, hlv]
    exact ⟨hG1, kB.trans k1⟩
theorem own_cells {w : World} {B : Nat → Prop} {n : Nat} {sv : Value} {l : List Int} (h : Row w B sv n (ints .i64 l)) {v : Nat} (hv : v < n) :
    ∃ g cap, sv = .slice (some ⟨g, 0, none⟩) n cap ∧ B g ∧ g < w.heap.size ∧ l.length = n ∧ ∀ u, u < n → w.cell? ⟨g, u, none⟩ = some (.int .i64 (l.getD u 0)) := by
  obtain ⟨⟨hl, h2⟩, hBB⟩ := h
  have hl' : l.length = n := by simpa [ints] using hl
  rcases h2 with ⟨_, h0⟩ | ⟨g, cap, cur, hv', hb, hg, h3, h4, h5, h6⟩
  · omega
  · refine ⟨g, cap, hv', hBB g (by rw [hv']; rfl), Blk.lt (t := 2) (cs := cur) hg, hl', fun u hu => ?_⟩
    have := Blk.cell (t := 2) (cs := cur) hg u
    rw [this]
    have e : (cur.toList.take (n * 1))[u]? = (ints .i64 l)[u]? := by rw [h6]
    rw [ints_at (by omega), List.getElem?_take, if_pos (by omega)] at e
    simpa using e
set_option maxHeartbeats 3200000 in
theorem enter_any (B : Nat → Prop) (g : Nat) (S : GS) (w : World) (h : GateIn w B g S) (hf : atG S.next S.l = none) (v size : Int) :
    callE Try.prog 17 #[.pointer (some ⟨g, 0, none⟩), .int .i64 v, .int .i64 size] w fun u w' => u = .tuple #[.int .i64 (S.enter v size).2.1, .int .i64 (S.enter v size).2.2] ∧ GateIn w' B g (S.enter v size).1 ∧ Turns B w w' := by
  have hno := fun k => callE_eq noinit_none (none_runs B g S w h) k
  obtain ⟨sv, m, b, h1, h2, h3, hg, hsh, hmp, ⟨cs, hb, hcs, hall⟩, hn⟩ := id h
  have hcell := hg.cell
  have hlt := hg.lt
  have hgfr := hg.frozen
  simp only [gcells] at hcell
  have hbcell := hb.cell
  have hblt := hb.lt
  by_cases c1 : v < 0
  · have he : S.enter v size = (S, 0, 1) := by simp [GS.enter, c1]
    refine calls_E Try.func17 rfl rfl rfl (Nat.le_of_ble_eq_true rfl) ?_
    simp [go_sem, IntWalk.iteOmega, IntWalk.toNatUp, hcell, hno, c1, he]
    exact ⟨h, Turns.refl _ _⟩
  · by_cases c2 : (S.n : Int) ≤ v
    · have he : S.enter v size = (S, 0, 1) := by simp [GS.enter, c2]
      refine calls_E Try.func17 rfl rfl rfl (Nat.le_of_ble_eq_true rfl) ?_
      simp [go_sem, IntWalk.iteOmega, IntWalk.toNatUp, hcell, hno, c1, c2, he]
      exact ⟨h, Turns.refl _ _⟩
    · by_cases c3 : size < 0
      · have he : S.enter v size = (S, 0, 1) := by simp [GS.enter, c3]
        refine calls_E Try.func17 rfl rfl rfl (Nat.le_of_ble_eq_true rfl) ?_
        simp [go_sem, IntWalk.iteOmega, IntWalk.toNatUp, hcell, hno, c1, c2, c3, he]
        exact ⟨h, Turns.refl _ _⟩
      · obtain ⟨u, rfl⟩ : ∃ u : Nat, v = u := ⟨v.toNat, by omega⟩
        have hu : u < S.n := by omega
        by_cases c4 : S.cfg.size < size
        · have he : S.enter u size = (S.drop u, 0, 3) := by simp [GS.enter, c2, c3, c4]
          refine calls_E Try.func17 rfl rfl rfl (Nat.le_of_ble_eq_true rfl) ?_
          simp [go_sem, IntWalk.iteOmega, IntWalk.toNatUp, hcell, hno, c1, c2, c3, c4]
          refine callE_of (refuses_any B g S w h u hu 3) ?_
          rintro _ w1 ⟨rfl, hG, k⟩
          simp [go_sem, IntWalk.iteOmega, IntWalk.toNatUp, he]
          exact ⟨hG, k⟩
        · obtain ⟨x0, x1, x2, x3⟩ := hall u hu
          obtain ⟨sb, cap, rfl, hsB, hslt, hslen, hsc⟩ := own_cells hsh hu
          have hs0 := hsc u hu
          obtain ⟨E, hE⟩ : ∃ E, IntKind.i64.wrap (S.cfg.each - (S.st u).large) = E := ⟨_, rfl⟩
          obtain ⟨R, hR⟩ : ∃ R, (if E < (if S.free < size then S.free else size) then E else if S.free < size then S.free else size) = R := ⟨_, rfl⟩
          obtain ⟨O, hO⟩ : ∃ O, IntKind.i64.wrap (size - R) = O := ⟨_, rfl⟩
          obtain ⟨D, hD⟩ : ∃ D, IntKind.i64.wrap (S.share.getD u 0 - (S.st u).own) = D := ⟨_, rfl⟩
          obtain ⟨N, hN⟩ : ∃ N, IntKind.i64.wrap (S.last + 1) = N := ⟨_, rfl⟩
          have eR : S.room u size = R := by
            rw [GS.room, hE, ← hR]
            by_cases q1 : S.free < size <;> simp only [q1, if_true, if_false] <;> (by_cases q2 : E < S.free <;> by_cases q3 : E < size <;> simp only [q2, q3, if_true, if_false] <;> omega)
          have eO : S.rest u size = O := by rw [GS.rest, eR, hO]
          have eN : S.next = N := hN
          have hfull : S.full u size = decide (S.cfg.many ≤ (S.st u).many ∨ D < O) := by rw [GS.full, eO, hD]
          generalize S.share.getD u 0 = sh at *
          by_cases d : S.cfg.many ≤ (S.st u).many ∨ D < O
          · have he : S.enter u size = (S.drop u, 0, 6) := by simp [GS.enter, c2, c3, c4, hfull, d]
            refine calls_E Try.func17 rfl rfl rfl (Nat.le_of_ble_eq_true rfl) ?_
            simp [go_sem, IntWalk.iteOmega, IntWalk.toNatUp, hcell, hno, c1, c2, c3, c4, hu]
            refine W_still follows (by kernel_rfl) ?_
            simp [go_sem, IntWalk.iteOmega, IntWalk.toNatUp, hcell, hbcell, x0, x1, x2, hs0, hE, hR, hO]
            refine W_still follows (by kernel_rfl) ?_
            by_cases d1 : S.cfg.many ≤ (S.st u).many
            · simp [go_sem, IntWalk.iteOmega, IntWalk.toNatUp, hcell, hbcell, x0, x1, x2, hs0, hD, d1, hu]
              refine callE_of (refuses_any B g S w.drew.drew h u hu 6) ?_
              rintro _ w1 ⟨rfl, hG, k⟩
              simp [go_sem, IntWalk.iteOmega, IntWalk.toNatUp, he]
              exact ⟨hG, ((Turns.refl B w).drew).drew.trans k⟩
            · have d2 : D < O := by omega
              simp [go_sem, IntWalk.iteOmega, IntWalk.toNatUp, hcell, hbcell, x0, x1, x2, hs0, hD, d1, d2, hu]
              refine callE_of (refuses_any B g S w.drew.drew h u hu 6) ?_
              rintro _ w1 ⟨rfl, hG, k⟩
              simp [go_sem, IntWalk.iteOmega, IntWalk.toNatUp, he]
              exact ⟨hG, ((Turns.refl B w).drew).drew.trans k⟩
          · have d1 : ¬ S.cfg.many ≤ (S.st u).many := by omega
            have d2 : ¬ D < O := by omega
            have he : S.enter u size = (S.lets u size, N, 0) := by simp [GS.enter, c2, c3, c4, hfull, d1, d2, eN]
            refine calls_E Try.func17 rfl rfl rfl (Nat.le_of_ble_eq_true rfl) ?_
            simp [go_sem, IntWalk.iteOmega, IntWalk.toNatUp, hcell, hno, c1, c2, c3, c4, hu]
            refine W_still follows (by kernel_rfl) ?_
            simp [go_sem, IntWalk.iteOmega, IntWalk.toNatUp, hcell, hbcell, x0, x1, x2, hs0, hE, hR, hO]
            refine W_still follows (by kernel_rfl) ?_
            simp [go_sem, IntWalk.iteOmega, IntWalk.toNatUp, hcell, hbcell, x0, x1, x2, hs0, hD, d1, d2, hu, hgfr, hN]
            obtain ⟨W1, hW1⟩ : ∃ W1, W1 = (w.setCell ⟨g, 7, none⟩ (.int .i64 N)).drew.drew.drew := ⟨_, rfl⟩
            have f1 : ∀ k, k ≠ g → W1.heap[k]? = w.heap[k]? := fun k hk => by rw [hW1]; exact Below.heap_setCell _ _ _ _ hk
            have hg1 : Blk W1 g 64 (gcells { S with last := N } (.slice (some ⟨sb, 0, none⟩) S.n cap) m b) := by rw [hW1]; exact ((Blk_set (o := 7) (v := .int .i64 N) hg).drew).drew.drew
            have k1 : Turns B w W1 := by rw [hW1]; exact (((Turns.refl _ _).setCell h1 _).drew).drew.drew
            have hsh1 := row_far (w' := W1) hsh fun k cs hk => f1 _ (Blk_ne (t := 2) hk hg (by decide))
            have hmp1 : Mp W1 m .i64 (lv S.l) := Mp_far hmp (f1 _ fun e => Blk_ne_map hg hmp e.symm)
            have hst1 : Wst W1 b S.n S.st := ⟨cs, Blk_farh hb (f1 _ fun e => Blk_ne hg hb (by decide) e.symm), hcs, hall⟩
            have hcell1 := hg1.cell
            simp only [gcells] at hcell1
            have hupd := run_mapUpdate_int hmp1 und61 und2 N (.agg #[.int .i64 u, .int .i64 R, .int .i64 O])
            refine W_tree (.pure 0 (.pure 1 (.pure 2 (.pure 4 (.pure 5 (.pure 6 (.pure 8 (.pure 9 (.pure 10 (.pure 11 (.two 3 (.one 7 (.one 12 (.done))) 7 (.one 3 (.one 12 (.done)))))))))))))) follows (by kernel_rfl) ?_
            rw [← hW1]
            simp [go_sem, IntWalk.iteOmega, IntWalk.toNatUp, hcell1, hupd]
            have hmp2 := hmp1.put N (.agg #[.int .i64 u, .int .i64 R, .int .i64 O])
            have hput : putKey N (.agg #[.int .i64 u, .int .i64 R, .int .i64 O]) (lv S.l) = lv (S.l ++ [(N, ⟨u, R, O⟩)]) := by
              rw [put_new (by rw [atKey_lv, ← eN, hf]; rfl)]; simp [lv, GIn.val]
            rw [hput] at hmp2
            have hG := gate_map (S := { S with last := N }) (cs := #[]) h1 h2 h3 hg1 hsh1 hmp1 hst1 hn (fun k hk => mapPut_far W1 m (.int .i64 N) (.agg #[.int .i64 u, .int .i64 R, .int .i64 O]) (.int .i64) hk) hmp2
            have k2 := Turns.mapPut k1 h2 (.int .i64 N) (.agg #[.int .i64 u, .int .i64 R, .int .i64 O]) (.int .i64)
            have hlets : S.lets u size = GS.count { { S with last := N } with l := S.l ++ [(N, ⟨u, R, O⟩)] } u 1 R O := by rw [GS.lets, eN, eR, eO]
            constructor <;>
            · refine callE_of (counts_any B g _ _ hG u hu 1 R O) ?_
              rintro _ w3 ⟨hG3, k3⟩
              obtain ⟨sv3, m3, b3, _, _, _, hg3, _⟩ := id hG3
              have hcell3 := hg3.cell
              have hlt3 := hg3.lt
              simp only [gcells, GS.count] at hcell3
              simp [go_sem, IntWalk.iteOmega, IntWalk.toNatUp, hcell3, he, hlets]
              exact ⟨hG3, k2.trans k3⟩
end Go.Proofs.Ytilpmnbnjeahnaa.F
