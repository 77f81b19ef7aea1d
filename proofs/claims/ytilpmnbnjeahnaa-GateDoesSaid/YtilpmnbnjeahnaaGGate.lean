/-
  A gate as it lies in the heap, and what its methods do to it.
-/
import Derived.Test.YtilpmnbnjeahnaaGShare
import Derived.Test.YtilpmnbnjeahnaaMap
import Derived.Test.YtilpmnbnjeahnaaFork
namespace Go.Proofs.Ytilpmnbnjeahnaa
open Go.RowKit
set_option linter.unusedVariables false
set_option linter.unusedSimpArgs false
set_option maxRecDepth 10000
/-- what a validator has within -/
structure GSt where
  many : Int
  large : Int
  own : Int
  drops : Int
structure GCfg where
  large : Int
  each : Int
  own : Int
  many : Int
  size : Int
/-- a message that is within -/
structure GIn where
  v : Nat
  large : Int
  own : Int
def GIn.val (x : GIn) : Value := .agg #[.int .i64 x.v, .int .i64 x.large, .int .i64 x.own]
def lv (l : List (Int × GIn)) : List (Int × Value) := l.map fun x => (x.1, x.2.val)
def atG (t : Int) : List (Int × GIn) → Option GIn
  | [] => none
  | x :: l => if t = x.1 then some x.2 else atG t l
def delG (t : Int) : List (Int × GIn) → List (Int × GIn)
  | [] => []
  | x :: l => if t = x.1 then l else x :: delG t l
theorem atKey_lv (t : Int) : ∀ l, atKey t (lv l) = (atG t l).map GIn.val
  | [] => rfl
  | x :: l => by
    have := atKey_lv t l
    by_cases h : t = x.1 <;> simp_all [lv, atKey, atG]
theorem delKey_lv (t : Int) : ∀ l, delKey t (lv l) = lv (delG t l)
  | [] => rfl
  | x :: l => by
    have := delKey_lv t l
    by_cases h : t = x.1 <;> simp_all [lv, delKey, delG]
theorem at_in {t : Int} {x : GIn} : ∀ {l}, atG t l = some x → (t, x) ∈ l
  | [], h => by cases h
  | y :: l, h => by
    unfold atG at h
    split at h
    · rename_i e; cases h; subst e; exact List.mem_cons_self ..
    · exact List.mem_cons_of_mem _ (at_in h)
/-- a gate: n validators -/
structure GS where
  n : Nat
  cap : Nat
  cfg : GCfg
  share : List Int
  l : List (Int × GIn)
  last : Int
  free : Int
  st : Nat → GSt
def GS.setSt (S : GS) (v : Nat) (x : GSt) : GS := { S with st := fun u => if u = v then x else S.st u }
def Wst (w : World) (b n : Nat) (st : Nat → GSt) : Prop := ∃ cs, Blk w b 44 cs ∧ 4 * n ≤ cs.size ∧
  ∀ u, u < n → cs[u * 4]? = some (.int .i64 (st u).many) ∧ cs[u * 4 + 1]? = some (.int .i64 (st u).large) ∧ cs[u * 4 + 2]? = some (.int .i64 (st u).own) ∧ cs[u * 4 + 3]? = some (.int .i64 (st u).drops)
def gcells (S : GS) (sv : Value) (m b : Nat) : Array Value :=
  #[.int .i64 S.cfg.large, .int .i64 S.cfg.each, .int .i64 S.cfg.own, .int .i64 S.cfg.many, .int .i64 S.cfg.size, sv, .map (some m), .int .i64 S.last, .int .i64 S.free, .slice (some ⟨b, 0, none⟩) S.n S.cap]
/-- the gate g lies in w, all of it in blocks from B on -/
def GateIn (w : World) (B g : Nat) (S : GS) : Prop := ∃ sv m b, B ≤ g ∧ B ≤ m ∧ B ≤ b ∧ Blk w g 64 (gcells S sv m b) ∧ w.ownsRow B 2 1 sv S.n (ints .i64 S.share) ∧ Mp w m .i64 (lv S.l) ∧ Wst w b S.n S.st ∧ S.n ≤ 32
theorem Blk_ne {w : World} {g h : Nat} {t u : TypeId} {cs ds : Array Value} (a : Blk w g t cs) (b : Blk w h u ds) (hn : t ≠ u) : g ≠ h := by
  rintro rfl
  unfold Blk at a b
  rw [a] at b
  injection b with b
  injection b with _ b
  exact hn b
theorem Blk_ne_map {w : World} {g r : Nat} {t : TypeId} {cs : Array Value} {k : IntKind} {L : List (Int × Value)} (a : Blk w g t cs) (b : Mp w r k L) : g ≠ r := by
  rintro rfl
  obtain ⟨es, c, h, _⟩ := b
  unfold Blk at a
  rw [a] at h
  cases h
theorem und61 : Try.prog.underlying 61 = some (.map 2 76) := by kernel_rfl
theorem und2 : Try.prog.underlying 2 = some (.int .i64) := by kernel_rfl
@[go_sem] theorem eql_map {w : World} (r : Nat) : (binOp .eql 61 (.map (some r)) (.map none)).run Try.prog w = .ok (.bool false) w := by
  unfold binOp Op.equal
  rw [show Op.maxDepth = 9999 + 1 from rfl]
  unfold Op.equalIn
  simp [run_underlying und61, Result.andThen]
theorem own_far {w w' : World} {B e size n : Nat} {v : Value} {xs : List Value} (h : w.ownsRow B e size v n xs) (hk : ∀ (k : Nat) (cs : Array Value), w.heap[k]? = some (Obj.cells cs e (0, 0)) → w'.heap[k]? = w.heap[k]?) : w'.ownsRow B e size v n xs := by
  refine ⟨h.1, ?_⟩
  rcases h.2 with hn | ⟨g, cap, cur, hv, hb, hg, rest⟩
  · exact .inl hn
  · exact .inr ⟨g, cap, cur, hv, hb, (hk _ _ hg).trans hg, rest⟩
theorem Mp_far {w w' : World} {r : Nat} {k : IntKind} {L : List (Int × Value)} (h : Mp w r k L) (hk : w'.heap[r]? = w.heap[r]?) : Mp w' r k L := by
  obtain ⟨es, c, h1, h2⟩ := h
  exact ⟨es, c, hk.trans h1, h2⟩
theorem Blk_farh {w w' : World} {r : Nat} {t : TypeId} {cs : Array Value} (h : Blk w r t cs) (hk : w'.heap[r]? = w.heap[r]?) : Blk w' r t cs := hk.trans h
/-- The gate behind a write into its validators' row alone. -/
theorem gate_st {w w' : World} {B g : Nat} {S : GS} {sv : Value} {m b : Nat} {st : Nat → GSt} {cs cs' : Array Value} (h1 : B ≤ g) (h2 : B ≤ m) (h3 : B ≤ b) (hg : Blk w g 64 (gcells S sv m b)) (hsh : w.ownsRow B 2 1 sv S.n (ints .i64 S.share)) (hmp : Mp w m .i64 (lv S.l)) (hn : S.n ≤ 32)
    (hb : Blk w b 44 cs) (hfar : ∀ k, k ≠ b → w'.heap[k]? = w.heap[k]?) (hb' : Blk w' b 44 cs') (hcs : 4 * S.n ≤ cs'.size)
    (hall : ∀ u, u < S.n → cs'[u * 4]? = some (.int .i64 (st u).many) ∧ cs'[u * 4 + 1]? = some (.int .i64 (st u).large) ∧ cs'[u * 4 + 2]? = some (.int .i64 (st u).own) ∧ cs'[u * 4 + 3]? = some (.int .i64 (st u).drops)) :
    GateIn w' B g { S with st := st } := by
  refine ⟨sv, m, b, h1, h2, h3, Blk_farh hg (hfar _ (Blk_ne hg hb (by decide))), own_far hsh fun k cs hk => hfar _ ?_, Mp_far hmp (hfar _ fun e => ?_), ⟨cs', hb', hcs, hall⟩, hn⟩
  · exact Blk_ne (t := 2) hk hb (by decide)
  · exact Blk_ne_map hb hmp e.symm
theorem none_runs (B g : Nat) (S : GS) (w : World) (h : GateIn w B g S) : Runs Try.prog 33 #[.pointer (some ⟨g, 0, none⟩)] w (.bool false) w := by
  obtain ⟨sv, m, b, h1, h2, h3, hg, hsh, hmp, hst, hn⟩ := h
  have hcell := hg.cell
  have hlt := hg.lt
  simp only [gcells] at hcell
  refine runs_of_callE ?_
  refine calls_E Try.func33 rfl rfl rfl (Nat.le_of_ble_eq_true rfl) ?_
  simp [go_sem, IntWalk.iteOmega, IntWalk.toNatUp, hcell]
theorem noinit_none : Try.prog.inits.idxOf? 33 = none := by kernel_rfl
theorem large_runs (B g : Nat) (S : GS) (w : World) (h : GateIn w B g S) : Runs Try.prog 20 #[.pointer (some ⟨g, 0, none⟩)] w (.int .i64 S.free) w := by
  have hno := fun k => callE_eq noinit_none (none_runs B g S w h) k
  obtain ⟨sv, m, b, h1, h2, h3, hg, hsh, hmp, hst, hn⟩ := h
  have hcell := hg.cell
  have hlt := hg.lt
  simp only [gcells] at hcell
  refine runs_of_callE ?_
  refine calls_E Try.func20 rfl rfl rfl (Nat.le_of_ble_eq_true rfl) ?_
  simp [go_sem, IntWalk.iteOmega, IntWalk.toNatUp, hcell, hno]
theorem noinit_large : Try.prog.inits.idxOf? 20 = none := by kernel_rfl
theorem refuses_any (B g : Nat) (S : GS) (w : World) (h : GateIn w B g S) (v : Nat) (hv : v < S.n) (e : Int) :
    callE Try.prog 35 #[.pointer (some ⟨g, 0, none⟩), .int .i64 v, .int .i64 e] w fun u w' => u = .tuple #[.int .i64 0, .int .i64 e] ∧
      GateIn w' B g (S.setSt v { S.st v with drops := IntKind.i64.wrap ((S.st v).drops + 1) }) ∧ Below B w w' := by
  obtain ⟨sv, m, b, h1, h2, h3, hg, hsh, hmp, ⟨cs, hb, hcs, hall⟩, hn⟩ := h
  have hcell := hg.cell
  have hlt := hg.lt
  have hbcell := hb.cell
  have hblt := hb.lt
  have hbfr := hb.frozen
  obtain ⟨x0, x1, x2, x3⟩ := hall v hv
  simp only [gcells] at hcell
  refine calls_E Try.func35 rfl rfl rfl (Nat.le_of_ble_eq_true rfl) ?_
  simp [go_sem, IntWalk.iteOmega, IntWalk.toNatUp, hcell, hbcell, x3, hbfr, hv]
  refine ⟨gate_st h1 h2 h3 hg hsh hmp hn hb (fun k hk => Below.heap_setCell _ _ _ _ hk) (Blk_set hb) (by simpa using hcs) fun u hu => ?_, (Below.refl _ _).setCell h3 _⟩
  obtain ⟨y0, y1, y2, y3⟩ := hall u hu
  by_cases hvu : u = v
  · subst hvu
    simp [Array.getElem?_setIfInBounds, y0, y1, y2]; omega
  · have hvu' : ¬ v = u := fun e => hvu e.symm
    simp [Array.getElem?_setIfInBounds, y0, y1, y2, y3, hvu]
    refine ⟨by omega, by omega, by omega, by omega⟩
theorem noinit_refuses : Try.prog.inits.idxOf? 35 = none := by kernel_rfl
theorem ifwrap (x : Int) : (if -9223372036854775808 ≤ x ∧ x ≤ 9223372036854775807 then x else wrapO .i64 x) = IntKind.i64.wrap x := by simp [go_sem]
def GS.count (S : GS) (v : Nat) (many large own : Int) : GS :=
  { S with free := IntKind.i64.wrap (S.free - large), st := fun u => if u = v then { many := IntKind.i64.wrap ((S.st v).many + many), large := IntKind.i64.wrap ((S.st v).large + large), own := IntKind.i64.wrap ((S.st v).own + own), drops := (S.st v).drops } else S.st u }
theorem counts_any (B g : Nat) (S : GS) (w : World) (h : GateIn w B g S) (v : Nat) (hv : v < S.n) (many large own : Int) :
    callE Try.prog 34 #[.pointer (some ⟨g, 0, none⟩), .int .i64 v, .int .i64 many, .int .i64 large, .int .i64 own] w fun u w' => GateIn w' B g (S.count v many large own) ∧ Below B w w' := by
  obtain ⟨sv, m, b, h1, h2, h3, hg, hsh, hmp, ⟨cs, hb, hcs, hall⟩, hn⟩ := h
  have hcell := hg.cell
  have hlt := hg.lt
  have hgfr := hg.frozen
  have hbcell := hb.cell
  have hblt := hb.lt
  have hbfr := hb.frozen
  have hgb := Blk_ne hg hb (by decide)
  obtain ⟨x0, x1, x2, x3⟩ := hall v hv
  simp only [gcells] at hcell
  refine calls_E Try.func34 rfl rfl rfl (Nat.le_of_ble_eq_true rfl) ?_
  simp [go_sem, IntWalk.iteOmega, IntWalk.toNatUp, hcell, hgfr]
  have hfree : (if -9223372036854775808 ≤ S.free - large ∧ S.free - large ≤ 9223372036854775807 then S.free - large else wrapO .i64 (S.free - large)) = IntKind.i64.wrap (S.free - large) := by simp [go_sem]
  rw [hfree]
  obtain ⟨x, hx⟩ : ∃ x, x = Value.int .i64 (IntKind.i64.wrap (S.free - large)) := ⟨_, rfl⟩
  simp only [← hx]
  have hb2 : Blk (w.setCell ⟨g, 8, none⟩ x) b 44 cs := by rw [Blk_far (Ne.symm hgb)]; exact hb
  have hg2 := Blk_set (o := 8) (v := x) hg
  have k2 : Below B w (w.setCell ⟨g, 8, none⟩ x) := (Below.refl _ _).setCell h1 _
  have f2 : ∀ k, k ≠ g → (w.setCell ⟨g, 8, none⟩ x).heap[k]? = w.heap[k]? := fun k hk => Below.heap_setCell _ _ _ _ hk
  generalize w.setCell ⟨g, 8, none⟩ x = W at *
  have hbcell := hb2.cell
  have hblt := hb2.lt
  have hbfr := hb2.frozen
  refine W_fork (.pure 0 (.pure 1 (.pure 2 (.pure 3 (.pure 4 (.pure 5 (.pure 7 (.pure 9 (.pure 10 (.pure 11 (.pure 13 (.pure 15 (.pure 16 (.pure 17 (.pure 19 (.alt 6 (.pure 8 (.alt 12 (.pure 14 (.alt 18 (.pure 20 (.pure 21 (.pure 22 (.alt 23 (.pure 24 (.pure 25 (.alt 26 (.pure 27 (.pure 28 (.alt 29 (.done) (.no)))) (.no)))) (.no))))) (.no))) (.alt 18 (.pure 20 (.alt 12 (.pure 14 (.pure 21 (.pure 22 (.alt 23 (.pure 24 (.pure 25 (.alt 26 (.pure 27 (.pure 28 (.alt 29 (.done) (.no)))) (.no)))) (.no))))) (.no))) (.no)))) (.alt 12 (.pure 14 (.alt 6 (.pure 8 (.alt 18 (.pure 20 (.pure 21 (.pure 22 (.alt 23 (.pure 24 (.pure 25 (.alt 26 (.pure 27 (.pure 28 (.alt 29 (.done) (.no)))) (.no)))) (.no))))) (.no))) (.alt 18 (.pure 20 (.alt 6 (.pure 8 (.pure 21 (.pure 22 (.alt 23 (.pure 24 (.pure 25 (.alt 26 (.pure 27 (.pure 28 (.alt 29 (.done) (.no)))) (.no)))) (.no))))) (.no))) (.no)))) (.alt 18 (.pure 20 (.alt 6 (.pure 8 (.alt 12 (.pure 14 (.pure 21 (.pure 22 (.alt 23 (.pure 24 (.pure 25 (.alt 26 (.pure 27 (.pure 28 (.alt 29 (.done) (.no)))) (.no)))) (.no))))) (.no))) (.alt 12 (.pure 14 (.alt 6 (.pure 8 (.pure 21 (.pure 22 (.alt 23 (.pure 24 (.pure 25 (.alt 26 (.pure 27 (.pure 28 (.alt 29 (.done) (.no)))) (.no)))) (.no))))) (.no))) (.no)))) (.no))))))))))))))))))) follows (by kernel_rfl) (fun _ W' => GateIn W' B g (S.count v many large own) ∧ Below B w W') ?_ fun s' W' hk => by simpa [go_sem] using hk
  simp [go_sem, IntWalk.iteOmega, IntWalk.toNatUp, hbcell, hbfr, x0, x1, x2]
  simp only [ifwrap]
  subst hx
  have hg3 : Blk W g 64 (gcells { S with free := IntKind.i64.wrap (S.free - large) } sv m b) := hg2
  have hsh3 : W.ownsRow B 2 1 sv S.n (ints .i64 S.share) := own_far hsh fun k cs hk => f2 _ (Blk_ne (t := 2) hk hg (by decide))
  have hmp3 : Mp W m .i64 (lv S.l) := Mp_far hmp (f2 _ fun e => Blk_ne_map hg hmp e.symm)
  have k3 : ∀ p1 p2 p3 : Value, Below B w (((W.setCell ⟨b, v * 4, none⟩ p1).setCell ⟨b, v * 4 + 1, none⟩ p2).setCell ⟨b, v * 4 + 2, none⟩ p3).drew := fun p1 p2 p3 => (((k2.setCell h3 _).setCell h3 _).setCell h3 _).drew
  refine ⟨gate_st (S := { S with free := IntKind.i64.wrap (S.free - large) }) h1 h2 h3 hg3 hsh3 hmp3 hn hb2 (fun k hk => ?_) ((Blk_set (Blk_set (Blk_set hb2))).drew) (by simpa using hcs) fun u hu => ?_, k3 _ _ _⟩
  · show (((W.setCell ⟨b, v * 4, none⟩ _).setCell ⟨b, v * 4 + 1, none⟩ _).setCell ⟨b, v * 4 + 2, none⟩ _).heap[k]? = _
    rw [Below.heap_setCell _ _ _ _ hk, Below.heap_setCell _ _ _ _ hk, Below.heap_setCell _ _ _ _ hk]
  obtain ⟨y0, y1, y2, y3⟩ := hall u hu
  by_cases hvu : u = v
  · subst hvu
    simp [Array.getElem?_setIfInBounds, y3]; omega
  · refine ⟨?_, ?_, ?_, ?_⟩ <;> rw [Array.getElem?_setIfInBounds_ne (by omega), Array.getElem?_setIfInBounds_ne (by omega), Array.getElem?_setIfInBounds_ne (by omega)]
    · simp [y0, hvu]
    · simp [y1, hvu]
    · simp [y2, hvu]
    · simp [y3, hvu]
theorem noinit_counts : Try.prog.inits.idxOf? 34 = none := by kernel_rfl
theorem info76 : (Try.prog.info? 76).map (·.zero) = some (some (.agg #[.int .i64 0, .int .i64 0, .int .i64 0])) := by kernel_rfl
theorem zero_in76 (w : World) : (zeroValue 76).run Try.prog w = .ok (.agg #[.int .i64 0, .int .i64 0, .int .i64 0]) w := by
  obtain ⟨i, h1, h2⟩ := Option.map_eq_some_iff.1 info76
  simp [zeroValue, typeInfo, program, Sem.run, h1, h2, Result.andThen]
theorem GateIn.grow {w w' : World} {B g : Nat} {S : GS} (h : GateIn w B g S) (hb : Below w.heap.size w w') : GateIn w' B g S := by
  obtain ⟨sv, m, b, h1, h2, h3, hg, hsh, hmp, ⟨cs, hst, hr⟩, hn⟩ := h
  exact ⟨sv, m, b, h1, h2, h3, hg.keep hb, own_far hsh fun k cs hk => hb.block _ (Blk.lt (t := 2) hk), hmp.keep hb, ⟨cs, hst.keep hb, hr⟩, hn⟩
theorem Below.mapPut {B : Nat} {a w : World} (h : Below B a w) {r : Nat} (hr : B ≤ r) (k v : Value) (d : TypeDesc) : Below B a (mapPut w r k v d) := by
  refine ⟨?_, ?_, ?_, by rw [mapPut_size]; exact h.size, fun j hj => by rw [mapPut_far _ _ _ _ _ (by omega)]; exact h.block j hj⟩
  · rw [← h.os]; unfold Go.Proofs.Ytilpmnbnjeahnaa.mapPut; split
    · split <;> rfl
    · rfl
  · rw [← h.tape]; unfold Go.Proofs.Ytilpmnbnjeahnaa.mapPut; split
    · split <;> rfl
    · rfl
  · rw [← h.output]; unfold Go.Proofs.Ytilpmnbnjeahnaa.mapPut; split
    · split <;> rfl
    · rfl
theorem Below.mapDel {B : Nat} {a w : World} (h : Below B a w) {r : Nat} (hr : B ≤ r) (k : Value) (d : TypeDesc) : Below B a (mapDel w r k d) := by
  refine ⟨?_, ?_, ?_, by rw [mapDel_size]; exact h.size, fun j hj => by rw [mapDel_far _ _ _ _ (by omega)]; exact h.block j hj⟩
  · rw [← h.os]; unfold Go.Proofs.Ytilpmnbnjeahnaa.mapDel; split
    · split <;> rfl
    · rfl
  · rw [← h.tape]; unfold Go.Proofs.Ytilpmnbnjeahnaa.mapDel; split
    · split <;> rfl
    · rfl
  · rw [← h.output]; unfold Go.Proofs.Ytilpmnbnjeahnaa.mapDel; split
    · split <;> rfl
    · rfl
/-- what the gate's Leave does -/
def GS.leave (S : GS) (t : Int) : GS × Int :=
  match atG t S.l with
  | some x => (({ S with l := delG t S.l } : GS).count x.v (-1) (IntKind.i64.wrap (-x.large)) (IntKind.i64.wrap (-x.own)), 0)
  | none => (S, 4)
theorem gate_map {w w' : World} {B g : Nat} {S : GS} {sv : Value} {m b : Nat} {L : List (Int × GIn)} {cs : Array Value} (h1 : B ≤ g) (h2 : B ≤ m) (h3 : B ≤ b) (hg : Blk w g 64 (gcells S sv m b)) (hsh : w.ownsRow B 2 1 sv S.n (ints .i64 S.share)) (hmp : Mp w m .i64 (lv S.l)) (hst : Wst w b S.n S.st) (hn : S.n ≤ 32)
    (hfar : ∀ k, k ≠ m → w'.heap[k]? = w.heap[k]?) (hm' : Mp w' m .i64 (lv L)) : GateIn w' B g { S with l := L } := by
  obtain ⟨es, c, h, hE⟩ := id hmp
  obtain ⟨cs, hb, hr⟩ := hst
  refine ⟨sv, m, b, h1, h2, h3, Blk_farh hg (hfar _ (Blk_ne_map hg hmp)), own_far hsh fun k cs hk => hfar _ (Blk_ne_map (t := 2) hk hmp), hm', ⟨cs, Blk_farh hb (hfar _ (Blk_ne_map hb hmp)), hr⟩, hn⟩
theorem leave_any (B g : Nat) (S : GS) (w : World) (hB : B ≤ w.heap.size) (h : GateIn w B g S) (hl : ∀ x ∈ S.l, x.2.v < S.n) (t : Int) :
    callE Try.prog 16 #[.pointer (some ⟨g, 0, none⟩), .int .i64 t] w fun u w' => u = .int .i64 (S.leave t).2 ∧ GateIn w' B g (S.leave t).1 ∧ Below B w w' := by
  have hno := fun k => callE_eq noinit_none (none_runs B g S w h) k
  obtain ⟨sv, m, b, h1, h2, h3, hg, hsh, hmp, hst, hn⟩ := id h
  have hcell := hg.cell
  have hlt := hg.lt
  have hgfr := hg.frozen
  simp only [gcells] at hcell
  have hlook := run_lookup_int hmp und61 und2 t (zero_in76 w)
  rw [atKey_lv] at hlook
  refine calls_E Try.func16 rfl rfl rfl (Nat.le_of_ble_eq_true rfl) ?_
  cases hat : atG t S.l with
  | none =>
    have hlv : S.leave t = (S, 4) := by simp [GS.leave, hat]
    rw [hat] at hlook
    simp [go_sem, IntWalk.iteOmega, IntWalk.toNatUp, hcell, hno, hlook, hlv]
    exact ⟨h.grow (ext_alloc _ _), (Below.refl _ _).alloc hB _⟩
  | some x =>
    obtain ⟨v, a, o⟩ := x
    have hv : v < S.n := hl _ (at_in hat)
    have hlv : S.leave t = (({ S with l := delG t S.l } : GS).count v (-1) (IntKind.i64.wrap (-a)) (IntKind.i64.wrap (-o)), 0) := by simp [GS.leave, hat]
    rw [hat] at hlook
    have hlook : (Instr.lookup 61 (.map (some m)) (.int .i64 t) true).run Try.prog w = .ok (.tuple #[.agg #[.int .i64 v, .int .i64 a, .int .i64 o], .bool true]) w := hlook
    have hg2 := hg.more (.cells #[.int .i64 v, .int .i64 a, .int .i64 o] 76)
    have hmp2 := hmp.keep (ext_alloc w (.cells #[.int .i64 v, .int .i64 a, .int .i64 o] 76))
    have hcell2 := hg2.cell
    simp only [gcells] at hcell2
    have hdel := fun ty => run_delete_int (ty := ty) hmp2 und61 und2 t (t2 := 2)
    have k2 := ext_alloc w (.cells #[.int .i64 v, .int .i64 a, .int .i64 o] 76)
    have hgw := h.grow k2
    have hx2 : Blk (w.alloc (.cells #[.int .i64 v, .int .i64 a, .int .i64 o] 76)) w.heap.size 76 #[.int .i64 v, .int .i64 a, .int .i64 o] := Blk.self_ rfl
    have hne : w.heap.size ≠ m := fun e => absurd hmp.lt (by omega)
    have hx3 : Blk (mapDel (w.alloc (.cells #[.int .i64 v, .int .i64 a, .int .i64 o] 76)) m (.int .i64 t) (.int .i64)) w.heap.size 76 #[.int .i64 v, .int .i64 a, .int .i64 o] := by rw [Blk_mapDel hne]; exact hx2
    have hx3c := hx3.cell
    have hsh2 := own_far hsh fun k cs hk => k2.block _ (Blk.lt (t := 2) hk)
    have hst2 : Wst (w.alloc (.cells #[.int .i64 v, .int .i64 a, .int .i64 o] 76)) b S.n S.st := by
      obtain ⟨cs, hb, hr⟩ := hst
      exact ⟨cs, hb.keep k2, hr⟩
    have hmp3 := hmp2.del t
    rw [delKey_lv] at hmp3
    have hG := gate_map (L := delG t S.l) (cs := #[]) h1 h2 h3 hg2 hsh2 hmp2 hst2 hn (fun k hk => mapDel_far _ _ _ _ hk) hmp3
    have kB : Below B w (mapDel (w.alloc (.cells #[.int .i64 v, .int .i64 a, .int .i64 o] 76)) m (.int .i64 t) (.int .i64)) := Below.mapDel ((Below.refl _ _).alloc hB _) h2 _ _
    simp [go_sem, IntWalk.iteOmega, IntWalk.toNatUp, hcell, hno, hlook, hcell2, hdel, hx3c]
    refine callE_of (counts_any B g _ _ hG v hv _ _ _) ?_
    rintro u w1 ⟨hG1, k1⟩
    simp [go_sem, IntWalk.iteOmega, IntWalk.toNatUp, hlv]
    exact ⟨hG1, kB.trans k1⟩
theorem noinit_leave : Try.prog.inits.idxOf? 16 = none := by kernel_rfl
end Go.Proofs.Ytilpmnbnjeahnaa
