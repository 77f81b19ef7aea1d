/-
  Texts joined: HFlat, HEq, HSame.
-/
import Derived.Test.YtjjopoigbonjbaaGreatDoorJoin33
import Derived.KernelRfl
namespace Go.Proofs.YtjjopoigbonjbaaGreatDoor.Ho
open Go Go.Proofs Go.RowKit
open Ex (FK FlatT FlatFs cellsEq KKT)
set_option linter.unusedVariables false
set_option linter.unusedSimpArgs false
set_option maxRecDepth 10000
theorem cellsEq_app_some {gs : List FK} {l' m' : List Value} {b2 : Bool} (h2 : cellsEq gs l' m' = some b2) : ∀ {fs : List FK} {l m : List Value} {b1 : Bool}, cellsEq fs l m = some b1 → cellsEq (fs ++ gs) (l ++ l') (m ++ m') = some (b1 && b2)
  | [], [], [], b1, h => by
    cases h
    simpa using h2
  | f :: fs, x :: l, y :: m, b1, h => by
    obtain ⟨c1, c2, h3, h4, rfl⟩ := Ex.cellsEq_cons h
    have ih := cellsEq_app_some h2 h4
    show (match Ex.cellEq f x y with
      | some true => cellsEq (fs ++ gs) (l ++ l') (m ++ m')
      | some false => (match cellsEq (fs ++ gs) (l ++ l') (m ++ m') with | some _ => some false | none => none)
      | none => none) = _
    rw [h3, ih]
    cases c1 <;> simp
  | [], _ :: _, _, _, h => by cases h
  | [], [], _ :: _, _, h => by cases h
  | _ :: _, [], _, _, h => by cases h
  | _ :: _, _ :: _, [], _, h => by cases h
theorem cellsEq_bytes : ∀ (x y : List UInt8), x.length = y.length → cellsEq (List.replicate x.length (.int .u8)) (bl x) (bl y) = some (x == y)
  | [], [], _ => rfl
  | a :: x, b :: y, h => by
    have ih := cellsEq_bytes x y (by simpa using h)
    have h1 : cellsEq [.int .u8] [.int .u8 (a.toNat : Int)] [.int .u8 (b.toNat : Int)] = some (a == b) := by
      have e : Ex.cellEq (.int .u8) (.int .u8 (a.toNat : Int)) (.int .u8 (b.toNat : Int)) = some (a == b) := by
        show some (Ex.ieq (a.toNat : Int) (b.toNat : Int)) = _
        congr 1
        show Nat.beq a.toNat b.toNat = (a == b)
        rw [Bool.eq_iff_iff, beq_iff_eq, Nat.beq_eq]
        exact UInt8.toNat_inj
      show (match Ex.cellEq (.int .u8) (.int .u8 (a.toNat : Int)) (.int .u8 (b.toNat : Int)) with
        | some true => some true
        | some false => (match (some true : Option Bool) with | some _ => some false | none => none)
        | none => none) = _
      rw [e]
      cases a == b <;> rfl
    exact cellsEq_app_some ih h1
  | [], _ :: _, h => by cases h
  | _ :: _, [], h => by cases h
theorem cell_one {f : FK} {x y : Value} {b : Bool} (h : Ex.cellEq f x y = some b) : cellsEq [f] [x] [y] = some b := by
  show (match Ex.cellEq f x y with
    | some true => some true
    | some false => (match (some true : Option Bool) with | some _ => some false | none => none)
    | none => none) = _
  rw [h]
  cases b <;> rfl
theorem cell_int (m n : Int) : cellsEq [.int .i64] [.int .i64 m] [.int .i64 n] = some (decide (m = n)) := by
  refine cell_one ?_
  show some (Ex.ieq m n) = _
  rw [Ex.ieq_eq]
  rfl
noncomputable def stdK : List FK := [.str, .bool, .bool, .int .i64, .int .i64] ++ List.replicate 32 (.int .u8) ++ List.replicate 32 (.int .u8)
theorem std_eq {s t : Std} (hs : s.OK) (ht : t.OK) : cellsEq stdK (stdCells s) (stdCells t) = some (decide (s.name = t.name ∧ s.byz = t.byz ∧ s.down = t.down ∧ s.phase = t.phase ∧ s.height = t.height ∧ s.last = t.last ∧ s.pref = t.pref)) := by
  have h1 : cellsEq [.str, .bool, .bool, .int .i64, .int .i64] [.string (strOf s.name), .bool s.byz, .bool s.down, .int .i64 s.phase, .int .i64 s.height] [.string (strOf t.name), .bool t.byz, .bool t.down, .int .i64 t.phase, .int .i64 t.height] = some (decide (s.name = t.name ∧ s.byz = t.byz ∧ s.down = t.down ∧ s.phase = t.phase ∧ s.height = t.height)) := by
    have e1 := cell_one (f := .str) (x := .string (strOf s.name)) (y := .string (strOf t.name)) (b := decide (s.name = t.name)) (by
      show some (Ex.bytesEq (strOf s.name).data.toList (strOf t.name).data.toList) = _
      rw [Ex.bytesEq_eq]
      congr 1
      show (s.name == t.name) = decide (s.name = t.name)
      by_cases h : s.name = t.name
      · rw [h]; simp
      · rw [decide_eq_false h]; exact beq_eq_false_iff_ne.2 h)
    have e2 := cell_one (f := .bool) (x := .bool s.byz) (y := .bool t.byz) (b := decide (s.byz = t.byz)) (by cases s.byz <;> cases t.byz <;> rfl)
    have e3 := cell_one (f := .bool) (x := .bool s.down) (y := .bool t.down) (b := decide (s.down = t.down)) (by cases s.down <;> cases t.down <;> rfl)
    have e4 := cell_int s.phase t.phase
    have e5 := cell_int s.height t.height
    have := cellsEq_app_some e5 (cellsEq_app_some e4 (cellsEq_app_some e3 (cellsEq_app_some e2 e1)))
    refine this.trans ?_
    congr 1
    rw [Bool.eq_iff_iff]
    simp
    constructor
    · rintro ⟨⟨⟨⟨a, b⟩, c⟩, d⟩, e⟩; exact ⟨a, b, c, d, e⟩
    · rintro ⟨a, b, c, d, e⟩; exact ⟨⟨⟨⟨a, b⟩, c⟩, d⟩, e⟩
  have h2 := cellsEq_bytes s.last t.last (by rw [hs.1, ht.1])
  have h3 := cellsEq_bytes s.pref t.pref (by rw [hs.2, ht.2])
  rw [hs.1] at h2
  rw [hs.2] at h3
  have h := cellsEq_app_some h3 (cellsEq_app_some h2 h1)
  rw [stdK, stdCells, stdCells, h]
  congr 1
  rw [Bool.eq_iff_iff]
  simp
  constructor
  · rintro ⟨⟨a, b⟩, c⟩; exact ⟨a.1, a.2.1, a.2.2.1, a.2.2.2.1, a.2.2.2.2, b, c⟩
  · rintro ⟨a1, a2, a3, a4, a5, b, c⟩; exact ⟨⟨⟨a1, a2, a3, a4, a5⟩, b⟩, c⟩
theorem wide_bin {P : Program} {w : World} {t : TypeId} {l : List FK} (hk : KKT P t (.wide l)) {xs ys : List Value} {b : Bool} (h : cellsEq l xs ys = some b) : (binOp .neq t (.agg ⟨xs⟩) (.agg ⟨ys⟩)).run P w = .ok (.bool (!b)) w ∧ (binOp .eql t (.agg ⟨xs⟩) (.agg ⟨ys⟩)).run P w = .ok (.bool b) w := by
  have h1 : (Op.equal t (.agg ⟨xs⟩) (.agg ⟨ys⟩)).run P w = .ok b w := Ex.wide_equal hk (by unfold Ex.wideEq Ex.aggA; exact h)
  have h2 := fun o => Ex.binOp_eq (v := .agg ⟨xs⟩) (v' := .agg ⟨ys⟩) t (fun _ _ h => by cases h) (fun _ h => by cases h) (fun _ _ h => by cases h) (fun _ _ _ h => by cases h) o
  constructor
  · rw [h2 .neq]; simp [Sem.run_bind, h1, Result.andThen]
  · rw [h2 .eql]; simp [Sem.run_bind, h1, Result.andThen]
theorem fl_id : FlatT Tryz.prog 2 58 (List.replicate 32 (.int .u8)) := by
  obtain ⟨i, hi, hs⟩ := Option.map_eq_some_iff.1 (show (Tryz.prog.info? 5).map (·.size) = some 1 by kernel_rfl)
  exact .inr (.inr (.inr (.inl ⟨32, 5, [.int .u8], i, Tryz.underlying58, hi, hs, .inl ⟨.u8, Tryz.underlying5, rfl⟩, rfl⟩)))
theorem info_sz (t n : Nat) (h : (Tryz.prog.info? t).map (·.size) = some n) : ∃ j, Tryz.prog.info? t = some j ∧ j.size = n := Option.map_eq_some_iff.1 h
theorem fl_stand : KKT Tryz.prog 60 (.wide stdK) := by
  obtain ⟨i1, hi1, hs1⟩ := info_sz 9 1 (by kernel_rfl)
  obtain ⟨i2, hi2, hs2⟩ := info_sz 4 1 (by kernel_rfl)
  obtain ⟨i3, hi3, hs3⟩ := info_sz 3 1 (by kernel_rfl)
  obtain ⟨i4, hi4, hs4⟩ := info_sz 2 1 (by kernel_rfl)
  obtain ⟨i5, hi5, hs5⟩ := info_sz 58 32 (by kernel_rfl)
  refine ⟨.inr ⟨_, Tryz.underlying60⟩, 3, by omega, .inr (.inr (.inr (.inr ⟨_, Tryz.underlying60, by kernel_rfl, ?_⟩)))⟩
  refine ⟨by decide, rfl, [.str], _, i1, hi1, hs1.trans rfl, .inr (.inr (.inl ⟨Tryz.underlying9, rfl⟩)), ?_, rfl⟩
  refine ⟨by decide, rfl, [.bool], _, i2, hi2, hs2.trans rfl, .inr (.inl ⟨Tryz.underlying4, rfl⟩), ?_, rfl⟩
  refine ⟨by decide, rfl, [.bool], _, i2, hi2, hs2.trans rfl, .inr (.inl ⟨Tryz.underlying4, rfl⟩), ?_, rfl⟩
  refine ⟨by decide, rfl, [.int .i64], _, i3, hi3, hs3.trans rfl, .inl ⟨.i64, Tryz.underlying3, rfl⟩, ?_, rfl⟩
  refine ⟨by decide, rfl, [.int .i64], _, i4, hi4, hs4.trans rfl, .inl ⟨.i64, Tryz.underlying2, rfl⟩, ?_, rfl⟩
  refine ⟨by decide, rfl, List.replicate 32 (.int .u8), List.replicate 32 (.int .u8), i5, hi5, hs5.trans rfl, fl_id, ?_, rfl⟩
  exact ⟨by decide, rfl, List.replicate 32 (.int .u8), [], i5, hi5, hs5.trans rfl, fl_id, rfl, rfl⟩
end Go.Proofs.YtjjopoigbonjbaaGreatDoor.Ho
namespace Go.Proofs.YtjjopoigbonjbaaGreatDoor.Ho
open Go Go.Proofs Go.RowKit
set_option linter.unusedVariables false
set_option linter.unusedSimpArgs false
set_option maxRecDepth 10000
noncomputable instance stdDec : DecidableEq Std := fun a b => Classical.propDecidable (a = b)
abbrev ints (l : List Int) : List Value := l.map (.int .i64)
theorem take_eq {α : Type} {la lb : List α} {i : Nat} (ha : i < la.length) (hb : i < lb.length) (h : la.take i = lb.take i) : la.take (i + 1) = lb.take (i + 1) ↔ la[i] = lb[i] := by
  have e1 : la.take (i + 1) = la.take i ++ [la[i]] := by rw [List.take_add_one, List.getElem?_eq_getElem ha]; rfl
  have e2 : lb.take (i + 1) = lb.take i ++ [lb[i]] := by rw [List.take_add_one, List.getElem?_eq_getElem hb]; rfl
  rw [e1, e2, h]
  simp only [List.append_cancel_left_eq, List.cons.injEq, and_true]
theorem ne_of_at {α : Type} {la lb : List α} {i : Nat} (ha : i < la.length) (hb : i < lb.length) (h : la[i] ≠ lb[i]) : la ≠ lb := by
  rintro rfl; exact h rfl
set_option maxHeartbeats 1600000 in
theorem eqErrs_any (la lb : List Int) (va vb : Value) (w : World) (ha : Sl w 1 va la.length (ints la)) (hb : Sl w 1 vb lb.length (ints lb)) :
    callE Tryz.prog 21 #[va, vb] w fun u w' => u = .bool (decide (la = lb)) ∧ Below w.heap.size w w' := by
  obtain ⟨A, ca, rfl, hra, -, hm1, hm2⟩ := ha
  have hmx : la.length ≤ 9223372036854775807 := Nat.le_trans hm1 hm2
  obtain ⟨B, cb, rfl, hrb, -, -, -⟩ := hb
  refine calls_E Tryz.func21 rfl rfl rfl (Nat.le_of_ble_eq_true rfl) ?_
  by_cases hl : la.length = lb.length
  · have hl' : ((la.length : Int) != lb.length) = false := by simp [hl]
    simp [go_sem, IntWalk.iteOmega, IntWalk.toNatUp, hl']
    refine W_loop (fun s wr => ∃ i : Nat, i ≤ la.length ∧ s 0 = .slice A la.length ca ∧ s 1 = .slice B lb.length cb ∧ s 12 = .int .i64 la.length ∧ s 13 = .int .i64 i ∧ la.take i = lb.take i ∧ Below w.heap.size w wr) (fun s _ => la.length - (intOf (s 13)).toNat) ?_ ?_
    · exact ⟨0, by omega, by simp [go_sem], by simp [go_sem], by simp [go_sem], by simp [go_sem], rfl, Below.refl _ _⟩
    · rintro s wr ⟨i, hi, e0, e1, e12, e13, ht, hB⟩
      by_cases hlt : i < la.length
      · have hlt' : (i : Int) < la.length := by omega
        have hlb : i < lb.length := by omega
        have hlb' : (i : Int) < lb.length := by omega
        obtain ⟨b, o, rfl, hb, hc⟩ := hra.cells (by omega)
        obtain ⟨b', o', rfl, hb', hc'⟩ := hrb.cells (by omega)
        have x0 := hc i (.int .i64 (la[i])) (by simp [ints, List.getElem?_eq_getElem hlt])
        have x1 := hc' i (.int .i64 (lb[i])) (by simp [ints, List.getElem?_eq_getElem hlb])
        rw [← hB.cell (p := ⟨b, o + i, none⟩) hb] at x0
        rw [← hB.cell (p := ⟨b', o' + i, none⟩) hb'] at x1
        have htk := take_eq hlt hlb ht
        have hne := ne_of_at hlt hlb
        generalize la[i] = p at *
        generalize lb[i] = q at *
        simp [go_sem, IntWalk.iteOmega, IntWalk.toNatUp, e0, e1, e12, e13, hlt', hlt]
        refine W_still follows (by kernel_rfl) ?_
        have hbl : b < wr.heap.size := by have := hB.size; omega
        have hbl' : b' < wr.heap.size := by have := hB.size; omega
        have y0 : wr.drew.cell? ⟨b, o + i, none⟩ = some (.int .i64 p) := x0
        have y1 : wr.drew.cell? ⟨b', o' + i, none⟩ = some (.int .i64 q) := x1
        by_cases hpq : p = q
        · have h1 : (p != q) = false := by simp [hpq]
          simp [go_sem, IntWalk.iteOmega, IntWalk.toNatUp, e0, e1, e12, e13, hlt', hlt, hlb, hlb', y0, y1, hbl, hbl', h1]
          refine roundEnd.mk ⟨i + 1, by omega, by simp [go_sem, e0], by simp [go_sem, e1], by simp [go_sem, e12], by simp [go_sem], htk.2 hpq, hB.drew⟩ ?_
          simp [go_sem, intOf]; omega
        · have h1 : (p != q) = true := by simp [hpq]
          simp [go_sem, IntWalk.iteOmega, IntWalk.toNatUp, e0, e1, e12, e13, hlt', hlt, hlb, hlb', y0, y1, hbl, hbl', h1]
          exact ⟨hne hpq, hB.drew⟩
      · obtain rfl : i = la.length := by omega
        have : la = lb := by rw [← List.take_length (l := la), ht, hl, List.take_length]
        simp [go_sem, IntWalk.iteOmega, IntWalk.toNatUp, e0, e1, e12, e13, this]
        exact hB
  · have hl' : ((la.length : Int) != lb.length) = true := by simp; omega
    simp [go_sem, IntWalk.iteOmega, IntWalk.toNatUp, hl']
    have : la ≠ lb := fun h => hl (by rw [h])
    simp [this]
    exact Below.refl _ _
theorem stand_cells' {l : List Std} (hok : ∀ s ∈ l, s.OK) {i : Nat} (hlt : i < l.length) {w wr : World} {b o : Nat} (hc : ∀ (j : Nat) (u : Value), (stands l)[j]? = some u → w.cell? ⟨b, o + j, none⟩ = some u) {B : Nat} (kB : Below B w wr) (hb : b < B) :
    readCells wr ⟨b, o + i * 69, none⟩ 0 69 = some (stdCells l[i]) := by
  have hl : (stdCells l[i]).length = 69 := std_len (hok _ (List.getElem_mem hlt))
  refine readCells_cells 69 0 _ hl fun j v hv => ?_
  have hj : j < 69 := by
    rw [← hl]
    exact (List.getElem?_eq_some_iff.1 hv).1
  have := hc (i * 69 + j) v (by rw [stands_at _ hok i hlt j hj]; exact hv)
  rw [kB.cell (p := ⟨b, _, none⟩) hb]
  rw [← this]
  congr 2
  omega
theorem std_eq' {s t : Std} (hs : s.OK) (ht : t.OK) : Ex.cellsEq stdK (stdCells s) (stdCells t) = some (decide (s = t)) := by
  rw [std_eq hs ht]
  congr 1
  rw [Bool.eq_iff_iff]
  simp only [decide_eq_true_eq]
  obtain ⟨a1, a2, a3, a4, a5, a6, a7⟩ := s
  obtain ⟨b1, b2, b3, b4, b5, b6, b7⟩ := t
  simp
set_option maxHeartbeats 1600000 in
theorem eqStands_any (la lb : List Std) (oka : ∀ s ∈ la, s.OK) (okb : ∀ s ∈ lb, s.OK) (va vb : Value) (w : World) (ha : Sl w 69 va la.length (stands la)) (hb : Sl w 69 vb lb.length (stands lb)) :
    callE Tryz.prog 22 #[va, vb] w fun u w' => u = .bool (decide (la = lb)) ∧ Below w.heap.size w w' := by
  obtain ⟨A, ca, rfl, hra, -, hm1, hm2⟩ := ha
  have hmx : la.length ≤ 9223372036854775807 := Nat.le_trans hm1 hm2
  obtain ⟨B, cb, rfl, hrb, -, -, -⟩ := hb
  refine calls_E Tryz.func22 rfl rfl rfl (Nat.le_of_ble_eq_true rfl) ?_
  by_cases hl : la.length = lb.length
  · have hl' : ((la.length : Int) != lb.length) = false := by simp [hl]
    simp [go_sem, IntWalk.iteOmega, IntWalk.toNatUp, hl']
    refine W_loop (fun s wr => ∃ i : Nat, i ≤ la.length ∧ s 0 = .slice A la.length ca ∧ s 1 = .slice B lb.length cb ∧ s 12 = .int .i64 la.length ∧ s 13 = .int .i64 i ∧ la.take i = lb.take i ∧ Below w.heap.size w wr) (fun s _ => la.length - (intOf (s 13)).toNat) ?_ ?_
    · exact ⟨0, by omega, by simp [go_sem], by simp [go_sem], by simp [go_sem], by simp [go_sem], rfl, Below.refl _ _⟩
    · rintro s wr ⟨i, hi, e0, e1, e12, e13, ht, hB⟩
      by_cases hlt : i < la.length
      · have hlt' : (i : Int) < la.length := by omega
        have hlb : i < lb.length := by omega
        have hlb' : (i : Int) < lb.length := by omega
        obtain ⟨b, o, rfl, hb, hc⟩ := hra.cells (by omega)
        obtain ⟨b', o', rfl, hb', hc'⟩ := hrb.cells (by omega)
        have y0 := stand_cells' oka hlt hc hB.drew hb
        have y1 := stand_cells' okb hlb hc' hB.drew hb'
        have fp := oka _ (List.getElem_mem hlt)
        have fq := okb _ (List.getElem_mem hlb)
        have htk := take_eq hlt hlb ht
        have hne := ne_of_at hlt hlb
        generalize la[i] = p at *
        generalize lb[i] = q at *
        simp [go_sem, IntWalk.iteOmega, IntWalk.toNatUp, e0, e1, e12, e13, hlt', hlt]
        refine W_still follows (by kernel_rfl) ?_
        have hbl : b < wr.heap.size := by have := hB.size; omega
        have hbl' : b' < wr.heap.size := by have := hB.size; omega
        have hbin := fun w => (wide_bin (w := w) fl_stand (std_eq' fp fq)).1
        by_cases hpq : p = q
        · rw [decide_eq_true hpq] at hbin
          simp [go_sem, IntWalk.iteOmega, IntWalk.toNatUp, e0, e1, e12, e13, hlt', hlt, hlb, hlb', y0, y1, hbl, hbl', hbin]
          refine roundEnd.mk ⟨i + 1, by omega, by simp [go_sem, e0], by simp [go_sem, e1], by simp [go_sem, e12], by simp [go_sem], htk.2 hpq, hB.drew⟩ ?_
          simp [go_sem, intOf]; omega
        · rw [decide_eq_false hpq] at hbin
          simp [go_sem, IntWalk.iteOmega, IntWalk.toNatUp, e0, e1, e12, e13, hlt', hlt, hlb, hlb', y0, y1, hbl, hbl', hbin]
          exact ⟨hne hpq, hB.drew⟩
      · obtain rfl : i = la.length := by omega
        have : la = lb := by rw [← List.take_length (l := la), ht, hl, List.take_length]
        simp [go_sem, IntWalk.iteOmega, IntWalk.toNatUp, e0, e1, e12, e13, this]
        exact hB
  · have hl' : ((la.length : Int) != lb.length) = true := by simp; omega
    simp [go_sem, IntWalk.iteOmega, IntWalk.toNatUp, hl']
    have : la ≠ lb := fun h => hl (by rw [h])
    simp [this]
    exact Below.refl _ _
end Go.Proofs.YtjjopoigbonjbaaGreatDoor.Ho
namespace Go.Proofs.YtjjopoigbonjbaaGreatDoor.Ho
open Go Go.Proofs Go.RowKit
open Ex (FK FlatT FlatFs cellsEq KKT)
set_option linter.unusedVariables false
set_option linter.unusedSimpArgs false
set_option maxRecDepth 10000
noncomputable instance repDec : DecidableEq Rep := fun a b => Classical.propDecidable (a = b)
def statCs (r : Rep) : List Value := [.int .i64 r.sent, .int .i64 r.forged, .int .i64 r.delivered, .int .i64 r.refused, .int .i64 r.lost, .int .i64 r.dropped, .int .i64 r.doubled]
def StatEq (a b : Rep) : Prop := a.sent = b.sent ∧ a.forged = b.forged ∧ a.delivered = b.delivered ∧ a.refused = b.refused ∧ a.lost = b.lost ∧ a.dropped = b.dropped ∧ a.doubled = b.doubled
noncomputable instance statDec (a b : Rep) : Decidable (StatEq a b) := Classical.propDecidable _
noncomputable def statK : List FK := [.int .i64, .int .i64, .int .i64, .int .i64, .int .i64, .int .i64, .int .i64]
theorem stat_eq (a b : Rep) : cellsEq statK (statCs a) (statCs b) = some (decide (StatEq a b)) := by
  have := cellsEq_app_some (cell_int a.doubled b.doubled) (cellsEq_app_some (cell_int a.dropped b.dropped) (cellsEq_app_some (cell_int a.lost b.lost) (cellsEq_app_some (cell_int a.refused b.refused) (cellsEq_app_some (cell_int a.delivered b.delivered) (cellsEq_app_some (cell_int a.forged b.forged) (cell_int a.sent b.sent))))))
  refine this.trans ?_
  congr 1
  by_cases hs : StatEq a b
  · rw [decide_eq_true hs]
    obtain ⟨a1, a2, a3, a4, a5, a6, a7⟩ := hs
    simp [a1, a2, a3, a4, a5, a6, a7]
  · rw [decide_eq_false hs, Bool.eq_false_iff]
    intro h
    simp only [Bool.and_eq_true, decide_eq_true_eq] at h
    obtain ⟨⟨⟨⟨⟨⟨a1, a2⟩, a3⟩, a4⟩, a5⟩, a6⟩, a7⟩ := h
    exact hs ⟨a1, a2, a3, a4, a5, a6, a7⟩
theorem fl_stat : KKT Tryz.prog 25 (.wide statK) := by
  obtain ⟨i4, hi4, hs4⟩ := info_sz 2 1 (by kernel_rfl)
  have f4 : FlatT Tryz.prog 1 2 [.int .i64] := .inl ⟨.i64, Tryz.underlying2, rfl⟩
  refine ⟨.inr ⟨_, Tryz.underlying25⟩, 2, by omega, .inr (.inr (.inr (.inr ⟨_, Tryz.underlying25, by kernel_rfl, ?_⟩)))⟩
  refine ⟨by decide, rfl, [.int .i64], _, i4, hi4, hs4.trans rfl, f4, ?_, rfl⟩
  refine ⟨by decide, rfl, [.int .i64], _, i4, hi4, hs4.trans rfl, f4, ?_, rfl⟩
  refine ⟨by decide, rfl, [.int .i64], _, i4, hi4, hs4.trans rfl, f4, ?_, rfl⟩
  refine ⟨by decide, rfl, [.int .i64], _, i4, hi4, hs4.trans rfl, f4, ?_, rfl⟩
  refine ⟨by decide, rfl, [.int .i64], _, i4, hi4, hs4.trans rfl, f4, ?_, rfl⟩
  refine ⟨by decide, rfl, [.int .i64], _, i4, hi4, hs4.trans rfl, f4, ?_, rfl⟩
  exact ⟨by decide, rfl, [.int .i64], [], i4, hi4, hs4.trans rfl, f4, rfl, rfl⟩
theorem rep_eq {a b : Rep} : a = b ↔ a.errs = b.errs ∧ a.stands = b.stands ∧ StatEq a b ∧ a.flight = b.flight ∧ a.facts = b.facts ∧ a.agree = b.agree ∧ a.share = b.share ∧ a.noFlip = b.noFlip ∧ a.boots = b.boots := by
  cases a; cases b
  simp only [Rep.mk.injEq, StatEq]
  constructor
  · rintro ⟨h1, h2, h3, h4, h5, h6, h7, h8, h9, h10, h11, h12, h13, h14, h15⟩
    exact ⟨h1, h2, ⟨h3, h4, h5, h6, h7, h8, h9⟩, h10, h11, h12, h13, h14, h15⟩
  · rintro ⟨h1, h2, ⟨h3, h4, h5, h6, h7, h8, h9⟩, h10, h11, h12, h13, h14, h15⟩
    exact ⟨h1, h2, h3, h4, h5, h6, h7, h8, h9, h10, h11, h12, h13, h14, h15⟩
set_option maxHeartbeats 3200000 in
theorem same_any (a b : Rep) (oka : ∀ s ∈ a.stands, s.OK) (okb : ∀ s ∈ b.stands, s.OK) (ea sa eb sb : Value) (w : World)
    (hea : Sl w 1 ea a.errs.length (ints a.errs)) (hsa : Sl w 69 sa a.stands.length (stands a.stands)) (heb : Sl w 1 eb b.errs.length (ints b.errs)) (hsb : Sl w 69 sb b.stands.length (stands b.stands)) :
    callE Tryz.prog 7 #[.agg (repCells a ea sa), .agg (repCells b eb sb)] w fun u w' => u = .bool (decide (a = b)) ∧ Below w.heap.size w w' := by
  refine calls_E Tryz.func7 rfl rfl rfl (Nat.le_of_ble_eq_true rfl) ?_
  unfold repCells
  have kE : ∀ A B : Array Value, Below w.heap.size w ((w.alloc (.cells A 27)).alloc (.cells B 27)) := fun A B => ext_trans (ext_alloc _ _) (ext_alloc _ _)
  by_cases h1 : a.agree = b.agree
  case neg =>
    have hne : a ≠ b := fun h => h1 (by rw [h])
    have g1 : (a.agree == b.agree) = false := by simp [h1]
    simp [go_sem, IntWalk.iteOmega, IntWalk.toNatUp, g1]
    exact ⟨hne, kE _ _⟩
  have g1 : (a.agree == b.agree) = true := by simp [h1]
  by_cases h2 : a.share = b.share
  case neg =>
    have hne : a ≠ b := fun h => h2 (by rw [h])
    have g2 : (a.share == b.share) = false := by simp [h2]
    simp [go_sem, IntWalk.iteOmega, IntWalk.toNatUp, g1, g2]
    exact ⟨hne, kE _ _⟩
  have g2 : (a.share == b.share) = true := by simp [h2]
  by_cases h3 : a.noFlip = b.noFlip
  case neg =>
    have hne : a ≠ b := fun h => h3 (by rw [h])
    have g3 : (a.noFlip == b.noFlip) = false := by simp [h3]
    simp [go_sem, IntWalk.iteOmega, IntWalk.toNatUp, g1, g2, g3]
    exact ⟨hne, kE _ _⟩
  have g3 : (a.noFlip == b.noFlip) = true := by simp [h3]
  by_cases h4 : a.boots = b.boots
  case neg =>
    have hne : a ≠ b := fun h => h4 (by rw [h])
    have g4 : (a.boots == b.boots) = false := by simp [h4]
    simp [go_sem, IntWalk.iteOmega, IntWalk.toNatUp, g1, g2, g3, g4]
    exact ⟨hne, kE _ _⟩
  have g4 : (a.boots == b.boots) = true := by simp [h4]
  simp [go_sem, IntWalk.iteOmega, IntWalk.toNatUp, g1, g2, g3, g4]
  generalize hA : (#[ea, sa, .int .i64 a.sent, .int .i64 a.forged, .int .i64 a.delivered, .int .i64 a.refused, .int .i64 a.lost, .int .i64 a.dropped, .int .i64 a.doubled, .int .i64 a.flight, .int .i64 a.facts, .bool a.agree, .bool a.share, .bool a.noFlip, .bool a.boots] : Array Value) = CA
  generalize hC : (#[eb, sb, .int .i64 b.sent, .int .i64 b.forged, .int .i64 b.delivered, .int .i64 b.refused, .int .i64 b.lost, .int .i64 b.dropped, .int .i64 b.doubled, .int .i64 b.flight, .int .i64 b.facts, .bool b.agree, .bool b.share, .bool b.noFlip, .bool b.boots] : Array Value) = CB
  obtain ⟨W, hW⟩ : ∃ W, (w.alloc (.cells CA 27)).alloc (.cells CB 27) = W := ⟨_, rfl⟩
  rw [hW]
  obtain ⟨n0, n1, kW, sW⟩ := news2 hW.symm
  refine callE_of (eqErrs_any a.errs b.errs ea eb W (Sl_on hea kW) (Sl_on heb kW)) ?_
  rintro _ w1 ⟨rfl, k1⟩
  have K1 := ext_trans kW k1
  by_cases h5 : a.errs = b.errs
  case neg =>
    have hne : a ≠ b := fun h => h5 (by rw [h])
    rw [decide_eq_false h5]
    simp [go_sem, IntWalk.iteOmega, IntWalk.toNatUp]
    exact ⟨hne, K1⟩
  rw [decide_eq_true h5]
  have p1 := n0.keep k1
  have q1 := n1.keep k1
  have x1 : w1.cell? ⟨w.heap.size, 1, none⟩ = some sa := by rw [p1.cell, ← hA]; rfl
  have y1 : w1.cell? ⟨w.heap.size + 1, 1, none⟩ = some sb := by rw [q1.cell, ← hC]; rfl
  simp [go_sem, IntWalk.iteOmega, IntWalk.toNatUp, x1, y1]
  refine callE_of (eqStands_any a.stands b.stands oka okb sa sb w1 (Sl_on hsa K1) (Sl_on hsb K1)) ?_
  rintro _ w2 ⟨rfl, k2⟩
  have K2 := ext_trans K1 k2
  by_cases h6 : a.stands = b.stands
  case neg =>
    have hne : a ≠ b := fun h => h6 (by rw [h])
    rw [decide_eq_false h6]
    simp [go_sem, IntWalk.iteOmega, IntWalk.toNatUp]
    exact ⟨hne, K2⟩
  rw [decide_eq_true h6]
  have p2 := p1.keep k2
  have q2 := q1.keep k2
  have u0 : w2.cell? ⟨w.heap.size, 2, none⟩ = some (.int .i64 a.sent) := by rw [p2.cell, ← hA]; rfl
  have v0 : w2.cell? ⟨w.heap.size + 1, 2, none⟩ = some (.int .i64 b.sent) := by rw [q2.cell, ← hC]; rfl
  have u1 : w2.cell? ⟨w.heap.size, 3, none⟩ = some (.int .i64 a.forged) := by rw [p2.cell, ← hA]; rfl
  have v1 : w2.cell? ⟨w.heap.size + 1, 3, none⟩ = some (.int .i64 b.forged) := by rw [q2.cell, ← hC]; rfl
  have u2 : w2.cell? ⟨w.heap.size, 4, none⟩ = some (.int .i64 a.delivered) := by rw [p2.cell, ← hA]; rfl
  have v2 : w2.cell? ⟨w.heap.size + 1, 4, none⟩ = some (.int .i64 b.delivered) := by rw [q2.cell, ← hC]; rfl
  have u3 : w2.cell? ⟨w.heap.size, 5, none⟩ = some (.int .i64 a.refused) := by rw [p2.cell, ← hA]; rfl
  have v3 : w2.cell? ⟨w.heap.size + 1, 5, none⟩ = some (.int .i64 b.refused) := by rw [q2.cell, ← hC]; rfl
  have u4 : w2.cell? ⟨w.heap.size, 6, none⟩ = some (.int .i64 a.lost) := by rw [p2.cell, ← hA]; rfl
  have v4 : w2.cell? ⟨w.heap.size + 1, 6, none⟩ = some (.int .i64 b.lost) := by rw [q2.cell, ← hC]; rfl
  have u5 : w2.cell? ⟨w.heap.size, 7, none⟩ = some (.int .i64 a.dropped) := by rw [p2.cell, ← hA]; rfl
  have v5 : w2.cell? ⟨w.heap.size + 1, 7, none⟩ = some (.int .i64 b.dropped) := by rw [q2.cell, ← hC]; rfl
  have u6 : w2.cell? ⟨w.heap.size, 8, none⟩ = some (.int .i64 a.doubled) := by rw [p2.cell, ← hA]; rfl
  have v6 : w2.cell? ⟨w.heap.size + 1, 8, none⟩ = some (.int .i64 b.doubled) := by rw [q2.cell, ← hC]; rfl
  have u7 : w2.cell? ⟨w.heap.size, 9, none⟩ = some (.int .i64 a.flight) := by rw [p2.cell, ← hA]; rfl
  have v7 : w2.cell? ⟨w.heap.size + 1, 9, none⟩ = some (.int .i64 b.flight) := by rw [q2.cell, ← hC]; rfl
  have u8 : w2.cell? ⟨w.heap.size, 10, none⟩ = some (.int .i64 a.facts) := by rw [p2.cell, ← hA]; rfl
  have v8 : w2.cell? ⟨w.heap.size + 1, 10, none⟩ = some (.int .i64 b.facts) := by rw [q2.cell, ← hC]; rfl
  by_cases h7 : StatEq a b
  case neg =>
    have hne : a ≠ b := fun h => h7 (by rw [h]; exact ⟨rfl, rfl, rfl, rfl, rfl, rfl, rfl⟩)
    have hst : ∀ w, (binOp .eql 25 (.agg #[.int .i64 a.sent, .int .i64 a.forged, .int .i64 a.delivered, .int .i64 a.refused, .int .i64 a.lost, .int .i64 a.dropped, .int .i64 a.doubled]) (.agg #[.int .i64 b.sent, .int .i64 b.forged, .int .i64 b.delivered, .int .i64 b.refused, .int .i64 b.lost, .int .i64 b.dropped, .int .i64 b.doubled])).run Tryz.prog w = .ok (.bool false) w := fun w => by
      have := (wide_bin (w := w) fl_stat (stat_eq a b)).2
      rw [decide_eq_false h7] at this
      exact this
    simp [go_sem, IntWalk.iteOmega, IntWalk.toNatUp, u0, u1, u2, u3, u4, u5, u6, v0, v1, v2, v3, v4, v5, v6, hst]
    exact ⟨hne, K2⟩
  have hst : ∀ w, (binOp .eql 25 (.agg #[.int .i64 a.sent, .int .i64 a.forged, .int .i64 a.delivered, .int .i64 a.refused, .int .i64 a.lost, .int .i64 a.dropped, .int .i64 a.doubled]) (.agg #[.int .i64 b.sent, .int .i64 b.forged, .int .i64 b.delivered, .int .i64 b.refused, .int .i64 b.lost, .int .i64 b.dropped, .int .i64 b.doubled])).run Tryz.prog w = .ok (.bool true) w := fun w => by
    have := (wide_bin (w := w) fl_stat (stat_eq a b)).2
    rw [decide_eq_true h7] at this
    exact this
  by_cases h8 : a.flight = b.flight
  case neg =>
    have hne : a ≠ b := fun h => h8 (by rw [h])
    have g8 : (a.flight == b.flight) = false := by simp [h8]
    simp [go_sem, IntWalk.iteOmega, IntWalk.toNatUp, u0, u1, u2, u3, u4, u5, u6, u7, v0, v1, v2, v3, v4, v5, v6, v7, hst, g8]
    exact ⟨hne, K2⟩
  have g8 : (a.flight == b.flight) = true := by simp [h8]
  by_cases h9 : a.facts = b.facts
  case neg =>
    have hne : a ≠ b := fun h => h9 (by rw [h])
    have g9 : (a.facts == b.facts) = false := by simp [h9]
    simp [go_sem, IntWalk.iteOmega, IntWalk.toNatUp, u0, u1, u2, u3, u4, u5, u6, u7, u8, v0, v1, v2, v3, v4, v5, v6, v7, v8, hst, g8, g9]
    exact ⟨hne, K2⟩
  have g9 : (a.facts == b.facts) = true := by simp [h9]
  have heq : a = b := rep_eq.2 ⟨h5, h6, h7, h8, h9, h1, h2, h3, h4⟩
  simp [go_sem, IntWalk.iteOmega, IntWalk.toNatUp, u0, u1, u2, u3, u4, u5, u6, u7, u8, v0, v1, v2, v3, v4, v5, v6, v7, v8, hst, g8, g9]
  exact ⟨heq, K2⟩
end Go.Proofs.YtjjopoigbonjbaaGreatDoor.Ho
