/-
  Maps whose keys are ints: read, written, deleted, made. Over any program.
-/
import Derived.Test.YtilpmnbnjeahnaaAny
import Derived.MapKept
namespace Go.Proofs.Ytilpmnbnjeahnaa
open Go.RowKit
set_option linter.unusedVariables false
set_option linter.unusedSimpArgs false
/-- A map's block holds these entries, in this order. -/
def Mp (w : World) (r : Nat) (k : IntKind) (L : List (Int × Value)) : Prop := ∃ es clock, w.heap[r]? = some (.map es clock) ∧ es.toList.map (fun e => (e.key, e.val)) = L.map (fun x => (Value.int k x.1, x.2)) ∧ MapKept.Stamped es clock
/-- what lies at a key -/
def atKey (a : Int) : List (Int × Value) → Option Value
  | [] => none
  | x :: L => if a = x.1 then some x.2 else atKey a L
def putKey (a : Int) (v : Value) : List (Int × Value) → List (Int × Value)
  | [] => [(a, v)]
  | x :: L => if a = x.1 then (a, v) :: L else x :: putKey a v L
def delKey (a : Int) : List (Int × Value) → List (Int × Value)
  | [] => []
  | x :: L => if a = x.1 then L else x :: delKey a L
theorem Mp.lt {w : World} {r : Nat} {k : IntKind} {L : List (Int × Value)} (h : Mp w r k L) : r < w.heap.size := by
  obtain ⟨es, c, h1, _⟩ := h
  exact (Array.getElem?_eq_some_iff.1 h1).1
theorem Mp.below {w w' : World} {B r : Nat} {k : IntKind} {L : List (Int × Value)} (h : Mp w r k L) (hb : Below B w w') (hr : r < B) : Mp w' r k L := by
  obtain ⟨es, c, h1, h2⟩ := h
  exact ⟨es, c, (hb.block r hr).trans h1, h2⟩
theorem Mp.keep {w w' : World} {r : Nat} {k : IntKind} {L : List (Int × Value)} (h : Mp w r k L) (hb : Below w.heap.size w w') : Mp w' r k L := h.below hb h.lt
theorem find_at (k : IntKind) (a : Int) : ∀ (es : List MapEntry) (L : List (Int × Value)) (n : Nat), es.map (fun e => (e.key, e.val)) = L.map (fun x => (Value.int k x.1, x.2)) →
    (atKey a L = none ∧ Instr.findNow (.int k) (.int k a) es n = some none ∧ delKey a L = L) ∨
    (∃ i u, atKey a L = some u ∧ Instr.findNow (.int k) (.int k a) es n = some (some (n + i, u)) ∧ (∃ h : i < es.length, es[i].key = .int k a) ∧
      (∀ v f, (f : MapEntry → MapEntry) = (fun e => { e with key := .int k a, val := v }) → (es.modify i f).map (fun e => (e.key, e.val)) = (putKey a v L).map fun x => (Value.int k x.1, x.2)) ∧
      (es.eraseIdx i).map (fun e => (e.key, e.val)) = (delKey a L).map fun x => (Value.int k x.1, x.2))
  | [], [], n, h => .inl ⟨rfl, rfl, rfl⟩
  | [], _ :: _, n, h => by simp at h
  | _ :: _, [], n, h => by simp at h
  | e :: es, x :: L, n, h => by
    simp only [List.map_cons, List.cons.injEq, Prod.mk.injEq] at h
    obtain ⟨⟨h1, h2⟩, h3⟩ := h
    by_cases hx : a = x.1
    · refine .inr ⟨0, x.2, by simp [atKey, hx], ?_, ⟨by simp, by simp [h1, hx]⟩, ?_, ?_⟩
      · simp [Instr.findNow, Instr.sameNow, h1, h2, hx]
      · rintro v f rfl
        simp [putKey, hx, h3]
      · simp [delKey, hx, h3]
    · have hb : (a == x.1) = false := by simpa using hx
      rcases find_at k a es L (n + 1) h3 with ⟨p1, p2, p4⟩ | ⟨i, u, p1, p2, ⟨p3, p3'⟩, p4, p5⟩
      · refine .inl ⟨by simp [atKey, hx, p1], ?_, by simp [delKey, hx, p4]⟩
        · simp [Instr.findNow, Instr.sameNow, h1, hb, p2]
      · refine .inr ⟨i + 1, u, by simp [atKey, hx, p1], ?_, ⟨by simpa using p3, by simpa using p3'⟩, ?_, ?_⟩
        · simp [Instr.findNow, Instr.sameNow, h1, hb, p2]; omega
        · rintro v f rfl
          simp [putKey, hx, h1, h2, p4 v _ rfl]
        · simp [delKey, hx, h1, h2, p5]
theorem atKey_none {k : IntKind} {a : Int} : ∀ {L : List (Int × Value)} {es : List MapEntry}, atKey a L = none → es.map (fun e => (e.key, e.val)) = L.map (fun x => (Value.int k x.1, x.2)) → ∀ x ∈ es, x.key ≠ .int k a
  | [], [], _, _, x, hx, _ => by cases hx
  | [], _ :: _, _, h, _, _, _ => by simp at h
  | _ :: _, [], _, h, _, _, _ => by simp at h
  | y :: L, e :: es, h0, h, x, hx, hk => by
    simp only [List.map_cons, List.cons.injEq, Prod.mk.injEq] at h
    unfold atKey at h0
    split at h0
    · cases h0
    · rename_i hne
      rcases List.mem_cons.1 hx with rfl | hx
      · rw [h.1.1] at hk
        injection hk with _ hk
        exact hne hk.symm
      · exact atKey_none h0 h.2 x hx hk
theorem put_new {a : Int} {v : Value} : ∀ {L : List (Int × Value)}, atKey a L = none → putKey a v L = L ++ [(a, v)]
  | [], _ => rfl
  | x :: L, h => by
    unfold atKey at h
    split at h
    · cases h
    · rename_i hx; simp [putKey, hx, put_new h]
/-- the world behind a write, a delete -/
def mapPut (w : World) (r : Nat) (key v : Value) (d : TypeDesc) : World :=
  match w.heap[r]? with
  | some (.map es clock) =>
    match Instr.findNow d key es.toList 0 with
    | some (some (i, _)) => { w with heap := w.heap.setIfInBounds r (.map (es.modify i fun e => { e with key := key, val := v }) clock) }
    | _ => { w with heap := w.heap.setIfInBounds r (.map (es.push { key, val := v, born := clock }) (clock + 1)) }
  | _ => w
def mapDel (w : World) (r : Nat) (key : Value) (d : TypeDesc) : World :=
  match w.heap[r]? with
  | some (.map es clock) =>
    match Instr.findNow d key es.toList 0 with
    | some (some (i, _)) => { w with heap := w.heap.setIfInBounds r (.map (es.eraseIdxIfInBounds i) clock) }
    | _ => { w with heap := w.heap.setIfInBounds r (.map es clock) }
  | _ => w
theorem mapPut_far (w : World) (r : Nat) (key v : Value) (d : TypeDesc) {b : Nat} (h : b ≠ r) : (mapPut w r key v d).heap[b]? = w.heap[b]? := by
  unfold mapPut
  split
  · split <;> simp [Array.getElem?_setIfInBounds_ne (Ne.symm h)]
  · rfl
theorem mapDel_far (w : World) (r : Nat) (key : Value) (d : TypeDesc) {b : Nat} (h : b ≠ r) : (mapDel w r key d).heap[b]? = w.heap[b]? := by
  unfold mapDel
  split
  · split <;> simp [Array.getElem?_setIfInBounds_ne (Ne.symm h)]
  · rfl
@[go_sem] theorem mapPut_size (w : World) (r : Nat) (key v : Value) (d : TypeDesc) : (mapPut w r key v d).heap.size = w.heap.size := by
  unfold mapPut
  split
  · split <;> simp
  · rfl
@[go_sem] theorem mapDel_size (w : World) (r : Nat) (key : Value) (d : TypeDesc) : (mapDel w r key d).heap.size = w.heap.size := by
  unfold mapDel
  split
  · split <;> simp
  · rfl
@[go_sem] theorem Blk_mapPut {w : World} {g r : Nat} {t : TypeId} {cs : Array Value} {key v : Value} {d : TypeDesc} (h : g ≠ r) : Blk (mapPut w r key v d) g t cs = Blk w g t cs := by
  unfold Blk; rw [mapPut_far _ _ _ _ _ h]
@[go_sem] theorem Blk_mapDel {w : World} {g r : Nat} {t : TypeId} {cs : Array Value} {key : Value} {d : TypeDesc} (h : g ≠ r) : Blk (mapDel w r key d) g t cs = Blk w g t cs := by
  unfold Blk; rw [mapDel_far _ _ _ _ h]
theorem sameBits_int (n : Nat) (k : IntKind) (a : Int) : Instr.sameBits n (.int k a) (.int k a) = true := by cases n <;> simp [Instr.sameBits]
section
variable {P : Program} {w : World} {r : Nat} {k : IntKind} {L : List (Int × Value)} {t kt et : TypeId}
theorem Mp.put (h : Mp w r k L) (a : Int) (v : Value) : Mp (mapPut w r (.int k a) v (.int k)) r k (putKey a v L) := by
  have hlt := h.lt
  obtain ⟨es, c, h1, h2, hS⟩ := h
  unfold mapPut
  simp only [h1]
  rcases find_at k a es.toList L 0 h2 with ⟨p1, p2, p4⟩ | ⟨i, u, p1, p2, p3, p4, p5⟩
  · simp only [p2]
    refine ⟨_, _, (MapKept.heap_set h1).1, ?_, MapKept.stamped_push hS fun x hx e => ?_⟩
    · rw [put_new p1]
      simp [h2]
    · exact atKey_none p1 h2 x hx e
  · simp only [p2, Nat.zero_add]
    refine ⟨_, _, (MapKept.heap_set h1).1, ?_, MapKept.stamped_modify hS _ _ (fun _ _ => rfl) fun e _ he => ?_⟩
    · rw [← p4 v _ rfl]
      simp
    · obtain ⟨q, hq⟩ := p3
      rw [← Array.getElem?_toList, List.getElem?_eq_getElem q] at he
      injection he with he
      rw [← he, hq]
theorem Mp.del (h : Mp w r k L) (a : Int) : Mp (mapDel w r (.int k a) (.int k)) r k (delKey a L) := by
  have hlt := h.lt
  obtain ⟨es, c, h1, h2, hS⟩ := h
  unfold mapDel
  simp only [h1]
  rcases find_at k a es.toList L 0 h2 with ⟨p1, p2, p4⟩ | ⟨i, u, p1, p2, p3, p4, p5⟩
  · simp only [p2]
    exact ⟨_, _, (MapKept.heap_set h1).1, by rw [p4]; exact h2, hS⟩
  · simp only [p2, Nat.zero_add]
    refine ⟨_, _, (MapKept.heap_set h1).1, ?_, MapKept.stamped_erase hS _⟩
    rw [← p5]
    obtain ⟨q, _⟩ := p3
    simp [Array.eraseIdxIfInBounds, show i < es.size from q, Array.toList_eraseIdx]
theorem run_lookup_int (h : Mp w r k L) (hm : P.underlying t = some (.map kt et)) (hk : P.underlying kt = some (.int k)) (a : Int) {z : Value} (hz : (zeroValue et).run P w = .ok z w) :
    (Instr.lookup t (.map (some r)) (.int k a) true).run P w = .ok (.tuple #[(atKey a L).getD z, .bool (atKey a L).isSome]) w := by
  obtain ⟨es, c, h1, h2, hS⟩ := h
  unfold Instr.lookup
  simp only [Sem.run_bind, run_underlying hm, Result.andThen, MapKept.run_getObj_map h1, Sem.run_pure, MapKept.run_checkKey hk (show MapKept.IsKey (.int k) (.int k a) from rfl)]
  rcases find_at k a es.toList L 0 h2 with ⟨p1, p2, p4⟩ | ⟨i, u, p1, p2, p3, p4, p5⟩
  · simp [MapKept.run_findKey hk p2, hz, p1, Result.andThen]
  · simp [MapKept.run_findKey hk p2, hz, p1, Result.andThen]
theorem run_lookup_int1 (h : Mp w r k L) (hm : P.underlying t = some (.map kt et)) (hk : P.underlying kt = some (.int k)) (a : Int) {z : Value} (hz : (zeroValue et).run P w = .ok z w) :
    (Instr.lookup t (.map (some r)) (.int k a) false).run P w = .ok ((atKey a L).getD z) w := by
  obtain ⟨es, c, h1, h2, hS⟩ := h
  unfold Instr.lookup
  simp only [Sem.run_bind, run_underlying hm, Result.andThen, MapKept.run_getObj_map h1, Sem.run_pure, MapKept.run_checkKey hk (show MapKept.IsKey (.int k) (.int k a) from rfl)]
  rcases find_at k a es.toList L 0 h2 with ⟨p1, p2, p4⟩ | ⟨i, u, p1, p2, p3, p4, p5⟩
  · simp [MapKept.run_findKey hk p2, hz, p1, Result.andThen]
  · simp [MapKept.run_findKey hk p2, hz, p1, Result.andThen]
theorem run_mapUpdate_int (h : Mp w r k L) (hm : P.underlying t = some (.map kt et)) (hk : P.underlying kt = some (.int k)) (a : Int) (v : Value) :
    (Instr.mapUpdate t (.map (some r)) (.int k a) v).run P w = .ok () (mapPut w r (.int k a) v (.int k)) := by
  obtain ⟨es, c, h1, h2, hS⟩ := h
  unfold Instr.mapUpdate mapPut
  simp only [Sem.run_bind, run_underlying hm, Result.andThen, MapKept.run_getObj_map h1, Sem.run_pure, MapKept.run_checkKey hk (show MapKept.IsKey (.int k) (.int k a) from rfl), h1]
  rcases find_at k a es.toList L 0 h2 with ⟨p1, p2, p4⟩ | ⟨i, u, p1, p2, p3, p4, p5⟩
  · simp [MapKept.run_findKey hk p2, p2, Result.andThen, MapKept.run_setObj_map _ h1]
  · obtain ⟨q, hq⟩ := p3
    have hb : Instr.sameBits 10000 (((es[i]?).map (·.key)).getD (.int k a)) (.int k a) = true := by
      rw [show es[i]? = some (es.toList[i]'q) by simp [show i < es.size from q]]
      simp only [Option.map_some, Option.getD_some, hq]
      exact sameBits_int _ _ _
    simp [MapKept.run_findKey hk p2, p2, Result.andThen, MapKept.run_setObj_map _ h1, Instr.keyThatStays, hb]
theorem run_delete_int (h : Mp w r k L) (hm : P.underlying t = some (.map kt et)) (hk : P.underlying kt = some (.int k)) (a : Int) {t2 ty : TypeId} :
    (Builtin.delete_ #[t, t2] ty #[.map (some r), .int k a]).run P w = .ok (.tuple #[]) (mapDel w r (.int k a) (.int k)) := by
  obtain ⟨es, c, h1, h2, hS⟩ := h
  unfold Builtin.delete_ mapDel
  simp only [Sem.run_bind, run_underlying hm, Result.andThen, MapKept.run_getObj_map h1, Sem.run_pure, MapKept.run_checkKey hk (show MapKept.IsKey (.int k) (.int k a) from rfl), h1, List.getElem?_toArray, List.getElem?_cons_zero, List.getElem?_cons_succ]
  rcases find_at k a es.toList L 0 h2 with ⟨p1, p2, p4⟩ | ⟨i, u, p1, p2, p3, p4, p5⟩
  · simp [MapKept.run_findKey hk p2, p2, Result.andThen, MapKept.run_setObj_map _ h1]
  · simp [MapKept.run_findKey hk p2, p2, Result.andThen, MapKept.run_setObj_map _ h1]
end
theorem Mp_made (w : World) (k : IntKind) : Mp (w.alloc (.map #[] 0)) w.heap.size k [] := ⟨#[], 0, heap_alloc_new w _, rfl, MapKept.stamped_empty _⟩
end Go.Proofs.Ytilpmnbnjeahnaa
