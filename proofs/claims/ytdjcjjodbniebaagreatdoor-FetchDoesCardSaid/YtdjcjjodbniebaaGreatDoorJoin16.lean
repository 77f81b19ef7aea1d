/-
  Texts joined: MapId, FKey, FNone, FNew, FFailed.
-/
import Derived.Test.YtdjcjjodbniebaaGreatDoorJoin15
import Derived.MapKept
import Derived.WideKeyRuns
import Derived.WalkSpells
namespace Go.Proofs.YtdjcjjodbniebaaGreatDoor
open Go.RowKit
set_option linter.unusedVariables false
set_option linter.unusedSimpArgs false
def idv (l : List UInt8) : Value := .agg (l.map fun c => Value.int .u8 (c.toNat : Int)).toArray
theorem idv_inj {a b : List UInt8} (h : idv a = idv b) : a = b := by
  unfold idv at h
  injection h with h
  have h : a.map (fun c => Value.int .u8 (c.toNat : Int)) = b.map (fun c => Value.int .u8 (c.toNat : Int)) := by simpa using congrArg Array.toList h
  have key : ∀ a b : List UInt8, a.map (fun c => Value.int .u8 (c.toNat : Int)) = b.map (fun c => Value.int .u8 (c.toNat : Int)) → a = b := by
    intro a
    induction a with
    | nil => intro b h; cases b with
      | nil => rfl
      | cons y b => simp at h
    | cons x a ih => intro b h; cases b with
      | nil => simp at h
      | cons y b =>
        simp only [List.map_cons, List.cons.injEq, Value.int.injEq, true_and] at h
        rw [ih b h.2, UInt8.toNat_inj.1 (Int.ofNat.inj h.1)]
  exact key a b h
structure IdKey (P : Program) (kt : TypeId) : Prop where
  wide : (match P.underlying kt with | some (.array _ _) | some (.struct _) => true | _ => false) = true
  eq : ∀ x y : List UInt8, x.length = 32 → y.length = 32 → ∀ w, (Op.equal kt (idv x) (idv y)).run P w = .ok (x == y) w
  check : ∀ x : List UInt8, x.length = 32 → ∀ em w, (Instr.checkKey em 10000 kt (idv x)).run P w = .ok () w
def MpI (w : World) (r : Nat) (L : List (List UInt8 × Value)) : Prop := ∃ es clock, w.heap[r]? = some (.map es clock) ∧ es.toList.map (fun e => (e.key, e.val)) = L.map (fun x => (idv x.1, x.2)) ∧ MapKept.Stamped es clock ∧ ∀ x ∈ L, x.1.length = 32
def atId (a : List UInt8) : List (List UInt8 × Value) → Option Value
  | [] => none
  | x :: L => if a = x.1 then some x.2 else atId a L
def putId (a : List UInt8) (v : Value) : List (List UInt8 × Value) → List (List UInt8 × Value)
  | [] => [(a, v)]
  | x :: L => if a = x.1 then (a, v) :: L else x :: putId a v L
def delId (a : List UInt8) : List (List UInt8 × Value) → List (List UInt8 × Value)
  | [] => []
  | x :: L => if a = x.1 then L else x :: delId a L
theorem MpI.lt {w : World} {r : Nat} {L : List (List UInt8 × Value)} (h : MpI w r L) : r < w.heap.size := by
  obtain ⟨es, c, h1, _⟩ := h
  exact (Array.getElem?_eq_some_iff.1 h1).1
theorem MpI.far {w w' : World} {r : Nat} {L : List (List UInt8 × Value)} (h : MpI w r L) (he : w'.heap[r]? = w.heap[r]?) : MpI w' r L := by
  obtain ⟨es, c, h1, h2⟩ := h
  exact ⟨es, c, he.trans h1, h2⟩
theorem MpI.below {w w' : World} {B r : Nat} {L : List (List UInt8 × Value)} (h : MpI w r L) (hb : Below B w w') (hr : r < B) : MpI w' r L := h.far (hb.block r hr)
theorem MpI.keep {w w' : World} {r : Nat} {L : List (List UInt8 × Value)} (h : MpI w r L) (hb : Below w.heap.size w w') : MpI w' r L := h.below hb h.lt
theorem atId_none {a : List UInt8} : ∀ {L : List (List UInt8 × Value)} {es : List MapEntry}, atId a L = none → es.map (fun e => (e.key, e.val)) = L.map (fun x => (idv x.1, x.2)) → ∀ x ∈ es, x.key ≠ idv a
  | [], [], _, _, x, hx, _ => by cases hx
  | [], _ :: _, _, h, _, _, _ => by simp at h
  | _ :: _, [], _, h, _, _, _ => by simp at h
  | y :: L, e :: es, h0, h, x, hx, hk => by
    simp only [List.map_cons, List.cons.injEq, Prod.mk.injEq] at h
    unfold atId at h0
    split at h0
    · cases h0
    · rename_i hne
      rcases List.mem_cons.1 hx with rfl | hx
      · rw [h.1.1] at hk
        exact hne (idv_inj hk).symm
      · exact atId_none h0 h.2 x hx hk
theorem putId_new {a : List UInt8} {v : Value} : ∀ {L : List (List UInt8 × Value)}, atId a L = none → putId a v L = L ++ [(a, v)]
  | [], _ => rfl
  | x :: L, h => by
    unfold atId at h
    split at h
    · cases h
    · rename_i hx; simp [putId, hx, putId_new h]
theorem findI {P : Program} {kt : TypeId} (K : IdKey P kt) (a : List UInt8) (ha : a.length = 32) : ∀ (es : List MapEntry) (L : List (List UInt8 × Value)) (n : Nat), es.map (fun e => (e.key, e.val)) = L.map (fun x => (idv x.1, x.2)) → (∀ x ∈ L, x.1.length = 32) →
    (atId a L = none ∧ (∀ w, (Instr.findAsking kt (idv a) es n).run P w = .ok none w) ∧ delId a L = L) ∨
    (∃ i u, atId a L = some u ∧ (∀ w, (Instr.findAsking kt (idv a) es n).run P w = .ok (some (n + i, u)) w) ∧ (∃ h : i < es.length, es[i].key = idv a) ∧
      (∀ v f, (f : MapEntry → MapEntry) = (fun e => { e with key := idv a, val := v }) → (es.modify i f).map (fun e => (e.key, e.val)) = (putId a v L).map fun x => (idv x.1, x.2)) ∧
      (es.eraseIdx i).map (fun e => (e.key, e.val)) = (delId a L).map fun x => (idv x.1, x.2))
  | [], [], n, h, _ => .inl ⟨rfl, fun w => by simp [Instr.findAsking], rfl⟩
  | [], _ :: _, n, h, _ => by simp at h
  | _ :: _, [], n, h, _ => by simp at h
  | e :: es, x :: L, n, h, hL => by
    simp only [List.map_cons, List.cons.injEq, Prod.mk.injEq] at h
    obtain ⟨⟨h1, h2⟩, h3⟩ := h
    have heq := K.eq a x.1 ha (hL x (List.mem_cons_self ..))
    rw [← h1] at heq
    by_cases hx : a = x.1
    · have hb : (a == x.1) = true := by simpa using hx
      refine .inr ⟨0, x.2, by simp [atId, hx], fun w => by simp [Instr.findAsking, heq, hb, h2], ⟨by simp, by simp [h1, hx]⟩, ?_, ?_⟩
      · rintro v f rfl
        simp [putId, hx, h3]
      · simp [delId, hx, h3]
    · have hb : (a == x.1) = false := by simpa using hx
      rcases findI K a ha es L (n + 1) h3 (fun y hy => hL y (List.mem_cons_of_mem _ hy)) with ⟨p1, p2, p4⟩ | ⟨i, u, p1, p2, ⟨p3, p3'⟩, p4, p5⟩
      · refine .inl ⟨by simp [atId, hx, p1], fun w => by simp [Instr.findAsking, heq, hb, p2], by simp [delId, hx, p4]⟩
      · refine .inr ⟨i + 1, u, by simp [atId, hx, p1], fun w => by simp [Instr.findAsking, heq, hb, p2]; omega, ⟨by simpa using p3, by simpa using p3'⟩, ?_, ?_⟩
        · rintro v f rfl
          simp [putId, hx, h1, h2, p4 v _ rfl]
        · simp [delId, hx, h1, h2, p5]
structure TurnedAt (w w' : World) (r : Nat) : Prop where
  os : w'.os = w.os
  tape : w'.tape = w.tape
  output : w'.output = w.output
  size : w'.heap.size = w.heap.size
  far : ∀ b, b ≠ r → w'.heap[b]? = w.heap[b]?
theorem TurnedAt.below {w w' : World} {r B : Nat} (h : TurnedAt w w' r) {a : World} (hb : Below B a w) (hr : B ≤ r) : Below B a w' :=
  ⟨h.os.trans hb.os, h.tape.trans hb.tape, h.output.trans hb.output, by rw [h.size]; exact hb.size, fun k hk => (h.far k (by omega)).trans (hb.block k hk)⟩
theorem TurnedAt.blk {w w' : World} {r : Nat} (h : TurnedAt w w' r) {g : Nat} {t : TypeId} {cs : Array Value} (hB : Blk w g t cs) (hg : g ≠ r) : Blk w' g t cs := (h.far g hg).trans hB
theorem turned_set (w : World) (r : Nat) (o : Obj) : TurnedAt w { w with heap := w.heap.setIfInBounds r o } r :=
  ⟨rfl, rfl, rfl, by simp, fun b hb => by simp [Array.getElem?_setIfInBounds_ne (Ne.symm hb)]⟩
theorem sameBits_idv (l : List UInt8) : Instr.sameBits 10000 (idv l) (idv l) = true := by
  show Instr.sameBits (9999 + 1) (.agg _) (.agg _) = true
  simp only [Instr.sameBits, beq_self_eq_true, Bool.true_and, List.all_eq_true]
  intro x hx
  have key : ∀ (r : List Value), (∀ v ∈ r, ∃ c : UInt8, v = .int .u8 (c.toNat : Int)) → ∀ x ∈ r.zip r, Instr.sameBits 9999 x.1 x.2 = true := by
    intro r
    induction r with
    | nil => intro _ x hx; simp at hx
    | cons a r ih =>
      intro h x hx
      rw [List.zip_cons_cons] at hx
      rcases List.mem_cons.1 hx with rfl | hx
      · obtain ⟨c, rfl⟩ := h a (List.mem_cons_self ..)
        simp [Instr.sameBits]
      · exact ih (fun v hv => h v (List.mem_cons_of_mem _ hv)) x hx
  exact key _ (fun v hv => by simp at hv; obtain ⟨c, _, rfl⟩ := hv; exact ⟨c, rfl⟩) x hx
section
variable {P : Program} {kt : TypeId} {w : World} {r : Nat} {L : List (List UInt8 × Value)} {t et : TypeId}
theorem run_findI (K : IdKey P kt) (h : MpI w r L) (a : List UInt8) (ha : a.length = 32) {es : Array MapEntry} {c : Nat} (h1 : w.heap[r]? = some (.map es c)) (w' : World) :
    (Instr.findKey kt (idv a) es.toList).run P w' = (Instr.findAsking kt (idv a) es.toList).run P w' := _root_.Go.run_findKey_eq w' K.wide _ _
theorem run_lookupI (K : IdKey P kt) (h : MpI w r L) (hm : P.underlying t = some (.map kt et)) (a : List UInt8) (ha : a.length = 32) {z : Value} (hz : (zeroValue et).run P w = .ok z w) :
    (Instr.lookup t (.map (some r)) (idv a) true).run P w = .ok (.tuple #[(atId a L).getD z, .bool (atId a L).isSome]) w ∧ (Instr.lookup t (.map (some r)) (idv a) false).run P w = .ok ((atId a L).getD z) w := by
  obtain ⟨es, c, h1, h2, hS, hl⟩ := h
  have hf := run_findI K (w := w) (r := r) (L := L) ⟨es, c, h1, h2, hS, hl⟩ a ha h1 w
  unfold Instr.lookup
  simp only [Sem.run_bind, run_underlying hm, Result.andThen, MapKept.run_getObj_map h1, Sem.run_pure, K.check a ha]
  rcases findI K a ha es.toList L 0 h2 hl with ⟨p1, p2, p4⟩ | ⟨i, u, p1, p2, p3, p4, p5⟩
  · simp [hf, p2 w, hz, p1, Result.andThen]
  · simp [hf, p2 w, hz, p1, Result.andThen]
theorem run_mapUpdateI (K : IdKey P kt) (h : MpI w r L) (hm : P.underlying t = some (.map kt et)) (a : List UInt8) (ha : a.length = 32) (v : Value) :
    ∃ w', (Instr.mapUpdate t (.map (some r)) (idv a) v).run P w = .ok () w' ∧ MpI w' r (putId a v L) ∧ TurnedAt w w' r := by
  obtain ⟨es, c, h1, h2, hS, hl⟩ := h
  have hf := run_findI K (w := w) (r := r) (L := L) ⟨es, c, h1, h2, hS, hl⟩ a ha h1 w
  have hlp : ∀ x ∈ putId a v L, x.1.length = 32 := by
    have key : ∀ L : List (List UInt8 × Value), (∀ x ∈ L, x.1.length = 32) → ∀ x ∈ putId a v L, x.1.length = 32 := by
      intro L
      induction L with
      | nil => intro _ x hx; simp [putId] at hx; subst hx; exact ha
      | cons y L ih =>
        intro hL x hx
        unfold putId at hx
        split at hx
        · rcases List.mem_cons.1 hx with rfl | hx
          · exact ha
          · exact hL x (List.mem_cons_of_mem _ hx)
        · rcases List.mem_cons.1 hx with rfl | hx
          · exact hL x (List.mem_cons_self ..)
          · exact ih (fun z hz => hL z (List.mem_cons_of_mem _ hz)) x hx
    exact key L hl
  rcases findI K a ha es.toList L 0 h2 hl with ⟨p1, p2, p4⟩ | ⟨i, u, p1, p2, p3, p4, p5⟩
  · refine ⟨{ w with heap := w.heap.setIfInBounds r (.map (es.push { key := idv a, val := v, born := c }) (c + 1)) }, ?_, ⟨_, _, (MapKept.heap_set h1).1, ?_, MapKept.stamped_push hS fun x hx e => atId_none p1 h2 x hx e, hlp⟩, turned_set _ _ _⟩
    · unfold Instr.mapUpdate
      simp only [Sem.run_bind, run_underlying hm, Result.andThen, MapKept.run_getObj_map h1, Sem.run_pure, K.check a ha]
      simp [hf, p2 w, Result.andThen, MapKept.run_setObj_map _ h1]
    · rw [putId_new p1]; simp [h2]
  · obtain ⟨q, hq⟩ := p3
    have hb : Instr.sameBits 10000 (((es[i]?).map (·.key)).getD (idv a)) (idv a) = true := by
      rw [show es[i]? = some (es.toList[i]'q) by simp [show i < es.size from q]]
      simp only [Option.map_some, Option.getD_some, hq]
      exact sameBits_idv _
    refine ⟨{ w with heap := w.heap.setIfInBounds r (.map (es.modify i fun e => { e with key := idv a, val := v }) c) }, ?_, ⟨_, _, (MapKept.heap_set h1).1, ?_, MapKept.stamped_modify hS _ _ (fun _ _ => rfl) fun e _ he => ?_, hlp⟩, turned_set _ _ _⟩
    · unfold Instr.mapUpdate
      simp only [Sem.run_bind, run_underlying hm, Result.andThen, MapKept.run_getObj_map h1, Sem.run_pure, K.check a ha]
      simp [hf, p2 w, Result.andThen, MapKept.run_setObj_map _ h1, Instr.keyThatStays, hb]
    · rw [← p4 v _ rfl]; simp
    · rw [← Array.getElem?_toList, List.getElem?_eq_getElem q] at he
      injection he with he
      rw [← he, hq]
theorem run_deleteI (K : IdKey P kt) (h : MpI w r L) (hm : P.underlying t = some (.map kt et)) (a : List UInt8) (ha : a.length = 32) {t2 ty : TypeId} :
    ∃ w', (Builtin.delete_ #[t, t2] ty #[.map (some r), idv a]).run P w = .ok (.tuple #[]) w' ∧ MpI w' r (delId a L) ∧ TurnedAt w w' r := by
  obtain ⟨es, c, h1, h2, hS, hl⟩ := h
  have hf := run_findI K (w := w) (r := r) (L := L) ⟨es, c, h1, h2, hS, hl⟩ a ha h1 w
  have hlp : ∀ x ∈ delId a L, x.1.length = 32 := by
    have key : ∀ L : List (List UInt8 × Value), (∀ x ∈ L, x.1.length = 32) → ∀ x ∈ delId a L, x.1.length = 32 := by
      intro L
      induction L with
      | nil => intro _ x hx; simp [delId] at hx
      | cons y L ih =>
        intro hL x hx
        unfold delId at hx
        split at hx
        · exact hL x (List.mem_cons_of_mem _ hx)
        · rcases List.mem_cons.1 hx with rfl | hx
          · exact hL x (List.mem_cons_self ..)
          · exact ih (fun z hz => hL z (List.mem_cons_of_mem _ hz)) x hx
    exact key L hl
  rcases findI K a ha es.toList L 0 h2 hl with ⟨p1, p2, p4⟩ | ⟨i, u, p1, p2, p3, p4, p5⟩
  · refine ⟨{ w with heap := w.heap.setIfInBounds r (.map es c) }, ?_, ⟨_, _, (MapKept.heap_set h1).1, by rw [p4]; exact h2, hS, hlp⟩, turned_set _ _ _⟩
    unfold Builtin.delete_
    simp only [Sem.run_bind, run_underlying hm, Result.andThen, MapKept.run_getObj_map h1, Sem.run_pure, K.check a ha, List.getElem?_toArray, List.getElem?_cons_zero, List.getElem?_cons_succ]
    simp [hf, p2 w, Result.andThen, MapKept.run_setObj_map _ h1]
  · refine ⟨{ w with heap := w.heap.setIfInBounds r (.map (es.eraseIdxIfInBounds i) c) }, ?_, ⟨_, _, (MapKept.heap_set h1).1, ?_, MapKept.stamped_erase hS _, hlp⟩, turned_set _ _ _⟩
    · unfold Builtin.delete_
      simp only [Sem.run_bind, run_underlying hm, Result.andThen, MapKept.run_getObj_map h1, Sem.run_pure, K.check a ha, List.getElem?_toArray, List.getElem?_cons_zero, List.getElem?_cons_succ]
      simp [hf, p2 w, Result.andThen, MapKept.run_setObj_map _ h1]
    · rw [← p5]
      obtain ⟨q, _⟩ := p3
      simp [Array.eraseIdxIfInBounds, show i < es.size from q, Array.toList_eraseIdx]
end
theorem MpI_made (w : World) : MpI (w.alloc (.map #[] 0)) w.heap.size [] := ⟨#[], 0, heap_alloc_new w _, rfl, MapKept.stamped_empty _, by simp⟩
end Go.Proofs.YtdjcjjodbniebaaGreatDoor
namespace Go.Proofs.YtdjcjjodbniebaaGreatDoor
open Go.RowKit
set_option linter.unusedVariables false
set_option linter.unusedSimpArgs false
set_option maxRecDepth 10000
theorem check_u8 (em : Bool) (n : Nat) (c : Int) (w : World) : (Instr.checkKey em (n + 1) 5 (.int .u8 c)).run Tryz.prog w = .ok () w := by
  simp [Instr.checkKey, run_underlying Tryz.underlying5]
theorem idKey : IdKey Tryz.prog 27 where
  wide := by rw [Tryz.underlying27]
  eq := fun x y hx hy w => id_eq x y hx hy w
  check := fun x hx em w => by
    have hs : ∀ w, (sizeOf 5).run Tryz.prog w = .ok 1 w := fun w => by rw [run_sizeOf_shape (t := none) shape5]; rfl
    show (Instr.checkKey em (9999 + 1) 27 (.agg (bl x).toArray)).run Tryz.prog w = _
    rw [Instr.checkKey]
    simp only [Sem.run_bind, run_underlying Tryz.underlying27, Result.andThen_ok]
    simp only [Std.Legacy.Range.forIn_eq_forIn_range', Std.Legacy.Range.size, Nat.sub_zero, Nat.add_one_sub_one, Nat.div_one]
    have each : ∀ j ∈ List.range' 0 32, ∃ c : Int, (bl x)[j]? = some (.int .u8 c) := fun j hj => by
      have hj' : j < 32 := by simpa [List.mem_range'] using hj
      exact ⟨_, bl_at2 x j (by omega)⟩
    generalize List.range' 0 32 = is at each
    induction is with
    | nil => simp
    | cons j is ih =>
      obtain ⟨c, hc⟩ := each j (by simp)
      have ih' := ih fun j hj => each j (by simp [hj])
      have hp : (part 5 (bl x).toArray (j * 1)).run Tryz.prog w = .ok (.int .u8 c) w := by
        simp [part, run_isAgg shape5, hc]
      simp only [List.forIn_cons, Sem.run_bind, hs, Result.andThen_ok, hp, check_u8 em 9998 c w, Sem.run_pure]
      exact ih'
theorem noinit_fnone : Tryz.prog.inits.idxOf? 43 = none := by kernel_rfl
theorem fnone_made {w : World} {f r : Nat} {cs : Array Value} (h : Blk w f 72 cs) (h35 : cs[35]? = some (.map (some r))) : Runs Tryz.prog 43 #[.pointer (some ⟨f, 0, none⟩)] w (.bool false) w := by
  refine runs_of_callE ?_
  refine calls_E Tryz.func43 rfl rfl rfl (Nat.le_of_ble_eq_true rfl) ?_
  have q := run_eql_map_nil (P := Tryz.prog) w 68 27 29 (some r) Tryz.underlying68
  simp [go_sem, IntWalk.iteOmega, IntWalk.toNatUp, h.cell, h35, q]
@[go_sem] theorem make_map {P : Program} {w : World} (t : TypeId) : (Instr.makeMap t none).run P w = .ok (.map (some w.heap.size)) (w.alloc (.map #[] 0)) := by simp [Instr.makeMap, Result.andThen]
def fcells (last : List UInt8) (height room : Int) (tv : Value) (rk ra ro : Nat) : List Value := bl last ++ [.int .i64 height, .int .i64 room, tv, .map (some rk), .map (some ra), .map (some ro)]
def zeroF : List Value := bl zeroId ++ [.int .i64 0, .int .i64 0, .slice none 0 0, .map none, .map none, .map none]
theorem fold_f (x : List Value) (hx : x.length = 32) : List.foldl (fun (cs : Array Value) (x : Value × Nat) => cs.setIfInBounds x.snd x.fst) #[Value.int IntKind.u8 0, Value.int IntKind.u8 0, Value.int IntKind.u8 0, Value.int IntKind.u8 0, Value.int IntKind.u8 0, Value.int IntKind.u8 0, Value.int IntKind.u8 0, Value.int IntKind.u8 0, Value.int IntKind.u8 0, Value.int IntKind.u8 0, Value.int IntKind.u8 0, Value.int IntKind.u8 0, Value.int IntKind.u8 0, Value.int IntKind.u8 0, Value.int IntKind.u8 0, Value.int IntKind.u8 0, Value.int IntKind.u8 0, Value.int IntKind.u8 0, Value.int IntKind.u8 0, Value.int IntKind.u8 0, Value.int IntKind.u8 0, Value.int IntKind.u8 0, Value.int IntKind.u8 0, Value.int IntKind.u8 0, Value.int IntKind.u8 0, Value.int IntKind.u8 0, Value.int IntKind.u8 0, Value.int IntKind.u8 0, Value.int IntKind.u8 0, Value.int IntKind.u8 0, Value.int IntKind.u8 0, Value.int IntKind.u8 0, Value.int IntKind.i64 0, Value.int IntKind.i64 0, Value.slice none 0 0, Value.map none, Value.map none, Value.map none] x.zipIdx = (x ++ [Value.int .i64 0, Value.int .i64 0, Value.slice none 0 0, .map none, .map none, .map none]).toArray := by
  rw [foldl_set x 0 _ (by rw [hx]; decide), hx]
  rfl
set_option maxHeartbeats 3200000 in
theorem fnew_any {w : World} {last : List UInt8} {height room : Int} (hl : last.length = 32) :
    callE Tryz.prog 11 #[.agg (bl last).toArray, .int .i64 height, .int .i64 room] w fun r w' =>
      ((height < 0 ∨ room < 1 ∨ 4096 < room) ∧ r = .tuple #[.pointer none, .int .i64 1] ∨
      (¬ (height < 0 ∨ room < 1 ∨ 4096 < room) ∧ r = .tuple #[.pointer (some ⟨w.heap.size + 4, 0, none⟩), .int .i64 0] ∧
        Blk w' (w.heap.size + 4) 72 (fcells last height room (.slice none 0 0) (w.heap.size + 1) (w.heap.size + 2) (w.heap.size + 3)).toArray ∧
        MpI w' (w.heap.size + 1) [] ∧ MpI w' (w.heap.size + 2) [] ∧ MpI w' (w.heap.size + 3) [])) ∧ Below w.heap.size w w' := by
  have l32 : (bl last).length = 32 := by rw [bl_length]; exact hl
  have kA := ext_alloc w (.cells (bl last).toArray 27)
  refine calls_E Tryz.func11 rfl rfl rfl (Nat.le_of_ble_eq_true rfl) ?_
  by_cases h1 : height < 0
  · simp [go_sem, IntWalk.iteOmega, IntWalk.toNatUp, h1]
    exact kA
  · by_cases h2 : room < 1
    · simp [go_sem, IntWalk.iteOmega, IntWalk.toNatUp, h1, h2]
      exact kA
    · by_cases h3 : 4096 < room
      · simp [go_sem, IntWalk.iteOmega, IntWalk.toNatUp, h1, h2, h3]
        exact kA
      · have hI : Blk (w.alloc (.cells (bl last).toArray 27)) w.heap.size 27 (bl last).toArray := Blk.self_ rfl
        have x1 := readCells_all hI 32 (by simpa using l32)
        have hfd := fold_f (bl last) l32
        simp [go_sem, IntWalk.iteOmega, IntWalk.toNatUp, h1, h2, h3, x1, hfd, l32]
        have m : ∀ (W : World) (n : Nat), W.heap.size = n → MpI (W.alloc (.map #[] 0)) n [] := fun W n h => h ▸ MpI_made W
        have m1 := m (w.alloc (.cells (bl last).toArray 27)) (w.heap.size + 1) (by simp)
        have m2 := m ((w.alloc (.cells (bl last).toArray 27)).alloc (.map #[] 0)) (w.heap.size + 2) (by simp)
        have m3 := m (((w.alloc (.cells (bl last).toArray 27)).alloc (.map #[] 0)).alloc (.map #[] 0)) (w.heap.size + 3) (by simp)
        exact ⟨⟨rfl, (((m1.keep (ext_alloc _ _)).keep (ext_alloc _ _)).keep (ext_alloc _ _)), ((m2.keep (ext_alloc _ _)).keep (ext_alloc _ _)), (m3.keep (ext_alloc _ _))⟩, ((((kA.alloc kA.size _).alloc (by simp; omega) _).alloc (by simp; omega) _).alloc (by simp; omega) _)⟩
def boolsL (L : List (List UInt8 × Bool)) : List (List UInt8 × Value) := L.map fun x => (x.1, .bool x.2)
theorem boolsL_at (a : List UInt8) : ∀ L : List (List UInt8 × Bool), (atId a (boolsL L)).getD (.bool false) = .bool (((L.find? fun x => decide (a = x.1)).map Prod.snd).getD false)
  | [] => rfl
  | x :: L => by
    have ih := boolsL_at a L
    by_cases h : a = x.1
    · simp [boolsL, atId, h]
    · simp only [boolsL, List.map_cons, atId, h, if_false, List.find?_cons, decide_false]
      exact ih
def askedB (L : List (List UInt8 × Bool)) (a : List UInt8) : Bool := ((L.find? fun x => decide (a = x.1)).map Prod.snd).getD false
def delB (a : List UInt8) : List (List UInt8 × Bool) → List (List UInt8 × Bool)
  | [] => []
  | x :: L => if a = x.1 then L else x :: delB a L
theorem delId_bools (a : List UInt8) : ∀ L, delId a (boolsL L) = boolsL (delB a L)
  | [] => rfl
  | x :: L => by
    have ih := delId_bools a L
    by_cases h : a = x.1
    · simp [boolsL, delId, delB, h]
    · simp only [boolsL, List.map_cons, delId, delB, h, if_false]
      rw [show delId a (List.map (fun x => (x.fst, Value.bool x.snd)) L) = boolsL (delB a L) from ih]
      rfl
theorem zero_bool (w : World) : (zeroValue 4).run Tryz.prog w = .ok (.bool false) w := rfl
set_option maxHeartbeats 3200000 in
theorem ffailed_any {w : World} {f rk ra : Nat} {cs : Array Value} {L : List (List UInt8 × Bool)} (hf : Blk w f 72 cs) (h35 : cs[35]? = some (.map (some rk))) (h36 : cs[36]? = some (.map (some ra))) (hm : MpI w ra (boolsL L)) (hfr : f ≠ ra) {id : List UInt8} (hid : id.length = 32) :
    callE Tryz.prog 18 #[.pointer (some ⟨f, 0, none⟩), .agg (bl id).toArray] w fun r w' =>
      (askedB L id = false ∧ r = .int .i64 4 ∧ Below w.heap.size w w') ∨
      (askedB L id = true ∧ r = .int .i64 0 ∧ MpI w' ra (boolsL (delB id L)) ∧ w.grownBy w' (some ra)) := by
  have l32 : (bl id).length = 32 := by rw [bl_length]; exact hid
  have kA := ext_alloc w (.cells (bl id).toArray 27)
  have hI : Blk (w.alloc (.cells (bl id).toArray 27)) w.heap.size 27 (bl id).toArray := Blk.self_ rfl
  have hfA := hf.keep kA
  have hmA := hm.keep kA
  have r0 := fun k => callE_eq noinit_fnone (fnone_made hfA h35) k
  refine calls_E Tryz.func18 rfl rfl rfl (Nat.le_of_ble_eq_true rfl) ?_
  simp [go_sem, IntWalk.iteOmega, IntWalk.toNatUp, r0]
  generalize w.alloc (.cells (bl id).toArray 27) = w2 at *
  refine W_still follows (by kernel_rfl) ?_
  have hfd := hfA.drew
  have x1 := readCells_all hI.drew 32 (by simpa using l32)
  have hlook := (run_lookupI idKey (hmA.keep (ext_drew w2)) Tryz.underlying69 id hid (zero_bool _)).2
  rw [boolsL_at] at hlook
  have hlook' : (Instr.lookup 69 (.map (some ra)) (.agg (bl id).toArray) false).run Tryz.prog w2.drew = .ok (.bool (askedB L id)) w2.drew := hlook
  by_cases hb : askedB L id = true
  · simp [go_sem, IntWalk.iteOmega, IntWalk.toNatUp, hfd.cell, h36, x1, hlook', hb]
    have hra : ra < w.heap.size := hm.lt
    have kD := (kA.drew).drew
    have hfd2 := hfd.drew
    have hmD := (hmA.keep (ext_drew w2)).keep (ext_drew _)
    have x2 := readCells_all hI.drew.drew 32 (by simpa using l32)
    have hfl := hfd2.lt
    have hIl := hI.drew.drew.lt
    refine W_flow (fun g => g ≠ ra) (.pure 0 (.pure 1 (.pure 2 (.pure 3 (.pure 4 (.one 5 (.done))))))) follows (by kernel_rfl) ?_
    have hr := held_refl (fun g => g ≠ ra) w2.drew.drew
    generalize w2.drew.drew = w4 at *
    have hne : w.heap.size ≠ ra := by omega
    obtain ⟨w5, hd, hm5, ht5⟩ := run_deleteI idKey hmD Tryz.underlying69 id hid (t2 := 27) (ty := 0)
    have hd' : (Builtin.delete_ #[69, 27] 0 #[.map (some ra), .agg (bl id).toArray]).run Tryz.prog w4 = .ok (.tuple #[]) w5 := hd
    rw [delId_bools] at hm5
    have hr5 := (show heldE (fun g => g ≠ ra) w4 w5 from ⟨Nat.le_of_eq ht5.size.symm, fun g hg _ => ht5.far g hg⟩)
    simp [go_sem, IntWalk.iteOmega, IntWalk.toNatUp, hfd2.cell, h36, x2, hfr, hne, hfl, hIl, hr, hd', hr5]
    have g5 : w4.grownBy w5 (some ra) := ⟨ht5.os, ht5.tape, ht5.output, Nat.le_of_eq ht5.size.symm, fun g _ hne => ht5.far g (fun e => hne (by rw [e]))⟩
    exact ⟨hb, hm5, ⟨g5.os.trans kD.os, g5.tape.trans kD.tape, g5.output.trans kD.output, Nat.le_trans kD.size g5.size, fun g hg hne => (g5.block g (Nat.lt_of_lt_of_le hg kD.size) hne).trans (kD.block g hg)⟩⟩
  · have hb' : askedB L id = false := by simpa using hb
    simp [go_sem, IntWalk.iteOmega, IntWalk.toNatUp, hfd.cell, h36, x1, hlook', hb']
    exact kA.drew
end Go.Proofs.YtdjcjjodbniebaaGreatDoor
