/-
  Texts joined: ExN, ExL.
-/
import Derived.Test.YtmcbcoafodmbjaaGreatDoorJoin11
import Derived.Laws.IdiomStrings
import Derived.Laws.MakeOwn
namespace Go.Proofs.YtmcbcoafodmbjaaGreatDoor.Ex
open Go Go.RowKit
set_option linter.unusedVariables false
set_option linter.unusedSimpArgs false
section
variable {C : Ctx} {e : Env} {w : World} {s : Sl} {σ : Slots} {d : Option Tmp} {ty : TypeId} {pos : String} {after : Array Edge} {g : Option (Nat × Bool)}
def Ali (C : Ctx) (e : Env) (σ : Slots) (o : Oper) (c : Cel) (mk : Nat → Value) : Prop := ∀ (b : Nat) (w : World), e b = none → ∃ ob sh r v' w1, (w1 = w ∨ w1 = w.drew) ∧ (execOp (ev σ) o).run C.P w = .ok (.value v') (w1.alloc ob) ∧ CR C (e.upd b ⟨w.heap.size, sh, r⟩) ⟨w.heap.size, sh, r⟩ c (some ob) ∧ VR (e.upd b ⟨w.heap.size, sh, r⟩) (mk b) v'
theorem cr_exact {e : Env} {n : Nat} {l l' : List Value} {t : TypeId} (h : LR e l l') : CR C e ⟨n, 0, 0⟩ (.cells l t .exact) (some (.cells ⟨l'⟩ t)) :=
  .cells (fun _ => rfl) (fun i v hv => by obtain ⟨v', h1, h2⟩ := h.get hv; exact ⟨v', h1, h2⟩) (fun _ i _ h => by simp at h) (fun h => by cases h)
theorem ali_new (hC : C.OK) {t : TypeId} {i : TypeInfo} {z : Value} (hi : C.P.info? t = some i) (hz : i.zero = some z) (hn : lall nf z.cells.toList = true) : Ali C e σ ⟨d, .alloc t, ty, pos, after, g⟩ (.cells z.cells.toList t .exact) (fun b => .pointer (some ⟨b, 0, none⟩)) := by
  intro b w hb
  refine ⟨.cells z.cells t, 0, 0, .pointer (some ⟨w.heap.size, 0, none⟩), w, .inl rfl, ?_, ?_, ?_⟩
  · simp [execOp, Instr.alloc, Sem.run_bind, r_zero hi hz, Result.andThen, newVar, newRow]
  · have := cr_exact (C := C) (n := w.heap.size) (t := t) (lall_nf (e := e.upd b ⟨w.heap.size, 0, 0⟩) hn)
    exact this
  · exact VR.ptr (upd_self _ _ _)
theorem ali_box {t : TypeId} {x : Operand} (hx : VR e (evA s x) (ev σ x)) : Ali C e σ ⟨d, .box t x, ty, pos, after, g⟩ (.cells (cellsA (evA s x)) t .exact) (fun b => .pointer (some ⟨b, 0, none⟩)) := by
  intro b w hb
  refine ⟨.cells (ev σ x).cells t, 0, 0, .pointer (some ⟨w.heap.size, 0, none⟩), w, .inl rfl, ?_, ?_, ?_⟩
  · simp [execOp, Instr.box, Sem.run_bind, Result.andThen, newVar, newRow]
  · exact cr_exact (C := C) (n := w.heap.size) (t := t) ((cellsA_ok hx).mono (upd_le hb))
  · exact VR.ptr (upd_self _ _ _)
theorem ali_map0 {t : TypeId} : Ali C e σ ⟨d, .makeMap t none, ty, pos, after, g⟩ (.obj (.map #[] 0)) (fun b => .map (some b)) := by
  intro b w hb
  refine ⟨.map #[] 0, 0, 0, .map (some w.heap.size), w, .inl rfl, ?_, ?_, ?_⟩
  · simp [execOp, Instr.makeMap, Sem.run_bind, Result.andThen]
  · exact .obj rfl (.map 0 ⟨rfl, fun i a a' h => by simp at h⟩)
  · exact VR.map (upd_self _ _ _)
theorem ali_map {t kt el : TypeId} {x : Operand} {k : IntKind} {n : Int} (ht : C.P.underlying t = some (.map kt el)) (hv : evA s x = .int k n) (hx : VR e (evA s x) (ev σ x)) : Ali C e σ ⟨d, .makeMap t (some x), ty, pos, after, g⟩ (.obj (.map #[] 0)) (fun b => .map (some b)) := by
  intro b w hb
  rw [hv] at hx
  refine ⟨.map #[] 0, 0, 0, .map (some w.heap.size), w, .inl rfl, ?_, ?_, ?_⟩
  · simp [execOp, Instr.makeMap, Sem.run_bind, Result.andThen, r_und ht, hx.int_inv, asInt, asIntOf]
  · exact .obj rfl (.map 0 ⟨rfl, fun i a a' h => by simp at h⟩)
  · exact VR.map (upd_self _ _ _)
theorem repA_get (z : List Value) : ∀ n, (repA z n) = (List.replicate n z).flatten
  | 0 => rfl
  | n + 1 => by show lapp z (repA z n) = _; rw [lapp_eq, repA_get z n, List.replicate_succ]; rfl
theorem rep_len (z : List Value) (n : Nat) : (repA z n).length = n * z.length := by rw [repA_get]; simp
theorem rep_get (z : List Value) (n i : Nat) (h : i < n * z.length) : (repA z n)[i]? = z[i % z.length]? := by
  induction n generalizing i with
  | zero => omega
  | succ n ih =>
    show (lapp z (repA z n))[i]? = _
    rw [lapp_eq, List.getElem?_append]
    split
    · rename_i h1; rw [Nat.mod_eq_of_lt h1]
    · rename_i h1
      have h2 : i - z.length < n * z.length := by rw [Nat.succ_mul] at h; omega
      rw [ih _ h2]
      congr 1
      exact (Nat.mod_eq_sub_mod (by omega)).symm
theorem rangeCells_eq (z : Array Value) (n : Nat) : (Array.range (n * z.size)).map (fun i => z[i % z.size]!) = ⟨repA z.toList n⟩ := by
  apply Array.ext_getElem?
  intro i
  rw [Array.getElem?_map, Array.getElem?_range]
  by_cases h : i < n * z.size
  · rw [if_pos h]
    have h2 : (⟨repA z.toList n⟩ : Array Value)[i]? = (repA z.toList n)[i]? := by simp
    rw [h2, rep_get _ _ _ (by simpa using h)]
    have hz : z.size ≠ 0 := fun e => by rw [e] at h; omega
    have hm : i % z.size < z.size := Nat.mod_lt _ (by omega)
    simp [hm]
  · rw [if_neg h]
    have h2 : (⟨repA z.toList n⟩ : Array Value)[i]? = (repA z.toList n)[i]? := by simp
    rw [h2, List.getElem?_eq_none (by rw [rep_len]; simp; omega)]
    rfl
theorem zeroA_inv {i : TypeInfo} {z : List Value} (h : zeroA i = some z) : ∃ zv, i.zero = some zv ∧ zv.cells.toList = z ∧ zv.cells.size = i.size ∧ lall nf z = true := by
  unfold zeroA at h
  split at h
  · rename_i zv hz
    cases hb : (Nat.beq (llen zv.cells.toList) i.size && lall nf zv.cells.toList) with
    | false => rw [hb] at h; cases h
    | true =>
      rw [hb] at h
      simp only [cond_true, Option.some.injEq] at h
      simp only [Bool.and_eq_true, llen_eq] at hb
      exact ⟨zv, hz, h, by have := Nat.eq_of_beq_eq_true hb.1; simpa using this, by rw [← h]; exact hb.2⟩
  · cases h
theorem ali_makeSlice (hC : C.OK) {t el : TypeId} {x y : Operand} {i : TypeInfo} {z : List Value} {k k' : IntKind} {l c : Nat} (ht : C.P.underlying t = some (.slice el)) (hi : C.P.info? el = some i) (hz : zeroA i = some z) (hv : evA s x = .int k (.ofNat l)) (hw : evA s y = .int k' (.ofNat c)) (hlc : l ≤ c) (hb : i.bytes * c ≤ 2 ^ 40) (hc : c ≤ 2 ^ 40)
    (hx : VR e (evA s x) (ev σ x)) (hy : VR e (evA s y) (ev σ y)) : Ali C e σ ⟨d, .makeSlice t x y, ty, pos, after, g⟩ (.cells (repA z c) el .exact) (fun b => .slice (some ⟨b, 0, none⟩) l c) := by
  intro b w hbn
  rw [hv] at hx
  rw [hw] at hy
  obtain ⟨zv, z1, z2, z3, z4⟩ := zeroA_inv hz
  have hrun := run_make (P := C.P) (w := w) t el i zv ht hi z1 k k' (Int.ofNat l) (Int.ofNat c) (Int.natCast_nonneg _) (by show (l : Int) ≤ c; omega) (by
    have : ((i.bytes * c : Nat) : Int) ≤ 281474976710656 := by omega
    simpa using this) (by show (c : Int) ≤ _; omega)
  have hm : madeCells zv.cells (c * i.size) = ⟨repA z c⟩ := by
    unfold madeCells
    rw [← z3, ← z2]
    exact rangeCells_eq zv.cells c
  refine ⟨.cells ⟨repA z c⟩ el, 0, 0, .slice (some ⟨w.heap.size, 0, none⟩) l c, w, .inl rfl, ?_, ?_, ?_⟩
  · simp only [execOp, hx.int_inv, hy.int_inv, Sem.run_bind, hrun, Result.andThen, Sem.run_pure]
    rw [show (Int.ofNat c).toNat = c from rfl, show (Int.ofNat l).toNat = l from rfl, hm]
  · refine cr_exact (C := C) (n := w.heap.size) (t := el) (lall_nf ?_)
    rw [lall_eq, List.all_eq_true] at z4 ⊢
    intro v hv
    rw [repA_get] at hv
    simp only [List.mem_flatten, List.mem_replicate] at hv
    obtain ⟨l2, ⟨_, rfl⟩, h2⟩ := hv
    exact z4 v h2
  · exact VR.sl (upd_self _ _ _)
theorem fill_inv {place : Nat → Option (Nat × Nat)} {z c : List Value} {i : Nat} {v : Value} {rest : List (Nat × Value)} (h : Instr.fill place ⟨z⟩ ((i, v) :: rest) = some ⟨c⟩) :
    ∃ off size, place i = some (off, size) ∧ v.cells.size = size ∧ off + size ≤ z.length ∧ Instr.fill place ⟨lput z off v.cells.toList⟩ rest = some ⟨c⟩ := by
  have h' := h
  unfold Instr.fill at h'
  split at h'
  · cases h'
  · rename_i off size hp
    by_cases hc : v.cells.size ≠ size || off + v.cells.size > (⟨z⟩ : Array Value).size
    · rw [if_pos hc] at h'; cases h'
    · simp only [Bool.or_eq_true, decide_eq_true_eq, not_or] at hc
      have h1 : v.cells.size = size := by
        have := hc.1
        simpa using this
      have h2 : off + size ≤ z.length := by
        have := hc.2
        simp at this
        omega
      rw [fill_cons hp h1 h2] at h
      exact ⟨off, size, hp, h1, h2, h⟩
theorem cells_ok {e : Env} {v v' : Value} (h : VR e v v') : LR e v.cells.toList v'.cells.toList := by
  cases h with
  | agg ha h => exact ⟨ha, h⟩
  | any h1 h2 => rw [one_cells h2]; exact LR.cons (.any h1 h2) LR.nil
  | _ => exact LR.cons (by constructor <;> assumption) LR.nil
theorem fillR {e : Env} {place : Nat → Option (Nat × Nat)} : ∀ (l l' : List (Nat × Value)) (z z' c : List Value), l.length = l'.length → (∀ (j : Nat) (p p' : Nat × Value), l[j]? = some p → l'[j]? = some p' → p.1 = p'.1 ∧ VR e p.2 p'.2) → LR e z z' → Instr.fill place ⟨z⟩ l = some ⟨c⟩ → ∃ c', Instr.fill place ⟨z'⟩ l' = some ⟨c'⟩ ∧ LR e c c'
  | [], [], z, z', c, _, _, hz, h => by
    have : z = c := by simpa [Instr.fill] using h
    subst this
    exact ⟨z', rfl, hz⟩
  | [], _ :: _, z, z', c, hl, _, _, _ => by cases hl
  | _ :: _, [], z, z', c, hl, _, _, _ => by cases hl
  | (i, v) :: l, (i', v') :: l', z, z', c, hl, hr, hz, h => by
    obtain ⟨h1, h2⟩ := hr 0 _ _ rfl rfl
    simp only at h1 h2
    subst h1
    obtain ⟨off, size, hp, hs, hle, h3⟩ := fill_inv h
    have hc := cells_ok h2
    have hs' : v'.cells.size = size := by
      have := hc.1
      rw [← hs]; simpa using this.symm
    rw [fill_cons hp hs' (by rw [← hz.1]; exact hle)]
    exact fillR l l' _ _ c (by simpa using hl) (fun j p p' hj hj' => hr (j + 1) p p' (by simpa using hj) (by simpa using hj')) (hz.put off hc) h3
theorem ali_buildSlice {t el len : Nat} {parts : Array (Nat × Operand)} {i : TypeInfo} {z cs : List Value} (ht : C.P.underlying t = some (.slice el)) (hi : C.P.info? el = some i) (hz : zeroA i = some z) (hle : len * i.size ≤ 2 ^ 24)
    (hf : Instr.fill (fun k => some (k * i.size, i.size)) ⟨repA z len⟩ (lmap (fun p => (p.1, evA s p.2)) parts.toList) = some ⟨cs⟩) (hx : ∀ p ∈ parts.toList, VR e (evA s p.2) (ev σ p.2)) :
    Ali C e σ ⟨d, .buildSlice t len parts, ty, pos, after, g⟩ (.cells cs el .exact) (fun b => .slice (some ⟨b, 0, none⟩) len len) := by
  intro b w hbn
  obtain ⟨zv, z1, z2, z3, z4⟩ := zeroA_inv hz
  have hzz : lall nf (repA z len) = true := by
    rw [lall_eq, List.all_eq_true] at z4 ⊢
    intro v hv
    rw [repA_get] at hv
    simp only [List.mem_flatten, List.mem_replicate] at hv
    obtain ⟨l2, ⟨_, rfl⟩, h2⟩ := hv
    exact z4 v h2
  rw [lmap_eq] at hf
  obtain ⟨cs', h1, h2⟩ := fillR (e := e) (parts.toList.map fun p => (p.1, evA s p.2)) (parts.toList.map fun p => (p.1, ev σ p.2)) _ _ _ (by simp) (fun j p p' hj hj' => by
    rw [List.getElem?_map, Option.map_eq_some_iff] at hj hj'
    obtain ⟨q, q1, rfl⟩ := hj
    obtain ⟨q', q1', rfl⟩ := hj'
    rw [q1] at q1'
    cases q1'
    exact ⟨rfl, hx q (List.mem_of_getElem? q1)⟩) (lall_nf hzz) hf
  have hcells : ((Array.range (len * i.size)).map fun j => zv.cells[j % zv.cells.size]!) = ⟨repA z len⟩ := by
    rw [← z3, ← z2]; exact rangeCells_eq zv.cells len
  refine ⟨.cells ⟨cs'⟩ el, 0, 0, .slice (some ⟨w.heap.size, 0, none⟩) len len, w, .inl rfl, ?_, ?_, ?_⟩
  · have hp : (parts.map fun x => (x.1, ev σ x.2)).toList = parts.toList.map fun p => (p.1, ev σ p.2) := by simp
    have hgt : ¬ (2 ^ 24 < len * i.size) := by omega
    by_cases h0 : len * i.size = 0
    · rw [h0] at hcells
      have hc0 : (⟨repA z len⟩ : Array Value) = (Array.range 0).map fun j => (#[] : Array Value)[j % (#[] : Array Value).size]! := by rw [← hcells]; simp
      rw [hc0] at h1
      simp [execOp, Instr.buildSlice, Sem.run_bind, r_und ht, Result.andThen, r_size hi, h0, newRow, hp] at h1 ⊢
      simp [h1, Sem.run_bind, Result.andThen]
    · simp only [execOp, Instr.buildSlice, Sem.run_bind, r_und ht, Result.andThen, r_size hi, gt_iff_lt, hgt, if_false, h0, r_zero hi z1, Sem.run_pure, hcells, hp, h1, newRow]
      simp [Sem.run_bind, Result.andThen]
  · exact cr_exact (C := C) (n := w.heap.size) (t := el) (h2.mono (upd_le hbn))
  · exact VR.sl (upd_self _ _ _)
theorem ali_bytes {src dst el : TypeId} {x : Operand} {i : TypeInfo} {str : ByteArray} (hs : C.P.underlying src = some .string) (hd : C.P.underlying dst = some (.slice el)) (he : C.P.underlying el = some (.int .u8)) (hi : C.P.info? el = some i) (h1 : i.size = 1) (hsz : str.size ≤ 2 ^ 40) (hv : evA s x = .string str) (hx : VR e (evA s x) (ev σ x)) :
    Ali C e σ ⟨d, .convert src dst x, ty, pos, after, g⟩ (.cells (lmap (fun b => .int .u8 b.toNat) str.data.toList) el .grown) (fun b => .slice (some ⟨b, 0, none⟩) str.size str.size) := by
  intro b w hbn
  rw [hv] at hx
  have hge : str.size ≤ grownCap w str.size 0 el := by
    unfold grownCap Question.cut
    exact Nat.le_add_right _ _
  have hlen : str.data.size = str.size := rfl
  refine ⟨.cells (bytesRow str (grownCap w str.size 0 el)) el ((bytesRow str (grownCap w str.size 0 el)).size, (bytesRow str (grownCap w str.size 0 el)).size + 1), 0, grownCap w str.size 0 el - str.size, .slice (some ⟨w.heap.size, 0, none⟩) str.size (grownCap w str.size 0 el), w.drew, .inr rfl, ?_, ?_, ?_⟩
  · simp only [execOp, hx.str_inv, Sem.run_bind, run_bytes_of_string w src dst el str hs hd he, Result.andThen, Sem.run_pure]
  · obtain ⟨l', hl'⟩ : ∃ l', bytesRow str (grownCap w str.size 0 el) = ⟨l'⟩ := ⟨_, rfl⟩
    have hll : l' = (lmap (fun b => Value.int .u8 b.toNat) str.data.toList) ++ List.replicate (grownCap w str.size 0 el - str.size) (.int .u8 0) := by
      have : (bytesRow str (grownCap w str.size 0 el)).toList = l' := by rw [hl']
      rw [← this, lmap_eq]
      simp [bytesRow]
    rw [hl']
    refine .cells (fun h => by cases h) (fun j v hj => ?_) (fun _ j hj hh => ?_) (fun _ => ⟨i, hi, ?_, ?_, fun j _ hj hh => ?_⟩)
    · refine ⟨v, ?_, ?_⟩
      · show l'[j + 0]? = some v
        rw [hll, Nat.add_zero, List.getElem?_append_left (List.getElem?_eq_some_iff.1 hj).1]; exact hj
      · rw [lmap_eq, List.getElem?_map, Option.map_eq_some_iff] at hj
        obtain ⟨q, _, rfl⟩ := hj
        exact .int _ _
    · have h3 : l'.length ≤ j := by simpa using hh.1
      rw [hll] at h3
      simp only [List.length_append] at h3
      omega
    · rw [hll]
      simp [lmap_eq, h1]
    · have hcap : grownCap w str.size 0 el ≤ 9223372036854775807 := by
        unfold grownCap Question.cut
        have : w.tape w.drawn (.appendCap str.size 0 el) % (2 ^ 63 - str.size) < 2 ^ 63 - str.size := Nat.mod_lt _ (by omega)
        show str.size + w.tape w.drawn (.appendCap str.size 0 el) % (2 ^ 63 - str.size) ≤ _
        omega
      have hll2 : (lmap (fun b => Value.int .u8 b.toNat) str.data.toList).length = str.size := by rw [lmap_eq]; simp
      rw [hll2, h1, Nat.div_one]
      show str.size + (grownCap w str.size 0 el - str.size) ≤ _
      omega
    · have h3 : l'.length ≤ j := by simpa using hh.1
      have h4 : l'.length = (lmap (fun b => Value.int .u8 b.toNat) str.data.toList).length + (grownCap w str.size 0 el - str.size) := by rw [hll]; simp
      rw [h1] at hj
      simp only [Nat.add_zero, Nat.mul_one] at hj
      omega
  · have := VR.sl (o := 0) (n := str.size) (c := str.size) (upd_self e b ⟨w.heap.size, 0, grownCap w str.size 0 el - str.size⟩)
    simp only [Nat.add_zero] at this
    rw [show str.size + (grownCap w str.size 0 el - str.size) = grownCap w str.size 0 el by omega] at this
    exact this
/-! ## Put together -/
def newish : Ins → Bool
  | .new .. | .box .. => true
  | _ => false
def special : Ins → Bool
  | .store .. | .stores .. | .callf .. | .copy .. | .mapPut .. | .mapDel .. | .mapEnt .. | .mapSto .. | .clear .. | .rangeS .. | .rangeM .. | .nextS .. | .nextM .. | .entry .. | .invoke .. | .callv .. | .append .. | .toS .. => true
  | _ => false
def both : Ins → Bool := fun i => newish i || special i
theorem both_bin (op : BinOp) (t : TypeId) (x y : Operand) : both (cBin C op t x y) = false := by
  have h : ∀ neg, both (cEqF C neg t op x y) = false := fun neg => by unfold cEqF; split <;> rfl
  unfold cBin
  split <;> first | rfl | exact h _
theorem both_build (t : TypeId) (p : Array (Nat × Operand)) : both (cBuild C t p) = false := by
  unfold cBuild
  split
  · split
    · generalize (_ && _) = b; cases b <;> rfl
    · rfl
  · rfl
theorem both_field (t : TypeId) (x : Operand) (f : Nat) : both (cField C t x f) = false := by
  unfold cField
  split
  · split
    · split <;> rfl
    · rfl
  · rfl
theorem both_slice (t : TypeId) (x : Operand) (lo hi mx : Option Operand) : both (cSlice C t x lo hi mx) = false := by
  unfold cSlice
  split
  · split <;> rfl
  · split <;> rfl
  · split <;> rfl
  · rfl
theorem both_iface (t : TypeId) (x : Operand) : both (cIface C t x) = false := by
  unfold cIface
  split <;> rfl
theorem both_assert (t : TypeId) (ok : Bool) (x : Operand) : both (cAssert C t ok x) = false := by
  unfold cAssert
  split
  · rfl
  · cases nf _ <;> rfl
  · rfl
theorem both_load (t : TypeId) (x : Operand) : both (cLoad C t x) = false := by unfold cLoad; split <;> rfl
theorem both_fieldAddr (t : TypeId) (x : Operand) (f : Nat) : both (cFieldAddr C t x f) = false := by
  unfold cFieldAddr
  split
  · split
    · split
      · cases Nat.beq _ 0 <;> rfl
      · rfl
    · rfl
  · rfl
theorem both_idx (t : TypeId) (x y : Operand) : both (cIdx C t x y) = false := by
  unfold cIdx
  split
  · split <;> rfl
  · split <;> rfl
  · rfl
theorem both_arr (t : TypeId) (x : Operand) : both (cArr C t x) = false := by unfold cArr; split <;> rfl
theorem both_func (f : Fn) (a b : Array Operand) : both (cFunc f a b) = false := by unfold cFunc; split <;> rfl
theorem both_look (t : TypeId) (ok : Bool) (m k : Operand) : both (cMap C t (fun kk z => .lookup kk ok z m k) .still) = false := by
  unfold cMap
  split
  · split
    · cases nf _ <;> rfl
    · rfl
  · rfl
theorem newish_map (t : TypeId) (i : KK → Value → Ins) (c : Cls) (h : ∀ k z, newish (i k z) = false) : newish (cMap C t i c) = false := by
  unfold cMap
  split
  · split
    · cases nf _
      · rfl
      · exact h _ _
    · rfl
  · rfl
theorem newish_call (c : Call) : newish (cCall C c) = false := by
  unfold cCall
  split
  any_goals rfl
  · unfold cLen; split <;> rfl
  · unfold cCopy
    split
    · split <;> rfl
    · rfl
  · exact newish_map _ _ _ (fun _ _ => rfl)
  · unfold cCap; split <;> rfl
  · unfold cClear
    split
    · split
      · cases lall nf _ <;> rfl
      · rfl
    · rfl
theorem both_n {i : Ins} (h : both i = false) : newish i = false := by
  unfold both at h
  simp only [Bool.or_eq_false_iff] at h
  exact h.1
theorem both_s {i : Ins} (h : both i = false) : special i = false := by
  unfold both at h
  simp only [Bool.or_eq_false_iff] at h
  exact h.2
theorem newish_conv (a b : TypeId) (x : Operand) : newish (cConv C a b x) = false := by
  unfold cConv
  split
  · split <;> rfl
  · split
    · split <;> rfl
    · rfl
  · split
    · split <;> rfl
    · rfl
  · rfl
theorem nope {i : Ins} (h : newish i = true) (h2 : newish i = false) : False := by rw [h] at h2; cases h2
theorem newish_comp (op : Op) (h : newish (comp C op) = true) : (∃ t, op = .alloc t) ∨ ∃ t x, op = .box t x := by
  cases op
  case alloc t => exact .inl ⟨t, rfl⟩
  case box t x => exact .inr ⟨t, x, rfl⟩
  all_goals exfalso
  case binOp => exact nope h (both_n (both_bin _ _ _ _))
  case build => exact nope h (both_n (both_build _ _))
  case field => exact nope h (both_n (both_field _ _ _))
  case slice => exact nope h (both_n (both_slice _ _ _ _ _))
  case makeInterface => exact nope h (both_n (both_iface _ _))
  case typeAssert => exact nope h (both_n (both_assert _ _ _))
  case load => exact nope h (both_n (both_load _ _))
  case fieldAddr => exact nope h (both_n (both_fieldAddr _ _ _))
  case indexAddr => exact nope h (both_n (both_idx _ _ _))
  case sliceToArrayPointer => exact nope h (both_n (both_arr _ _))
  case makeFunc => exact nope h (both_n (both_func _ _ _))
  case lookup => exact nope h (both_n (both_look _ _ _ _))
  case mapUpdate => exact nope h (newish_map _ _ _ (fun _ _ => rfl))
  case insert => exact nope h (newish_map _ _ _ (fun _ _ => rfl))
  case mapEntry => exact nope h (newish_map _ _ _ (fun _ _ => rfl))
  case call c => exact nope h (newish_call c)
  case convert => exact nope h (newish_conv _ _ _)
  case store t x y =>
    have : newish (cStore C t x y) = false := by unfold cStore; split <;> rfl
    exact nope h (this)
  case range t x =>
    have : newish (cRange C t x) = false := by unfold cRange; split <;> rfl
    exact nope h (this)
  case unOp op t x => cases op <;> cases h
  case next x b => cases b <;> cases h
  all_goals cases h
theorem alloc_all (hC : C.OK) (o : Oper) (c : Cel) (mk : Nat → Value) (hc : insCls (compK C o.op) = .alloc) (h : insN C s o (compK C o.op) = some (c, mk)) (hO : OpR C e s σ o) : Ali C e σ o c mk := by
  obtain ⟨h1, h2⟩ := compK_inv (op := o.op) rfl (by intro hh; rw [hh] at hc; cases hc)
  have hx : ∀ x ∈ o.op.operands.toList, VR e (evA s x) (ev σ x) := fun x hx => hO x hx (h1 x hx)
  rw [← h2] at hc h
  clear h1 h2 hO
  obtain ⟨d, op, ty, pos, after, g⟩ := o
  simp only at hc h hx
  cases hn : newish (comp C op) with
  | true =>
    rcases newish_comp op hn with ⟨t, rfl⟩ | ⟨t, x, rfl⟩
    · have h' : insN C s ⟨d, .alloc t, ty, pos, after, g⟩ (cAlloc C t) = some (c, mk) := h
      have hn' : newish (cAlloc C t) = true := hn
      unfold cAlloc at h' hn'
      split at h'
      · rename_i a1 a2 a3 a4 a5 a6 a7 z a8 a9 hi
        rw [hi] at hn'
        cases hb : lall nf z.cells.toList with
        | false => simp only [hb] at hn'; cases hn'
        | true =>
          rw [hb] at h'
          have h9 : some (Cel.cells z.cells.toList t .exact, fun b => Value.pointer (some ⟨b, 0, none⟩)) = some (c, mk) := h'
          cases h9
          exact ali_new hC (hC.tys _ _ hi) rfl hb
      · cases h'
    · have h9 : some (Cel.cells (cellsA (evA s x)) t .exact, fun b => Value.pointer (some ⟨b, 0, none⟩)) = some (c, mk) := h
      cases h9
      exact ali_box (hx x (by simp [Op.operands]))
  | false =>
    have h' : aalloc C s ⟨d, op, ty, pos, after, g⟩ = some (c, mk) := by
      generalize comp C op = i at hc h hn
      cases i <;> first | exact h | (cases hn; done) | (cases hc; done)
    unfold aalloc at h'
    simp only at h'
    split at h'
    · cases h'
      exact ali_map0
    · rename_i t x
      unfold aMakeMap at h'
      split at h'
      · rename_i kt el k n hu hv
        cases h'
        exact ali_map (und_ok hC hu) hv (hx x (by simp [Op.operands]))
      · cases h'
    · rename_i t x y
      unfold aMakeSlice at h'
      split at h'
      · rename_i el hu
        split at h'
        · rename_i i hi
          split at h'
          · rename_i z k l k' c' hz hv hw
            cases hb : (Nat.ble l c' && Nat.ble (i.bytes * c') (2 ^ 40) && Nat.ble c' (2 ^ 40)) with
            | false => rw [hb] at h'; cases h'
            | true =>
              rw [hb] at h'
              simp only [Bool.and_eq_true] at hb
              cases h'
              exact ali_makeSlice hC (und_ok hC hu) (hC.tys _ _ hi) hz hv hw (Nat.le_of_ble_eq_true hb.1.1) (Nat.le_of_ble_eq_true hb.1.2) (Nat.le_of_ble_eq_true hb.2) (hx x (by simp [Op.operands])) (hx y (by simp [Op.operands]))
          · cases h'
        · cases h'
      · cases h'
    · rename_i t len parts
      unfold aBuildSlice at h'
      split at h'
      · rename_i el hu
        split at h'
        · rename_i i hi
          split at h'
          · rename_i z hz
            cases hb : Nat.ble (len * i.size) (2 ^ 24) with
            | false => rw [hb] at h'; cases h'
            | true =>
              rw [hb] at h'
              simp only [cond_true] at h'
              split at h'
              · rename_i cs hf
                cases h'
                exact ali_buildSlice (und_ok hC hu) (hC.tys _ _ hi) hz (Nat.le_of_ble_eq_true hb) hf (fun p hp => hx p.2 (by simp [Op.operands]; exact ⟨p.1, by simpa using hp⟩))
              · cases h'
          · cases h'
        · cases h'
      · cases h'
    · rename_i src dst x
      unfold aBytes at h'
      split at h'
      · rename_i el str hs hd hv
        split at h'
        · rename_i i he hi
          cases hb : (Nat.beq i.size 1 && Nat.ble str.size (2 ^ 40)) with
          | false => rw [hb] at h'; cases h'
          | true =>
            rw [hb] at h'
            simp only [Bool.and_eq_true] at hb
            cases h'
            exact ali_bytes (und_ok hC hs) (und_ok hC hd) (und_ok hC he) (hC.tys _ _ hi) (Nat.eq_of_beq_eq_true hb.1) (Nat.le_of_ble_eq_true hb.2) hv (hx x (by simp [Op.operands]))
        · cases h'
      · cases h'
    · cases h'
end
end Go.Proofs.YtmcbcoafodmbjaaGreatDoor.Ex
namespace Go.Proofs.YtmcbcoafodmbjaaGreatDoor.Ex
open Go Go.RowKit
set_option linter.unusedVariables false
set_option linter.unusedSimpArgs false
section
variable {C : Ctx} {B : Nat} {w0 : World} {callF : CallF} {e : Env} {st : St} {w : World} {s : Sl} {σ : Slots} {d : Option Tmp} {ty : TypeId} {pos : String} {after : Array Edge} {g : Option (Nat × Bool)}
def Lou (C : Ctx) (B : Nat) (w0 : World) (callF : CallF) (e : Env) (w : World) (σ : Slots) (s : Sl) (st : St) (o : Oper) (i : Ins) : Prop := ∀ v st', insCls i = .loud → insL C callF s o st i = some (v, st') → resE C.P ((execOp (ev σ) o).run C.P w) (PostA C B w0 st e st' v)
theorem lou_not {o : Oper} {i : Ins} (h : special i = false) : Lou C B w0 callF e w σ s st o i := by
  intro v st' hc h2
  cases i <;> first | (cases h; done) | (cases hc; done) | (cases h2; done)
theorem post_put {b : Nat} {c : Cel} {w' : World} {v v' : Value} (h : Rel C B w0 e (st.put b c) w') (hv : VR e v v') : PostA C B w0 st e (st.put b c) v v' w' := ⟨e, Fol.put_ _ _ _ _, h, hv⟩
theorem post_same {w' : World} {v v' : Value} (h : Rel C B w0 e st w') (hv : VR e v v') : PostA C B w0 st e st v v' w' := ⟨e, Fol.refl _ _, h, hv⟩
theorem lou_store (hC : C.OK) (hR : Rel C B w0 e st w) {t : TypeId} {x y : Operand} (hx : VR e (evA s x) (ev σ x)) (hy : VR e (evA s y) (ev σ y)) : Lou C B w0 callF e w σ s st ⟨d, .store t x y, ty, pos, after, g⟩ (cStore C t x y) := by
  unfold cStore
  split
  · rename_i hs
    intro v st' _ h
    have h' : iStore st (evA s x) (evA s y) = some (v, st') := h
    unfold iStore at h'
    split at h'
    · rename_i b off hv
      rw [hv] at hx
      obtain ⟨xb, hb, hσ⟩ := hx.ptr_inv
      cases ho : isOne (evA s y) with
      | false => rw [ho] at h'; cases h'
      | true =>
        rw [ho] at h'
        simp only [cond_true] at h'
        cases hst : st.store1 b off (evA s y) with
        | none => rw [hst] at h'; cases h'
        | some st1 =>
          rw [hst] at h'
          simp only [Option.some.injEq, Prod.mk.injEq] at h'
          obtain ⟨rfl, rfl⟩ := h'
          have hst2 := store1_spec ho hst
          obtain ⟨hcw, hR'⟩ := hR.store_ hst2 hb (LR.cons hy LR.nil)
          refine resE_ends (opR_ends C.P ⟨d, .store t x y, ty, pos, after, g⟩ σ w) ?_
          show resE C.P (storeR C.P (ev σ x) (ev σ y) (shapeOf C.P t) w) _
          rw [hσ, size_ok hC hs, storeR_one]
          simp only [List.length_cons, List.length_nil, canWrite, Bool.and_true, Bool.and_eq_true, Option.isSome_iff_exists, Bool.not_eq_true', add_none, Nat.add_zero] at hcw
          obtain ⟨⟨u, hu⟩, hf⟩ := hcw
          rw [hu, hf, one_ok hy ho]
          obtain ⟨l, t2, k, _, _, _, rfl⟩ := store_spec hst2
          exact post_put hR' VR.undef_
    · cases h'
  · rename_i n hs
    intro v st' _ h
    have h' : iStores st n (evA s x) (evA s y) = some (v, st') := h
    unfold iStores at h'
    split at h'
    · rename_i b off l hv hw
      rw [hv] at hx
      rw [hw] at hy
      obtain ⟨xb, hb, hσ⟩ := hx.ptr_inv
      obtain ⟨l', hσy, hl⟩ := hy.agg_inv
      cases hn : Nat.beq (llen l) n with
      | false => rw [hn] at h'; cases h'
      | true =>
        rw [hn] at h'
        simp only [cond_true] at h'
        cases hst : st.store b off l with
        | none => rw [hst] at h'; cases h'
        | some st1 =>
          rw [hst] at h'
          simp only [Option.some.injEq, Prod.mk.injEq] at h'
          obtain ⟨rfl, rfl⟩ := h'
          obtain ⟨hcw, hR'⟩ := hR.store_ hst hb hl
          have hone := store_one hst
          have hn' : l'.length = n := by rw [← hl.1]; have := Nat.eq_of_beq_eq_true hn; rw [llen_eq] at this; exact this
          refine resE_ends (opR_ends C.P ⟨d, .store t x y, ty, pos, after, g⟩ σ w) ?_
          show resE C.P (storeR C.P (ev σ x) (ev σ y) (shapeOf C.P t) w) _
          rw [hσ, hσy, size_ok hC hs, storeR_many]
          rw [hn'] at hcw
          have h1 : allOne l' = true := allOne_of fun u hu => by
            obtain ⟨j, hj⟩ := List.mem_iff_getElem?.1 hu
            have hjl : j < l.length := by rw [hl.1]; exact (List.getElem?_eq_some_iff.1 hj).1
            exact one_ok (hl.2 j _ u (List.getElem?_eq_getElem hjl) hj) (hone _ (List.getElem_mem hjl))
          have h2 : ((⟨l'⟩ : Array Value).size == n) = true := by simp [hn']
          rw [hcw, h2, h1]
          obtain ⟨l2, t2, k, _, _, _, rfl⟩ := store_spec hst
          exact post_put hR' VR.undef_
    · cases h'
  · exact lou_not rfl
/-! ## Calls -/
theorem lmap_ok {args : List Operand} (h : ∀ x ∈ args, VR e (evA s x) (ev σ x)) : LR e (lmap (evA s) args) (args.map (ev σ)) := by
  rw [lmap_eq]; exact LR.map_mem args h
theorem run_call {P : Program} {f : FuncId} {args : Array Value} {w : World} {k : Kont} (hent : (callFunc f args).run P w = .ok (.enter f args) w) (h : callE P f args w k) : resE P ((callFunc f args).run P w) k := by rw [hent]; exact h
theorem lou_callf (hcall : CallOK C B w0 callF) (hent : EntOK C callF) (hR : Rel C B w0 e st w) {f : FuncId} {args : List Operand} {ts : Array TypeId} (ha : ∀ x ∈ args, VR e (evA s x) (ev σ x)) : Lou C B w0 callF e w σ s st ⟨d, .call ⟨.value (.func f), ⟨args⟩, ts⟩, ty, pos, after, g⟩ (.callf f args) := by
  intro v st' _ h
  have h' : callF (.fn f) (lmap (evA s) args) st = some (v, st') := h
  have h1 : (execOp (ev σ) ⟨d, .call ⟨.value (.func f), ⟨args⟩, ts⟩, ty, pos, after, g⟩).run C.P w = (callFunc f ⟨args.map (ev σ)⟩).run C.P w := by
    simp only [execOp, resolve, Deferred.ofValue, ev, Sem.run_bind, Sem.run_pure, Result.andThen, invoke]
    congr 2
    apply Array.ext'
    simp
  rw [h1]
  exact run_call (hent f _ _ _ _ h' _ _) (hcall (.fn f) _ _ _ _ h' e w _ hR (lmap_ok ha))
theorem lou_callv (hcall : CallOK C B w0 callF) (hent : EntOK C callF) (hR : Rel C B w0 e st w) {x : Operand} {args : List Operand} {ts : Array TypeId} (hx : VR e (evA s x) (ev σ x)) (ha : ∀ x ∈ args, VR e (evA s x) (ev σ x)) : Lou C B w0 callF e w σ s st ⟨d, .call ⟨.value x, ⟨args⟩, ts⟩, ty, pos, after, g⟩ (.callv x args) := by
  intro v st' _ h
  have h' : iCallv callF s st (evA s x) args = some (v, st') := h
  unfold iCallv at h'
  split at h'
  · rename_i l hv
    rw [hv] at hx
    generalize hσ : ev σ x = xv at hx
    cases hx with
    | yield hl =>
      rename_i xb
      have h1 : (execOp (ev σ) ⟨d, .call ⟨.value x, ⟨args⟩, ts⟩, ty, pos, after, g⟩).run C.P w = (Instr.yield xb.blk ⟨args.map (ev σ)⟩).run C.P w := by
        simp only [execOp, resolve, hσ, Deferred.ofValue, Sem.run_bind, Sem.run_pure, Result.andThen, invoke]
        congr 2
        apply Array.ext'
        simp
      rw [h1]
      exact hcall (.yield l) _ _ _ _ h' e w _ hR (lmap_ok ha) xb hl
  · rename_i f a b hv
    rw [hv] at hx
    generalize hσ : ev σ x = xv at hx
    cases hx with
    | func _ ha1 ha2 hb1 hb2 =>
      rename_i a' b'
      have hargs : LR e (lapp a (lapp (lmap (evA s) args) b)) (a' ++ (args.map (ev σ) ++ b')) := by
        rw [lapp_eq, lapp_eq]
        exact LR.append ⟨ha1, ha2⟩ (LR.append (lmap_ok ha) ⟨hb1, hb2⟩)
      have h1 : (execOp (ev σ) ⟨d, .call ⟨.value x, ⟨args⟩, ts⟩, ty, pos, after, g⟩).run C.P w = (callFunc f ⟨a' ++ (args.map (ev σ) ++ b')⟩).run C.P w := by
        simp only [execOp, resolve, hσ, Deferred.ofValue, Sem.run_bind, Sem.run_pure, Result.andThen, invoke]
        congr 2
        apply Array.ext'
        simp
      rw [h1]
      exact run_call (hent f _ _ _ _ h' _ _) (hcall (.fn f) _ _ _ _ h' e w _ hR hargs)
  · cases h'
end
end Go.Proofs.YtmcbcoafodmbjaaGreatDoor.Ex
