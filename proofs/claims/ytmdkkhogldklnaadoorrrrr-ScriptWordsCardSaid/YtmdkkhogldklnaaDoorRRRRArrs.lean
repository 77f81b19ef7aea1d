/-
  An argument that is an array of bytes by value: what it is, and that its reading is the same in every world.
-/
import Derived.Test.YtmdkkhogldklnaaDoorRRRREng
import Derived.WideKeyArr2
namespace Go.Proofs.YtmdkkhogldklnaaDoorRRRR
open Go.RowKit
set_option linter.unusedVariables false
section
variable {H : Type} {enc : TypeId × Value → H} {P : Program} {t e n : Nat} {q : IntKind}
theorem trod_int_same (he : P.underlying e = some (.int q)) (W W' : World) (base base' : Nat) (sp sp' : Nat → Bool) (held held' : Bool) (fuel : Nat) (cs : List Value) :
    DataW.trod enc P W base sp held fuel e cs = DataW.trod enc P W' base' sp' held' fuel e cs := by
  cases fuel with
  | zero => simp [DataW.trod]
  | succ m =>
    unfold DataW.trod; simp only [he]
    rcases cs with _ | ⟨v, _ | ⟨v2, r⟩⟩
    · rfl
    · cases v <;> rfl
    · cases v <;> rfl
theorem trod_arr_same (ht : P.underlying t = some (.array n e)) (he : P.underlying e = some (.int q)) (W W' : World) (base base' : Nat) (sp sp' : Nat → Bool) (held held' : Bool) (fuel : Nat) (cs : List Value) :
    DataW.trod enc P W base sp held fuel t cs = DataW.trod enc P W' base' sp' held' fuel t cs := by
  cases fuel with
  | zero => simp [DataW.trod]
  | succ m => unfold DataW.trod; simp only [ht, trod_int_same he W W' base base' sp sp' held held']
theorem Trod_arr_same (ht : P.underlying t = some (.array n e)) (he : P.underlying e = some (.int q)) {W : World} (W' : World) {base : Nat} (base' : Nat) {sp : Nat → Bool} (sp' : Nat → Bool) {held : Bool} (held' : Bool) {v : Value} {d : DataW H} {ps : List MemPlace}
    (h : DataW.Trod enc P W base sp held t v d ps) : DataW.Trod enc P W' base' sp' held' t v d ps := by
  obtain ⟨fuel, hf⟩ := h
  exact ⟨fuel, by rw [← hf]; exact (trod_arr_same ht he ..).symm⟩
theorem mapM_ints (he : P.underlying e = some (.int q)) {W : World} {base : Nat} {sp : Nat → Bool} {held : Bool} {m : Nat} {cs : List Value} : ∀ (L : List Nat) (ys : List (DataW H × List MemPlace)),
    L.mapM (fun i => DataW.trod enc P W base sp held m e ((cs.drop (i * 1)).take 1)) = some ys → (∀ i ∈ L, ∃ a, cs[i]? = some (.int q a) ∧ (Lit.int q a).wf = true) ∧ ys.flatMap (·.2) = []
  | [], ys, h => by simp at h; subst h; exact ⟨fun i hi => (by cases hi), rfl⟩
  | i :: L, ys, h => by
    rw [List.mapM_cons] at h
    simp only [bind, Option.bind_eq_some_iff, pure, Option.some.injEq] at h
    obtain ⟨y, hy, ys', hys, rfl⟩ := h
    obtain ⟨h1, h2⟩ := mapM_ints he L ys' hys
    obtain ⟨a, ea, rfl, wa⟩ := DataW.trod_int he hy
    refine ⟨fun j hj => ?_, by simpa using h2⟩
    rcases List.mem_cons.1 hj with rfl | hj
    · refine ⟨a, ?_, wa⟩
      rw [Nat.mul_one] at ea
      have := congrArg (·[0]?) ea
      simpa [List.getElem?_take, List.getElem?_drop] using this
    · exact h1 j hj
/-- An array of n bytes by value: there are n bytes, and its reading touches no place. -/
theorem open_bytes (ht : P.underlying t = some (.array n e)) (he : P.underlying e = some (.int .u8)) (h1 : P.cellsOf e = 1) (hn : P.cellsOf t = n) {W : World} {base : Nat} {sp : Nat → Bool} {held : Bool} {xs : Array Value} {d : DataW H} {ps : List MemPlace}
    (hd : DataW.Trod enc P W base sp held t (.agg xs) d ps) : (∃ x : List UInt8, x.length = n ∧ xs = (x.map fun c => Value.int .u8 c.toNat).toArray) ∧ ps = [] := by
  obtain ⟨fuel, hf⟩ := hd
  cases fuel with
  | zero => simp [DataW.trod] at hf
  | succ m =>
    unfold DataW.trod at hf
    simp only [ht, Value.cells, hn, h1] at hf
    split at hf
    · rename_i hlen
      simp only [Option.map_eq_some_iff] at hf
      obtain ⟨ys, hy, e1⟩ := hf
      obtain ⟨h2, h3⟩ := mapM_ints he _ _ hy
      refine ⟨⟨xs.toList.map fun | .int _ a => UInt8.ofNat a.toNat | _ => 0, by simpa using hlen, ?_⟩, by rw [← h3]; exact (congrArg Prod.snd e1).symm⟩
      apply Array.ext'
      rw [List.map_map]
      refine (List.map_id _).symm.trans (List.map_congr_left fun v hv => ?_)
      obtain ⟨i, hi, rfl⟩ := List.mem_iff_getElem.1 hv
      obtain ⟨a, ha, wa⟩ := h2 i (by simp; omega)
      rw [List.getElem?_eq_getElem hi] at ha
      injection ha with ha
      rw [ha]
      have wa' : 0 ≤ a ∧ a ≤ 255 := by have h := wa; simp [Lit.wf] at h; exact h
      simp only [id, Function.comp, UInt8.toNat_ofNat']
      congr 1
      omega
    · cases hf
end
end Go.Proofs.YtmdkkhogldklnaaDoorRRRR
