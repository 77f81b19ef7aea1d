/-
  Texts joined: ExP, ExP2, ExP3, ExP4.
-/
import Derived.Test.YtmcbcoafodmbjaaGreatDoorJoin08
namespace Go.Proofs.YtmcbcoafodmbjaaGreatDoor.Ex
open Go Go.RowKit
set_option linter.unusedVariables false
set_option linter.unusedSimpArgs false
def Yie (C : Ctx) (e : Env) (w : World) (σ : Slots) (o : Oper) (v : Value) : Prop := ∃ v', (execOp (ev σ) o).run C.P w = .ok (.value v') w ∧ VR e v v'
section
variable {C : Ctx} {B : Nat} {w0 : World} {e : Env} {st : St} {w : World} {s : Sl} {σ : Slots} {d : Option Tmp} {ty : TypeId} {pos : String} {after : Array Edge} {g : Option (Nat × Bool)}
theorem compK_inv {op : Op} {i : Ins} (h : compK C op = i) (hi : i ≠ .other .loud) : (∀ x ∈ op.operands.toList, okOpd C x = true) ∧ comp C op = i := by
  unfold compK at h
  cases hb : lall (okOpd C) op.operands.toList with
  | false => rw [hb] at h; exact absurd h.symm hi
  | true => rw [hb] at h; rw [lall_eq, List.all_eq_true] at hb; exact ⟨hb, h⟩
theorem astill_ok {o : Oper} {v : Value} (h : astill C s o = some v) (hsel : ∀ cs b, o.op ≠ .select cs b) (hO : ∀ x ∈ o.op.operands.toList, VR e (evA s x) (ev σ x)) : Yie C e w σ o v := by
  unfold astill at h
  cases hb : lall (fun x => nf (evA s x)) o.op.operands.toList with
  | false => rw [hb] at h; cases h
  | true =>
    rw [hb] at h
    simp only [cond_true] at h
    rw [lall_eq, List.all_eq_true] at hb
    have hag : execOp (evA s) o = execOp (ev σ) o := execOp_congr o hsel fun x hx => nf_eq (hb x (by simpa using hx)) (hO x (by simpa using hx))
    split at h
    · rename_i u hp
      cases hn : nf u with
      | false => rw [hn] at h; cases h
      | true =>
        rw [hn] at h
        simp only [cond_true, Option.some.injEq] at h
        subst h
        exact ⟨u, by rw [← hag]; exact pureRun_ok _ hp w, nf_self hn⟩
    · cases h
theorem VR.int_inv {k : IntKind} {n : Int} {v : Value} (h : VR e (.int k n) v) : v = .int k n := by cases h; rfl
theorem VR.bool_inv {b : Bool} {v : Value} (h : VR e (.bool b) v) : v = .bool b := by cases h; rfl
theorem VR.str_inv {a : ByteArray} {v : Value} (h : VR e (.string a) v) : v = .string a := by cases h; rfl
theorem VR.ptr_inv {b o : Nat} {v : Value} (h : VR e (.pointer (some ⟨b, o, none⟩)) v) : ∃ x, e b = some x ∧ v = .pointer (some ⟨x.blk, o + x.shift, none⟩) := by
  generalize hu : (Value.pointer (some ⟨b, o, none⟩)) = u at h
  cases h <;> cases hu
  exact ⟨_, by assumption, rfl⟩
theorem VR.agg_inv {l : List Value} {v : Value} (h : VR e (.agg ⟨l⟩) v) : ∃ l', v = .agg ⟨l'⟩ ∧ LR e l l' := by
  cases h with
  | agg ha h => exact ⟨_, rfl, ha, h⟩
theorem VR.tuple_inv {l : List Value} {v : Value} (h : VR e (.tuple ⟨l⟩) v) : ∃ l', v = .tuple ⟨l'⟩ ∧ LR e l l' := by
  cases h with
  | tuple ha h => exact ⟨_, rfl, ha, h⟩
theorem numA_ok {dflt n : Nat} {x : Option Operand} (h : numA s dflt x = some n) (hx : ∀ y, x = some y → VR e (evA s y) (ev σ y)) : NumO (ev σ) dflt x n := by
  unfold numA at h
  split at h
  · simp only [Option.some.injEq] at h; exact .inl ⟨rfl, h.symm⟩
  · rename_i y
    split at h
    · rename_i k m hv
      simp only [Option.some.injEq] at h
      subst h
      have := hx y rfl
      rw [hv] at this
      exact .inr ⟨y, k, rfl, this.int_inv⟩
    · cases h
/-! ## One by one -/
theorem y_move {x : Operand} (hx : VR e (evA s x) (ev σ x)) : Yie C e w σ ⟨d, .move x, ty, pos, after, g⟩ (evA s x) := ⟨_, r_move x, hx⟩
theorem y_assign {x : Operand} (hx : VR e (evA s x) (ev σ x)) : Yie C e w σ ⟨d, .assign x, ty, pos, after, g⟩ (evA s x) := ⟨_, r_assign x, hx⟩
theorem y_pick {c x y : Operand} {v : Value} (h : iPick (evA s c) (evA s x) (evA s y) = some v) (hc : VR e (evA s c) (ev σ c)) (hx : VR e (evA s x) (ev σ x)) (hy : VR e (evA s y) (ev σ y)) : Yie C e w σ ⟨d, .pick c x y, ty, pos, after, g⟩ v := by
  unfold iPick at h
  split at h
  · rename_i t hv
    simp only [Option.some.injEq] at h
    subst h
    rw [hv] at hc
    refine ⟨_, r_pick hc.bool_inv, ?_⟩
    cases t
    · exact hy
    · exact hx
  · cases h
theorem y_load (hC : C.OK) (hR : Rel C B w0 e st w) {t : TypeId} {x : Operand} {v : Value} (hs : sizeA C t = some none) (h : iLoad st (evA s x) = some v) (hx : VR e (evA s x) (ev σ x)) : Yie C e w σ ⟨d, .load t x, ty, pos, after, g⟩ v := by
  unfold iLoad at h
  split at h
  · rename_i b off hv
    rw [hv] at hx
    obtain ⟨xb, hb, hσ⟩ := hx.ptr_inv
    obtain ⟨v', h1, h2⟩ := hR.cell_ h hb
    refine ⟨v', ?_, h2⟩
    refine opR_ends C.P ⟨d, .load t x, ty, pos, after, g⟩ σ w _ _ ?_
    show loadR C.P (ev σ x) (shapeOf C.P t) w = _
    rw [hσ, size_ok hC hs]
    show oneR (w.cell? _) w = _
    rw [h1]; rfl
  · cases h
theorem y_loads (hC : C.OK) (hR : Rel C B w0 e st w) {t : TypeId} {x : Operand} {v : Value} {n : Nat} (hs : sizeA C t = some (some n)) (h : iLoads st n (evA s x) = some v) (hx : VR e (evA s x) (ev σ x)) : Yie C e w σ ⟨d, .load t x, ty, pos, after, g⟩ v := by
  unfold iLoads at h
  split at h
  · rename_i b off hv
    rw [hv] at hx
    obtain ⟨xb, hb, hσ⟩ := hx.ptr_inv
    split at h
    · rename_i l hl
      simp only [Option.some.injEq] at h
      subst h
      obtain ⟨l', h1, h2, _⟩ := hR.cells_ hl hb
      refine ⟨.agg ⟨l'⟩, ?_, VR.agg_ h2⟩
      refine opR_ends C.P ⟨d, .load t x, ty, pos, after, g⟩ σ w _ _ ?_
      show loadR C.P (ev σ x) (shapeOf C.P t) w = _
      rw [hσ, size_ok hC hs]
      show manyR (readCells w _ 0 n) w = _
      rw [h1]; rfl
    · cases h
  · cases h
theorem y_fieldAddr {t : TypeId} {x : Operand} {f : Nat} {fs : Array Field} {fd : Field} {i : TypeInfo} {v : Value} (hu : C.P.underlying t = some (.struct fs)) (hf : fs[f]? = some fd) (hi : C.P.info? fd.type = some i) (h0 : i.size ≠ 0) (h : iFieldAddr fd.offset (evA s x) = some v) (hx : VR e (evA s x) (ev σ x)) :
    Yie C e w σ ⟨d, .fieldAddr t x f, ty, pos, after, g⟩ v := by
  unfold iFieldAddr at h
  split at h
  · rename_i b off hv
    rw [hv] at hx
    obtain ⟨xb, hb, hσ⟩ := hx.ptr_inv
    simp only [Option.some.injEq] at h
    subst h
    refine ⟨_, r_fieldAddr hu hf hi h0 hσ, ?_⟩
    have := VR.ptr (o := Nat.add off fd.offset) hb
    rw [show off + xb.shift + fd.offset = Nat.add off fd.offset + xb.shift by show _ = off + fd.offset + xb.shift; omega]
    exact this
  · cases h
theorem y_extract {x : Operand} {i : Nat} {v : Value} (h : iExtract (evA s x) i = some v) (hx : VR e (evA s x) (ev σ x)) : Yie C e w σ ⟨d, .extract x i, ty, pos, after, g⟩ v := by
  unfold iExtract at h
  split at h
  · rename_i l hv
    rw [hv] at hx
    obtain ⟨l', hσ, hl⟩ := hx.tuple_inv
    rw [lget_eq] at h
    obtain ⟨v', h1, h2⟩ := hl.get h
    exact ⟨v', r_extract hσ h1, h2⟩
  · cases h
theorem y_not {t : TypeId} {x : Operand} {v : Value} (h : iNot (evA s x) = some v) (hx : VR e (evA s x) (ev σ x)) : Yie C e w σ ⟨d, .unOp .not t x, ty, pos, after, g⟩ v := by
  unfold iNot at h
  split at h
  · rename_i b hv
    rw [hv] at hx
    simp only [Option.some.injEq] at h
    subst h
    exact ⟨_, r_not hx.bool_inv, .bool _⟩
  · cases h
theorem y_idxS {t : TypeId} {x i : Operand} {el : TypeId} {inf : TypeInfo} {v : Value} (ht : C.P.underlying t = some (.slice el)) (hi : C.P.info? el = some inf) (h : iIdx inf.size (evA s x) (evA s i) = some v) (hx : VR e (evA s x) (ev σ x)) (hy : VR e (evA s i) (ev σ i)) : Yie C e w σ ⟨d, .indexAddr t x i, ty, pos, after, g⟩ v := by
  unfold iIdx at h
  split at h
  · rename_i b off n c k j hv hj
    rw [hv] at hx
    rw [hj] at hy
    cases hb : Nat.blt j n with
    | false => rw [hb] at h; cases h
    | true =>
      rw [hb] at h
      simp only [cond_true, Option.some.injEq] at h
      subst h
      have hlt : j < n := Nat.le_of_ble_eq_true hb
      generalize hσ : ev σ x = xv at hx
      cases hx with
      | sl hb2 =>
        rename_i xb
        refine ⟨_, r_idxS ht hi hσ hy.int_inv hlt, ?_⟩
        have := VR.ptr (o := Nat.add off (Nat.mul j inf.size)) hb2
        rw [show off + xb.shift + j * inf.size = Nat.add off (Nat.mul j inf.size) + xb.shift by show _ = off + j * inf.size + xb.shift; omega]
        exact this
  · cases h
theorem y_idxP {t : TypeId} {x i : Operand} {m el : Nat} {inf : TypeInfo} {v : Value} (ht : C.P.underlying t = some (.array m el)) (hi : C.P.info? el = some inf) (h : iIdxP m inf.size (evA s x) (evA s i) = some v) (hx : VR e (evA s x) (ev σ x)) (hy : VR e (evA s i) (ev σ i)) : Yie C e w σ ⟨d, .indexAddr t x i, ty, pos, after, g⟩ v := by
  unfold iIdxP at h
  split at h
  · rename_i b off k j hv hj
    rw [hv] at hx
    rw [hj] at hy
    cases hb : Nat.blt j m with
    | false => rw [hb] at h; cases h
    | true =>
      rw [hb] at h
      simp only [cond_true, Option.some.injEq] at h
      subst h
      have hlt : j < m := Nat.le_of_ble_eq_true hb
      obtain ⟨xb, hb2, hσ⟩ := hx.ptr_inv
      refine ⟨_, r_idxP ht hi hσ hy.int_inv hlt, ?_⟩
      have := VR.ptr (o := Nat.add off (Nat.mul j inf.size)) hb2
      rw [show off + xb.shift + j * inf.size = Nat.add off (Nat.mul j inf.size) + xb.shift by show _ = off + j * inf.size + xb.shift; omega]
      exact this
  · cases h
theorem y_field {t : TypeId} {x : Operand} {f : Nat} {fs : Array Field} {fd : Field} {v : Value} (ht : C.P.underlying t = some (.struct fs)) (hf : fs[f]? = some fd) (hs : shapeOf C.P fd.type = some none) (h : iField fd.offset (evA s x) = some v) (hx : VR e (evA s x) (ev σ x)) : Yie C e w σ ⟨d, .field t x f, ty, pos, after, g⟩ v := by
  unfold iField at h
  split at h
  · rename_i l hv
    rw [hv] at hx
    obtain ⟨l', hσ, hl⟩ := hx.agg_inv
    rw [lget_eq] at h
    obtain ⟨v', h1, h2⟩ := hl.get h
    exact ⟨v', r_field1 ht hf hs hσ h1, h2⟩
  · cases h
theorem y_fields {t : TypeId} {x : Operand} {f n : Nat} {fs : Array Field} {fd : Field} {v : Value} (ht : C.P.underlying t = some (.struct fs)) (hf : fs[f]? = some fd) (hs : shapeOf C.P fd.type = some (some n)) (h : iFields fd.offset n (evA s x) = some v) (hx : VR e (evA s x) (ev σ x)) : Yie C e w σ ⟨d, .field t x f, ty, pos, after, g⟩ v := by
  unfold iFields at h
  split at h
  · rename_i l hv
    rw [hv] at hx
    obtain ⟨l', hσ, hl⟩ := hx.agg_inv
    cases hb : Nat.ble (fd.offset + n) (llen l) with
    | false => rw [hb] at h; cases h
    | true =>
      rw [hb] at h
      simp only [cond_true, Option.some.injEq, ltake_eq, ldrop_eq] at h
      subst h
      exact ⟨_, r_fieldN ht hf hs hσ, VR.agg_ ((hl.drop _).take _)⟩
  · cases h
theorem y_iface {t : TypeId} {x : Operand} {u : TypeDesc} (ht : C.P.underlying t = some u) (hn : ∀ ms, u ≠ .interface ms) (hx : VR e (evA s x) (ev σ x)) : Yie C e w σ ⟨d, .makeInterface t x, ty, pos, after, g⟩ (.iface t (evA s x)) := ⟨_, r_iface ht hn, .iface t hx⟩
theorem y_func {f : FuncId} {a b : List Operand} (ha : ∀ x ∈ a, VR e (evA s x) (ev σ x)) (hb : ∀ x ∈ b, VR e (evA s x) (ev σ x)) : Yie C e w σ ⟨d, .makeFunc (.func f) ⟨a⟩ ⟨b⟩, ty, pos, after, g⟩ (.func (.func f) ⟨lmap (evA s) a⟩ ⟨lmap (evA s) b⟩) := by
  refine ⟨_, r_func, ?_⟩
  rw [lmap_eq, lmap_eq]
  have h1 : LR e (a.map (evA s)) (a.map (ev σ)) := LR.map_mem a ha
  have h2 : LR e (b.map (evA s)) (b.map (ev σ)) := LR.map_mem b hb
  exact .func f h1.1 h1.2 h2.1 h2.2
theorem y_conv {src dst : TypeId} {x : Operand} {k k' : IntKind} {n : Int} {u : TypeDesc} (hs : C.P.underlying src = some u) (hd : C.P.underlying dst = some (.int k)) (hv : evA s x = .int k' n) (hx : VR e (evA s x) (ev σ x)) : Yie C e w σ ⟨d, .convert src dst x, ty, pos, after, g⟩ (.int k (wrapA k n)) := by
  rw [hv] at hx
  exact ⟨_, r_conv hs hd hx.int_inv, by rw [wrapA_eq]; exact .int _ _⟩
theorem y_bin {op : BinOp} {t u : TypeId} {x y : Operand} {k : IntKind} {a b : Int} {v : Value} (h : ibin op k a b = some v) (hv : evA s x = .int k a) (hw : evA s y = .int k b) (hx : VR e (evA s x) (ev σ x)) (hy : VR e (evA s y) (ev σ y)) : Yie C e w σ ⟨d, .binOp op t x y u, ty, pos, after, g⟩ v := by
  rw [hv] at hx
  rw [hw] at hy
  refine ⟨v, ibin_ok hx.int_inv hy.int_inv h _ _ _ _ _, ?_⟩
  have hn : ∀ f : Nat → Nat → Option Value, (∀ m n, f m n = some v → VR e v v) → n2 a b f = some v → VR e v v := by
    intro f hf h2
    cases a <;> cases b <;> simp only [n2] at h2
    · exact hf _ _ h2
    all_goals cases h2
  have hi : ∀ k m, (some (Value.int k m) : Option Value) = some v → VR e v v := fun k m h => by cases h; exact .int _ _
  have hb : ∀ m, (some (Value.bool m) : Option Value) = some v → VR e v v := fun m h => by cases h; exact .bool _
  have hc : ∀ (c : Bool) (p q : Option Value), (p = some v → VR e v v) → (q = some v → VR e v v) → cond c p q = some v → VR e v v := fun c p q h1 h2 h => by cases c; exact h2 h; exact h1 h
  cases op <;> simp only [ibin] at h <;> first
    | exact hi _ _ h
    | exact hb _ h
    | exact hn _ (fun m n h => hi _ _ h) h
    | exact hn _ (fun m n h => hc _ _ _ (hi _ _) (fun h => by cases h) h) h
    | exact hn _ (fun m n h => hc _ _ _ (fun h => by cases h) (hi _ _) h) h
    | cases h
end
end Go.Proofs.YtmcbcoafodmbjaaGreatDoor.Ex
namespace Go.Proofs.YtmcbcoafodmbjaaGreatDoor.Ex
open Go Go.RowKit
set_option linter.unusedVariables false
set_option linter.unusedSimpArgs false
section
variable {C : Ctx} {B : Nat} {w0 : World} {e : Env} {st : St} {w : World} {s : Sl} {σ : Slots} {d : Option Tmp} {ty : TypeId} {pos : String} {after : Array Edge} {g : Option (Nat × Bool)}
theorem kindOf_ok {b : Nat} {k : Knd} (h : st.kindOf b = some k) : ∃ l t, st.heap.get b = some (.cells l t k) := by
  unfold St.kindOf at h
  split at h
  · rename_i l t k2 hg; simp only [Option.some.injEq] at h; subst h; exact ⟨l, t, hg⟩
  · cases h
theorem exact_room (hR : Rel C B w0 e st w) {b : Nat} {x : Bind} (h : st.kindOf b = some .exact) (he : e b = some x) : x.room = 0 := by
  obtain ⟨l, t, hg⟩ := kindOf_ok h
  obtain ⟨_, _, _, _, _, h3, _⟩ := hR.at_ hg he
  exact h3 rfl
theorem y_nil {x : Operand} {a : Addr} (hv : evA s x = .pointer (some a)) (hx : VR e (evA s x) (ev σ x)) : Yie C e w σ ⟨d, .nilCheck x, ty, pos, after, g⟩ (.pointer (some a)) := by
  rw [hv] at hx
  generalize hσ : ev σ x = xv at hx
  cases hx with
  | ptr hb => exact ⟨_, r_nil hσ, .ptr hb⟩
theorem y_len {t el : TypeId} {x : Operand} {v : Value} (ht : C.P.underlying t = some (.slice el)) (h : iLen (evA s x) = some v) (hx : VR e (evA s x) (ev σ x)) : Yie C e w σ ⟨d, .call ⟨.builtin .len, ⟨[x]⟩, ⟨[t]⟩⟩, ty, pos, after, g⟩ v := by
  unfold iLen at h
  split at h
  · rename_i a n c hv
    rw [hv] at hx
    simp only [Option.some.injEq] at h
    subst h
    generalize hσ : ev σ x = xv at hx
    generalize hu : (Value.slice a n c) = u at hx
    cases hx <;> cases hu
    all_goals exact ⟨_, r_len ht hσ, .int _ _⟩
  · cases h
theorem y_cap (hR : Rel C B w0 e st w) {t el : TypeId} {x : Operand} {v : Value} (ht : C.P.underlying t = some (.slice el)) (h : iCap st (evA s x) = some v) (hx : VR e (evA s x) (ev σ x)) : Yie C e w σ ⟨d, .call ⟨.builtin .cap, ⟨[x]⟩, ⟨[t]⟩⟩, ty, pos, after, g⟩ v := by
  unfold iCap at h
  split at h
  · rename_i n c hv
    rw [hv] at hx
    simp only [Option.some.injEq] at h
    subst h
    generalize hσ : ev σ x = xv at hx
    cases hx with
    | nils => exact ⟨_, r_cap ht hσ, .int _ _⟩
  · rename_i b off n c hv
    rw [hv] at hx
    split at h
    · rename_i hk
      simp only [Option.some.injEq] at h
      subst h
      generalize hσ : ev σ x = xv at hx
      cases hx with
      | sl hb =>
        have h0 := exact_room hR hk hb
        have := r_cap (d := d) (ty := ty) (pos := pos) (after := after) (g := g) (w := w) ht hσ
        rw [h0, Nat.add_zero] at this
        exact ⟨_, this, .int _ _⟩
    · cases h
  · cases h
theorem y_minmax {mx : Bool} {ts : Array TypeId} {x y : Operand} {k k' : IntKind} {a b : Int} (hk : ikeq k k' = true) (hv : evA s x = .int k a) (hw : evA s y = .int k' b) (hx : VR e (evA s x) (ev σ x)) (hy : VR e (evA s y) (ev σ y)) :
    Yie C e w σ ⟨d, .call ⟨.builtin (cond mx .max .min), ⟨[x, y]⟩, ts⟩, ty, pos, after, g⟩ (.int k (cond mx (cond (ilt a b) b a) (cond (ilt b a) b a))) := by
  rw [hv] at hx
  rw [hw, ← ikeq_eq hk] at hy
  exact ⟨_, r_minmax hx.int_inv hy.int_inv, .int _ _⟩
theorem y_arrP {t : TypeId} {m el : Nat} {x : Operand} {v : Value} (ht : C.P.underlying t = some (.array m el)) (h : iArrP m (evA s x) = some v) (hx : VR e (evA s x) (ev σ x)) : Yie C e w σ ⟨d, .sliceToArrayPointer t x, ty, pos, after, g⟩ v := by
  unfold iArrP at h
  split at h
  · rename_i b off n c hv
    rw [hv] at hx
    cases hb : Nat.ble m n with
    | false => rw [hb] at h; cases h
    | true =>
      rw [hb] at h
      simp only [cond_true, Option.some.injEq] at h
      subst h
      generalize hσ : ev σ x = xv at hx
      cases hx with
      | sl hb2 => exact ⟨_, r_arrP ht hσ (Nat.le_of_ble_eq_true hb), .ptr hb2⟩
  · cases h
theorem y_assert {t t2 : TypeId} {x : Operand} {ok : Bool} {u : TypeDesc} {z v : Value} {i : TypeInfo} (ht : C.P.underlying t = some u) (hn : ∀ ms, u ≠ .interface ms) (hi : C.P.info? t = some i) (hz : i.zero = some z) (hnz : nf z = true)
    {t3 : TypeId} {v3 : Value} (hv : evA s x = .iface t3 v3) (h : cond (Nat.beq t3 t) (some (cond ok (.tuple ⟨[v3, .bool true]⟩) v3)) (cond ok (some (.tuple ⟨[z, .bool false]⟩)) none) = some v) (hx : VR e (evA s x) (ev σ x)) : Yie C e w σ ⟨d, .typeAssert x t2 t ok, ty, pos, after, g⟩ v := by
  rw [hv] at hx
  generalize hσ : ev σ x = xv at hx
  cases hx with
  | iface _ hx' =>
    cases hb : Nat.beq t3 t with
    | true =>
      rw [hb] at h
      simp only [cond_true, Option.some.injEq] at h
      subst h
      have := Nat.eq_of_beq_eq_true hb
      subst this
      refine ⟨_, r_assertY ht hn hσ, ?_⟩
      cases ok
      · exact hx'
      · exact VR.tuple_ (LR.cons hx' (LR.cons (.bool _) LR.nil))
    | false =>
      rw [hb] at h
      cases ok with
      | false => cases h
      | true =>
        simp only [cond_false, cond_true, Option.some.injEq] at h
        subst h
        refine ⟨_, r_assertN ht hn hi hz hσ (fun e1 => by subst e1; rw [Nat.beq_refl] at hb; cases hb), VR.tuple_ (LR.cons (nf_self hnz) (LR.cons (.bool _) LR.nil))⟩
theorem bytesEq_eq : ∀ (l m : List UInt8), bytesEq l m = (l == m)
  | [], [] => rfl
  | [], y :: m => rfl
  | x :: l, [] => rfl
  | x :: l, y :: m => by
    show cond (Nat.beq x.toNat y.toNat) (bytesEq l m) false = _
    rw [bytesEq_eq l m]
    cases h : Nat.beq x.toNat y.toNat with
    | true =>
      have : x = y := UInt8.toNat_inj.1 (Nat.eq_of_beq_eq_true h)
      subst this
      simp
    | false =>
      have : x ≠ y := fun e1 => by subst e1; rw [Nat.beq_refl] at h; cases h
      simp [this]
theorem toList_data (a : ByteArray) : a.toList = a.data.toList := ByteArray.toList_eq a
end
end Go.Proofs.YtmcbcoafodmbjaaGreatDoor.Ex
namespace Go.Proofs.YtmcbcoafodmbjaaGreatDoor.Ex
open Go Go.RowKit
set_option linter.unusedVariables false
set_option linter.unusedSimpArgs false
section
variable {C : Ctx} {B : Nat} {w0 : World} {e : Env} {st : St} {w : World} {s : Sl} {σ : Slots} {d : Option Tmp} {ty : TypeId} {pos : String} {after : Array Edge} {g : Option (Nat × Bool)}
theorem binOp_eq {v v' : Value} (t : TypeId) (h1 : ∀ k n, v ≠ .int k n) (h2 : ∀ s, v ≠ .string s) (h3 : ∀ k n, v ≠ .float k n) (h4 : ∀ k n m, v ≠ .complex k n m) (o : BinOp) :
    binOp o t v v' = (match o with | .eql => do pure (.bool (← Op.equal t v v')) | .neq => do pure (.bool (!(← Op.equal t v v'))) | o => binOp o t v v') := by
  cases o <;> first | rfl | skip
  all_goals (cases v <;> first | rfl | (exact absurd rfl (h1 _ _)) | (exact absurd rfl (h2 _)) | (exact absurd rfl (h3 _ _)) | (exact absurd rfl (h4 _ _ _)))
theorem y_eq {op : BinOp} {neg : Bool} {t u : TypeId} {x y : Operand} {td : TypeDesc} {v : Value} (hop : op = cond neg .neq .eql) (ht : C.P.underlying t = some td) (htd : (∃ el, td = .pointer el) ∨ (∃ el, td = .slice el) ∨ td = .string) (h : iEq neg td (evA s x) (evA s y) = some v) (hx : VR e (evA s x) (ev σ x)) (hy : VR e (evA s y) (ev σ y)) :
    Yie C e w σ ⟨d, .binOp op t x y u, ty, pos, after, g⟩ v := by
  unfold iEq at h
  cases hb : eqA td (evA s x) (evA s y) with
  | none => rw [hb] at h; cases h
  | some b =>
    rw [hb] at h
    simp only [Option.some.injEq] at h
    subst h
    by_cases hs : td = .string
    · subst hs
      unfold eqA at hb
      split at hb
      · rename_i a c he1 hv hw
        rw [hv] at hx
        rw [hw] at hy
        simp only [Option.some.injEq] at hb
        subst hb
        subst hop
        refine ⟨_, r_streq hx.str_inv hy.str_inv, ?_⟩
        rw [bytesEq_eq, ← toList_data, ← toList_data]
        exact .bool _
      all_goals first | (cases hb; done) | (rename_i he1 _ _; cases he1)
    · -- pointers and slices held against nil: the frame's values are alike
      have key : ∃ v1 v2, ev σ x = v1 ∧ ev σ y = v2 ∧ eqA td v1 v2 = some b ∧ (∀ k n, v1 ≠ .int k n) ∧ (∀ s, v1 ≠ .string s) ∧ (∀ k n, v1 ≠ .float k n) ∧ (∀ k n m, v1 ≠ .complex k n m) ∧ ((v1 = .nilIface ∧ v2 = .nilIface) → False) ∧ (∀ l m, v1 = .agg l → v2 = .agg m → False) := by
        generalize evA s x = va at hb hx
        generalize evA s y = vb at hb hy
        generalize ev σ x = v1 at hx
        generalize ev σ y = v2 at hy
        refine ⟨v1, v2, rfl, rfl, ?_⟩
        unfold eqA at hb
        split at hb
        · exact absurd rfl hs
        all_goals first
          | (cases hb; done)
          | (cases hx <;> cases hy <;> exact ⟨hb, fun _ _ h => (by cases h), fun _ h => (by cases h), fun _ _ h => (by cases h), fun _ _ _ h => (by cases h), fun h => (by cases h.1), fun _ _ h => (by cases h)⟩)
      obtain ⟨v1, v2, e1, e2, hk, n1, n2, n3, n4, n5, n6⟩ := key
      refine ⟨.bool (cond neg (!b) b), ?_, .bool _⟩
      refine r_eq hop ?_ ?_ ?_
      · rw [e1, e2]; exact g_other n5 n6
      · rw [e1, e2]; exact eq_one ht hk hs
      · intro o; rw [e1, e2]; exact binOp_eq t n1 n2 n3 n4 o
theorem y_build (hC : C.OK) (hG : ∀ g, C.gl g = true → e g = some ⟨g, 0, 0⟩) {t : TypeId} {parts : List (Nat × Operand)} {fs : Array Field} {i : TypeInfo} {z : Value} {ps : List (Nat × Nat × Operand)} {v : Value}
    (ht : C.P.underlying t = some (.struct fs)) (hi : C.P.info? t = some i) (hz : i.zero = some z) (hp : partsA C fs.toList parts = some ps) (hnz : lall nf z.cells.toList = true) (hall : lall (fun f => match C.info f.type with | some _ => true | none => false) fs.toList = true)
    (hok : ∀ p ∈ parts, VR e (evA s p.2) (ev σ p.2)) (h : iBuild s z.cells.toList ps = some v) : Yie C e w σ ⟨d, .build t ⟨parts⟩, ty, pos, after, g⟩ v := by
  unfold iBuild at h
  cases hb : buildA s z.cells.toList ps with
  | none => rw [hb] at h; cases h
  | some c =>
    rw [hb] at h
    simp only [Option.some.injEq] at h
    subst h
    obtain ⟨pl, hpl, hat⟩ := mapM_places hC fs.toList hall
    obtain ⟨c', hc', hr⟩ := fill_ok (place := (pl.toArray[·]?)) fs.toList (fun j fd inf h1 h2 => by simpa using hat j fd inf h1 h2) parts ps _ _ c hp hok (lall_nf hnz) hb
    have hbuilt : C.P.built t (parts.map fun p => (p.1, ev σ p.2)) = some ⟨c'⟩ := by
      unfold Program.built
      rw [hi, ht]
      simp only [hz, hpl]
      have : (⟨z.cells.toList⟩ : Array Value) = z.cells := rfl
      rw [this] at hc'
      exact hc'
    refine ⟨.agg ⟨c'⟩, ?_, VR.agg_ hr⟩
    have e1 : (Array.map (fun (p : Nat × Operand) => (p.1, ev σ p.2)) ⟨parts⟩) = ⟨parts.map fun p => (p.1, ev σ p.2)⟩ := by apply Array.ext'; simp
    have := run_build (P := C.P) w t ⟨parts.map fun p => (p.1, ev σ p.2)⟩ ⟨c'⟩ hbuilt
    show ((do pure (.value (← Instr.build t (Array.map (fun (p : Nat × Operand) => (p.1, ev σ p.2)) ⟨parts⟩))) : Sem Next).run C.P w) = _
    rw [e1]
    simp only [Sem.run_bind, this, Result.andThen, Sem.run_pure]
theorem y_slice (hR : Rel C B w0 e st w) {t el : TypeId} {x : Operand} {lo hi : Option Operand} {inf : TypeInfo} {v : Value} (ht : C.P.underlying t = some (.slice el)) (hi' : C.P.info? el = some inf) (h : iSlice s st inf.size (evA s x) lo hi = some v) (hx : VR e (evA s x) (ev σ x))
    (hlo : ∀ y, lo = some y → VR e (evA s y) (ev σ y)) (hhi : ∀ y, hi = some y → VR e (evA s y) (ev σ y)) : Yie C e w σ ⟨d, .slice t x lo hi none, ty, pos, after, g⟩ v := by
  unfold iSlice at h
  split at h
  · rename_i b off m c hv
    rw [hv] at hx
    split at h
    · rename_i l h' k hl hh hk
      cases hb : (Nat.ble l h' && Nat.ble h' c) with
      | false => rw [hb] at h; cases h
      | true =>
        rw [hb] at h
        simp only [cond_true, Option.some.injEq] at h
        simp only [Bool.and_eq_true] at hb
        have h1 := Nat.le_of_ble_eq_true hb.1
        have h2 := Nat.le_of_ble_eq_true hb.2
        generalize hσ : ev σ x = xv at hx
        cases hx with
        | sl hbd =>
          rename_i xb
          have hrun := r_slice (d := d) (ty := ty) (pos := pos) (after := after) (g := g) (w := w) ht hi' hσ (numA_ok hl hlo) (numA_ok hh hhi) h1 (Nat.le_trans h2 (Nat.le_add_right c xb.room))
          refine ⟨_, hrun, ?_⟩
          cases hc : Nat.beq c l with
          | true =>
            rw [hc] at h
            have hcl := Nat.eq_of_beq_eq_true hc
            subst hcl
            have hhl : h' - c = 0 := by omega
            rw [hhl]
            cases hg : k.isGrown with
            | true =>
              rw [hg] at h
              simp only [cond_true] at h
              subst h
              rw [show c + xb.room - c = xb.room by omega]
              by_cases hr0 : c + xb.room = c
              · rw [if_pos hr0]
                have : xb.room = 0 := by omega
                exact .sl2 hbd (fun hpos => by omega)
              · rw [if_neg hr0]
                simp only [Option.map_some, add_at]
                refine .sl2 hbd (fun _ => ?_)
                show off + xb.shift + c * inf.size = Nat.add off (Nat.mul c inf.size) + xb.shift
                show _ = off + c * inf.size + xb.shift
                omega
            | false =>
              rw [hg] at h
              simp only [cond_true, cond_false] at h
              subst h
              obtain ⟨_, _, hkg⟩ := kindOf_ok hk
              obtain ⟨_, _, _, _, _, h0, _⟩ := hR.at_ hkg hbd
              have hr0 := h0 hg
              rw [if_pos (by omega), show c + xb.room - c = 0 by omega]
              have := VR.sl (o := off) (n := 0) (c := 0) hbd
              rw [hr0] at this
              exact this
          | false =>
            rw [hc] at h
            simp only [cond_false] at h
            subst h
            have hcl : c ≠ l := fun e1 => by subst e1; rw [Nat.beq_refl] at hc; cases hc
            rw [if_neg (by omega)]
            simp only [Option.map_some, add_at]
            have := VR.sl (o := Nat.add off (Nat.mul l inf.size)) (n := Nat.sub h' l) (c := Nat.sub c l) hbd
            rw [show off + xb.shift + l * inf.size = Nat.add off (Nat.mul l inf.size) + xb.shift by show _ = off + l * inf.size + xb.shift; omega, show c + xb.room - l = Nat.sub c l + xb.room by show _ = c - l + xb.room; omega]
            exact this
    · cases h
  · rename_i hv
    rw [hv] at hx
    split at h
    · rename_i hl hh
      simp only [Option.some.injEq] at h
      subst h
      generalize hσ : ev σ x = xv at hx
      cases hx with
      | nils =>
        have hrun := r_slice (d := d) (ty := ty) (pos := pos) (after := after) (g := g) (w := w) ht hi' hσ (numA_ok hl hlo) (numA_ok hh hhi) (Nat.le_refl 0) (Nat.le_refl 0)
        exact ⟨_, hrun, .nils _ _⟩
    · cases h
  · cases h
end
end Go.Proofs.YtmcbcoafodmbjaaGreatDoor.Ex
namespace Go.Proofs.YtmcbcoafodmbjaaGreatDoor.Ex
open Go Go.RowKit
set_option linter.unusedVariables false
set_option linter.unusedSimpArgs false
section
variable {C : Ctx} {B : Nat} {w0 : World} {e : Env} {st : St} {w : World} {s : Sl} {σ : Slots} {d : Option Tmp} {ty : TypeId} {pos : String} {after : Array Edge} {g : Option (Nat × Bool)}
theorem num_some {n dflt : Nat} {x : Operand} (h : numA s dflt (some x) = some n) (hx : VR e (evA s x) (ev σ x)) : ∃ k, ev σ x = .int k (Int.ofNat n) := by
  rcases numA_ok h (fun y hy => by cases hy; exact hx) with ⟨h1, _⟩ | ⟨y, k, h1, h2⟩
  · cases h1
  · cases h1; exact ⟨k, h2⟩
theorem y_slice3 (hR : Rel C B w0 e st w) {t el : TypeId} {x hi mx : Operand} {lo : Option Operand} {inf : TypeInfo} {v : Value} (ht : C.P.underlying t = some (.slice el)) (hi' : C.P.info? el = some inf) (h : iSlice3 s st inf.size (evA s x) lo hi mx = some v) (hx : VR e (evA s x) (ev σ x))
    (hlo : ∀ y, lo = some y → VR e (evA s y) (ev σ y)) (hhi : VR e (evA s hi) (ev σ hi)) (hmx : VR e (evA s mx) (ev σ mx)) : Yie C e w σ ⟨d, .slice t x lo (some hi) (some mx), ty, pos, after, g⟩ v := by
  unfold iSlice3 at h
  split at h
  · rename_i b off m c hv
    rw [hv] at hx
    split at h
    · rename_i l h' k kd hl hh hm hk
      cases hb : (Nat.ble l h' && Nat.ble h' k && Nat.ble k c) with
      | false => rw [hb] at h; cases h
      | true =>
        rw [hb] at h
        simp only [cond_true, Option.some.injEq] at h
        simp only [Bool.and_eq_true] at hb
        have h1 := Nat.le_of_ble_eq_true hb.1.1
        have h2 := Nat.le_of_ble_eq_true hb.1.2
        have h3 := Nat.le_of_ble_eq_true hb.2
        obtain ⟨k1, hh'⟩ := num_some hh hhi
        obtain ⟨k2, hm'⟩ := num_some hm hmx
        generalize hσ : ev σ x = xv at hx
        cases hx with
        | sl hbd =>
          rename_i xb
          have hrun := r_slice3 (d := d) (ty := ty) (pos := pos) (after := after) (g := g) (w := w) ht hi' hσ (numA_ok hl hlo) hh' hm' h1 h2 (Nat.le_trans h3 (Nat.le_add_right c xb.room))
          refine ⟨_, hrun, ?_⟩
          subst h
          have hroom : kd.isGrown = false → xb.room = 0 := by
            intro hg
            obtain ⟨_, _, hkg⟩ := kindOf_ok hk
            obtain ⟨_, _, _, _, _, h0, _⟩ := hR.at_ hkg hbd
            exact h0 hg
          have hoff : ∀ o1 : Nat, (some ⟨xb.blk, o1 + xb.shift, none⟩ : Option Addr) = some ⟨xb.blk, o1 + xb.shift, none⟩ := fun _ => rfl
          have hadr : (if k = l then (some ⟨xb.blk, off + xb.shift, none⟩ : Option Addr) else (some (⟨xb.blk, off + xb.shift, none⟩ : Addr)).map (·.add (l * inf.size))) = some ⟨xb.blk, cond (Nat.beq k l) off (Nat.add off (Nat.mul l inf.size)) + xb.shift, none⟩ := by
            cases hkl : Nat.beq k l with
            | true => rw [if_pos (Nat.eq_of_beq_eq_true hkl)]; rfl
            | false =>
              rw [if_neg (fun e1 => by subst e1; rw [Nat.beq_refl] at hkl; cases hkl)]
              simp only [Option.map_some, add_at, cond_false]
              rw [show off + xb.shift + l * inf.size = Nat.add off (Nat.mul l inf.size) + xb.shift by show _ = off + l * inf.size + xb.shift; omega]
          rw [hadr]
          cases hg : kd.isGrown with
          | true => exact .sl1 hbd
          | false =>
            have := VR.sl (o := cond (Nat.beq k l) off (Nat.add off (Nat.mul l inf.size))) (n := Nat.sub h' l) (c := Nat.sub k l) hbd
            rw [hroom hg] at this
            exact this
    · cases h
  · rename_i hv
    rw [hv] at hx
    split at h
    · rename_i hl hh hm
      simp only [Option.some.injEq] at h
      subst h
      obtain ⟨k1, hh'⟩ := num_some hh hhi
      obtain ⟨k2, hm'⟩ := num_some hm hmx
      generalize hσ : ev σ x = xv at hx
      cases hx with
      | nils =>
        have hrun := r_slice3 (d := d) (ty := ty) (pos := pos) (after := after) (g := g) (w := w) ht hi' hσ (numA_ok hl hlo) hh' hm' (Nat.le_refl 0) (Nat.le_refl 0) (Nat.le_refl 0)
        exact ⟨_, hrun, .nils _ _⟩
    · cases h
  · cases h
theorem y_slicP {t : TypeId} {m el : Nat} {x : Operand} {lo hi : Option Operand} {inf : TypeInfo} {v : Value} (hroom : ∀ b x, e b = some x → (∃ l t, st.heap.get b = some (.cells l t .exact)) → x.room = 0) (ht : C.P.underlying t = some (.array m el)) (hi' : C.P.info? el = some inf) (h : iSlicP s st m inf.size (evA s x) lo hi = some v) (hx : VR e (evA s x) (ev σ x))
    (hlo : ∀ y, lo = some y → VR e (evA s y) (ev σ y)) (hhi : ∀ y, hi = some y → VR e (evA s y) (ev σ y)) : Yie C e w σ ⟨d, .slice t x lo hi none, ty, pos, after, g⟩ v := by
  unfold iSlicP at h
  split at h
  · rename_i b off hv
    rw [hv] at hx
    split at h
    · rename_i l h' hl hh hk
      cases hb : (Nat.ble l h' && Nat.ble h' m) with
      | false => rw [hb] at h; cases h
      | true =>
        rw [hb] at h
        simp only [cond_true, Option.some.injEq] at h
        simp only [Bool.and_eq_true] at hb
        have h1 := Nat.le_of_ble_eq_true hb.1
        have h2 := Nat.le_of_ble_eq_true hb.2
        obtain ⟨xb, hbd, hσ⟩ := hx.ptr_inv
        have hrun := r_slicP (d := d) (ty := ty) (pos := pos) (after := after) (g := g) (w := w) ht hi' hσ (numA_ok hl hlo) (numA_ok hh hhi) h1 h2
        refine ⟨_, hrun, ?_⟩
        subst h
        have h0 := hroom b xb hbd (kindOf_ok hk)
        have hadr : (if m = l then (⟨xb.blk, off + xb.shift, none⟩ : Addr) else (⟨xb.blk, off + xb.shift, none⟩ : Addr).add (l * inf.size)) = ⟨xb.blk, cond (Nat.beq m l) off (Nat.add off (Nat.mul l inf.size)) + xb.shift, none⟩ := by
          cases hkl : Nat.beq m l with
          | true => rw [if_pos (Nat.eq_of_beq_eq_true hkl)]; rfl
          | false =>
            rw [if_neg (fun e1 => by subst e1; rw [Nat.beq_refl] at hkl; cases hkl)]
            simp only [add_at, cond_false]
            rw [show off + xb.shift + l * inf.size = Nat.add off (Nat.mul l inf.size) + xb.shift by show _ = off + l * inf.size + xb.shift; omega]
        rw [hadr]
        have := VR.sl (o := cond (Nat.beq m l) off (Nat.add off (Nat.mul l inf.size))) (n := Nat.sub h' l) (c := Nat.sub m l) hbd
        rw [h0] at this
        exact this
    · cases h
  · cases h
theorem y_mapLen (hR : Rel C B w0 e st w) {t k el : TypeId} {x : Operand} {v : Value} (ht : C.P.underlying t = some (.map k el)) (h : iMapLen st (evA s x) = some v) (hx : VR e (evA s x) (ev σ x)) : Yie C e w σ ⟨d, .call ⟨.builtin .len, ⟨[x]⟩, ⟨[t]⟩⟩, ty, pos, after, g⟩ v := by
  unfold iMapLen at h
  split at h
  · rename_i hv
    rw [hv] at hx
    simp only [Option.some.injEq] at h
    subst h
    generalize hσ : ev σ x = xv at hx
    cases hx with
    | nilm => exact ⟨_, r_mapLen0 ht hσ, .int _ _⟩
  · rename_i b hv
    rw [hv] at hx
    split at h
    · rename_i l c hm
      simp only [Option.some.injEq] at h
      subst h
      have hg : st.heap.get b = some (.obj (.map ⟨l⟩ c)) := by
        unfold St.map? at hm
        split at hm
        · rename_i l2 c2 hg; simp only [Option.some.injEq, Prod.mk.injEq] at hm; obtain ⟨rfl, rfl⟩ := hm; exact hg
        · cases hm
      generalize hσ : ev σ x = xv at hx
      cases hx with
      | map hb =>
        obtain ⟨o', ho, hor⟩ := hR.obj_ hg hb
        cases hor with
        | map _ hmr =>
          refine ⟨_, r_mapLen ht hσ ho, ?_⟩
          rw [llen_eq, hmr.1]
          exact .int _ _
    · cases h
  · cases h
theorem isNil_eq {k : NK} {v v' : Value} {b : Bool} (h : isNilA k v = some b) (hv : VR e v v') : isNilA k v' = some b := by
  cases k with
  | map => rcases isNilM_inv (v := v) h with ⟨rfl, rfl⟩ | ⟨m, rfl, rfl⟩ <;> cases hv <;> rfl
  | func => rcases isNilF_inv (v := v) h with ⟨rfl, rfl⟩ | ⟨i, m, r, rfl, rfl⟩ <;> cases hv <;> rfl
  | iface => rcases isNilI_inv (v := v) h with ⟨rfl, rfl⟩ | ⟨i, m, rfl, rfl⟩ <;> cases hv <;> rfl
theorem r_toStr {src dst el : TypeId} {x : Operand} (hs : C.P.underlying src = some (.slice el)) (he : C.P.underlying el = some (.int .u8)) (hd : C.P.underlying dst = some .string) {v : Value} {r : ByteArray} (hx : ev σ x = v) (hr : (Conv.bytesToString v).run C.P w = .ok (.string r) w) (hnil : ∀ s, v ≠ .string s) (hnint : ∀ k n, v ≠ .int k n) :
    (execOp (ev σ) ⟨d, .convert src dst x, ty, pos, after, g⟩).run C.P w = .ok (.value (.string r)) w := by
  simp only [execOp, hx, convert, Sem.run_bind, r_und hs, r_und hd, Result.andThen]
  cases v <;> first
    | (exact absurd rfl (hnil _)) | (exact absurd rfl (hnint _ _))
    | (simp only [Sem.run_bind, r_und he, Result.andThen, hr, Sem.run_pure])
end
end Go.Proofs.YtmcbcoafodmbjaaGreatDoor.Ex
