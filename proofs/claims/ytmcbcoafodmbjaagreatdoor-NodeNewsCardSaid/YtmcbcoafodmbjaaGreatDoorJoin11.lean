/-
  Texts joined: ExQ.
-/
import Derived.Test.YtmcbcoafodmbjaaGreatDoorJoin10
namespace Go.Proofs.YtmcbcoafodmbjaaGreatDoor.Ex
open Go Go.RowKit
set_option linter.unusedVariables false
set_option linter.unusedSimpArgs false
def Sti (C : Ctx) (e : Env) (w : World) (σ : Slots) (s : Sl) (st : St) (o : Oper) (i : Ins) : Prop := ∀ v, insCls i = .still → insS C s o st i = some v → Yie C e w σ o v
section
variable {C : Ctx} {B : Nat} {w0 : World} {e : Env} {st : St} {w : World} {s : Sl} {σ : Slots} {d : Option Tmp} {ty : TypeId} {pos : String} {after : Array Edge} {g : Option (Nat × Bool)}
theorem sti_other {o : Oper} (c : Cls) (hsel : ∀ cs b, o.op ≠ .select cs b) (hO : ∀ x ∈ o.op.operands.toList, VR e (evA s x) (ev σ x)) : Sti C e w σ s st o (.other c) := fun v _ h => astill_ok h hsel hO
theorem sti_loud {o : Oper} {i : Ins} (h : insCls i ≠ .still) : Sti C e w σ s st o i := fun v hc _ => absurd hc h
theorem sti_load (hC : C.OK) (hR : Rel C B w0 e st w) {t : TypeId} {x : Operand} (hx : VR e (evA s x) (ev σ x)) : Sti C e w σ s st ⟨d, .load t x, ty, pos, after, g⟩ (cLoad C t x) := by
  have hO : ∀ y ∈ (Op.load t x).operands.toList, VR e (evA s y) (ev σ y) := by intro y hy; simp [Op.operands] at hy; subst hy; exact hx
  unfold cLoad
  split
  · rename_i hs; exact fun v _ h => y_load hC hR hs h hx
  · rename_i n hs; exact fun v _ h => y_loads hC hR hs h hx
  · exact sti_other _ (by intro _ _ h; cases h) hO
theorem sti_fieldAddr (hC : C.OK) {t : TypeId} {x : Operand} {f : Nat} (hx : VR e (evA s x) (ev σ x)) : Sti C e w σ s st ⟨d, .fieldAddr t x f, ty, pos, after, g⟩ (cFieldAddr C t x f) := by
  have hO : ∀ y ∈ (Op.fieldAddr t x f).operands.toList, VR e (evA s y) (ev σ y) := by intro y hy; simp [Op.operands] at hy; subst hy; exact hx
  have oth : Sti C e w σ s st ⟨d, .fieldAddr t x f, ty, pos, after, g⟩ (.other .still) := sti_other _ (by intro _ _ h; cases h) hO
  unfold cFieldAddr
  split
  · rename_i fs hu
    split
    · rename_i fd hf
      split
      · rename_i i hi
        cases h0 : Nat.beq i.size 0
        · exact fun v _ h => y_fieldAddr (und_ok hC hu) (by rw [lget_eq] at hf; simpa using hf) (hC.tys _ _ hi) (fun h => by rw [h] at h0; cases h0) h hx
        · exact oth
      · exact oth
    · exact oth
  · exact oth
theorem sti_idx (hC : C.OK) {t : TypeId} {x i : Operand} (hx : VR e (evA s x) (ev σ x)) (hy : VR e (evA s i) (ev σ i)) : Sti C e w σ s st ⟨d, .indexAddr t x i, ty, pos, after, g⟩ (cIdx C t x i) := by
  have hO : ∀ y ∈ (Op.indexAddr t x i).operands.toList, VR e (evA s y) (ev σ y) := by intro y hm; simp [Op.operands] at hm; rcases hm with rfl | rfl <;> assumption
  have oth : Sti C e w σ s st ⟨d, .indexAddr t x i, ty, pos, after, g⟩ (.other .still) := sti_other _ (by intro _ _ h; cases h) hO
  unfold cIdx
  split
  · rename_i el hu
    split
    · rename_i inf hi; exact fun v _ h => y_idxS (und_ok hC hu) (hC.tys _ _ hi) h hx hy
    · exact oth
  · rename_i n el hu
    split
    · rename_i inf hi; exact fun v _ h => y_idxP (und_ok hC hu) (hC.tys _ _ hi) h hx hy
    · exact oth
  · exact oth
theorem sti_arr (hC : C.OK) {t : TypeId} {x : Operand} (hx : VR e (evA s x) (ev σ x)) : Sti C e w σ s st ⟨d, .sliceToArrayPointer t x, ty, pos, after, g⟩ (cArr C t x) := by
  have hO : ∀ y ∈ (Op.sliceToArrayPointer t x).operands.toList, VR e (evA s y) (ev σ y) := by intro y hm; simp [Op.operands] at hm; subst hm; assumption
  unfold cArr
  split
  · rename_i n el hu; exact fun v _ h => y_arrP (und_ok hC hu) h hx
  · exact sti_other _ (by intro _ _ h; cases h) hO
theorem sti_iface (hC : C.OK) {t : TypeId} {x : Operand} (hx : VR e (evA s x) (ev σ x)) : Sti C e w σ s st ⟨d, .makeInterface t x, ty, pos, after, g⟩ (cIface C t x) := by
  have hO : ∀ y ∈ (Op.makeInterface t x).operands.toList, VR e (evA s y) (ev σ y) := by intro y hm; simp [Op.operands] at hm; subst hm; assumption
  have oth : Sti C e w σ s st ⟨d, .makeInterface t x, ty, pos, after, g⟩ (.other .still) := sti_other _ (by intro _ _ h; cases h) hO
  unfold cIface
  split
  · exact oth
  · rename_i u hu hn
    intro v _ h
    have h' : some (Value.iface t (evA s x)) = some v := h
    cases h'
    exact y_iface (und_ok hC hn) (fun ms hm => hu ms hm) hx
  · exact oth
theorem sti_field (hC : C.OK) {t : TypeId} {x : Operand} {f : Nat} (hx : VR e (evA s x) (ev σ x)) : Sti C e w σ s st ⟨d, .field t x f, ty, pos, after, g⟩ (cField C t x f) := by
  have hO : ∀ y ∈ (Op.field t x f).operands.toList, VR e (evA s y) (ev σ y) := by intro y hm; simp [Op.operands] at hm; subst hm; assumption
  have oth : Sti C e w σ s st ⟨d, .field t x f, ty, pos, after, g⟩ (.other .still) := sti_other _ (by intro _ _ h; cases h) hO
  unfold cField
  split
  · rename_i fs hu
    split
    · rename_i fd hf
      have hf' : fs[f]? = some fd := by rw [lget_eq] at hf; simpa using hf
      split
      · rename_i hs; exact fun v _ h => y_field (und_ok hC hu) hf' (size_ok hC hs) h hx
      · rename_i n hs; exact fun v _ h => y_fields (und_ok hC hu) hf' (size_ok hC hs) h hx
      · exact oth
    · exact oth
  · exact oth
theorem sti_assert (hC : C.OK) {t t2 : TypeId} {x : Operand} {ok : Bool} (hx : VR e (evA s x) (ev σ x)) : Sti C e w σ s st ⟨d, .typeAssert x t2 t ok, ty, pos, after, g⟩ (cAssert C t ok x) := by
  have hO : ∀ y ∈ (Op.typeAssert x t2 t ok).operands.toList, VR e (evA s y) (ev σ y) := by intro y hm; simp [Op.operands] at hm; subst hm; assumption
  have oth : Sti C e w σ s st ⟨d, .typeAssert x t2 t ok, ty, pos, after, g⟩ (.other .still) := sti_other _ (by intro _ _ h; cases h) hO
  unfold cAssert
  split
  · exact oth
  · rename_i u a1 a2 a3 a4 a5 a6 a7 z a8 a9 hn hu hi
    cases hnz : nf z
    · exact oth
    · intro v _ h
      have h' : iAssert C s ⟨d, .typeAssert x t2 t ok, ty, pos, after, g⟩ st t ok z (evA s x) = some v := h
      unfold iAssert at h'
      split at h'
      · rename_i t3 v3 hv
        exact y_assert (und_ok hC hu) (fun ms hm => hn ms hm) (hC.tys _ _ hi) rfl hnz hv h' hx
      · exact astill_ok h' (by intro _ _ h; cases h) hO
  · exact oth
theorem sti_lookup (hC : C.OK) (hR : Rel C B w0 e st w) {t : TypeId} {m k : Operand} {ok : Bool} (hx : VR e (evA s m) (ev σ m)) (hy : VR e (evA s k) (ev σ k)) : Sti C e w σ s st ⟨d, .lookup t m k ok, ty, pos, after, g⟩ (cMap C t (fun kk z => .lookup kk ok z m k) .still) := by
  have hO : ∀ y ∈ (Op.lookup t m k ok).operands.toList, VR e (evA s y) (ev σ y) := by intro y hm; simp [Op.operands] at hm; rcases hm with rfl | rfl <;> assumption
  have oth : Sti C e w σ s st ⟨d, .lookup t m k ok, ty, pos, after, g⟩ (.other .still) := sti_other _ (by intro _ _ h; cases h) hO
  unfold cMap
  split
  · rename_i kt el hu
    split
    · rename_i kk a1 a2 a3 a4 a5 a6 a7 z a8 a9 hk hi
      cases hnz : nf z
      · exact oth
      · exact fun v _ h => y_lookup hR (und_ok hC hu) (keyK_ok hC hk) (hC.tys _ _ hi) rfl (nf_self hnz) h hx hy
    · exact oth
  · exact oth
theorem sti_func {f : Fn} {a b : Array Operand} (hO : ∀ y ∈ (Op.makeFunc f a b).operands.toList, VR e (evA s y) (ev σ y)) : Sti C e w σ s st ⟨d, .makeFunc f a b, ty, pos, after, g⟩ (cFunc f a b) := by
  unfold cFunc
  split
  · rename_i f a b
    intro v _ h
    have h' : some (Value.func (.func f) ⟨lmap (evA s) a⟩ ⟨lmap (evA s) b⟩) = some v := h
    cases h'
    exact y_func (fun x hx => hO x (by simp [Op.operands, hx])) (fun x hx => hO x (by simp [Op.operands, hx]))
  · exact sti_other _ (by intro _ _ h; cases h) hO
theorem sti_slice (hC : C.OK) (hR : Rel C B w0 e st w) {t : TypeId} {x : Operand} {lo hi mx : Option Operand} (hO : ∀ y ∈ (Op.slice t x lo hi mx).operands.toList, VR e (evA s y) (ev σ y)) : Sti C e w σ s st ⟨d, .slice t x lo hi mx, ty, pos, after, g⟩ (cSlice C t x lo hi mx) := by
  have oth : Sti C e w σ s st ⟨d, .slice t x lo hi mx, ty, pos, after, g⟩ (.other .still) := sti_other _ (by intro _ _ h; cases h) hO
  have hx : VR e (evA s x) (ev σ x) := hO x (by simp [Op.operands])
  have hlo : ∀ y, lo = some y → VR e (evA s y) (ev σ y) := fun y h => hO y (by simp [Op.operands, h])
  have hhi : ∀ y, hi = some y → VR e (evA s y) (ev σ y) := fun y h => hO y (by simp [Op.operands, h])
  have hmx : ∀ y, mx = some y → VR e (evA s y) (ev σ y) := fun y h => hO y (by simp [Op.operands, h])
  unfold cSlice
  split
  · rename_i el hu
    split
    · rename_i inf hi'; exact fun v _ h => y_slice hR (und_ok hC hu) (hC.tys _ _ hi') h hx hlo hhi
    · exact oth
  · rename_i n el hu
    split
    · rename_i inf hi'
      exact fun v _ h => y_slicP (fun b x hb hk => by obtain ⟨l, t, hk⟩ := hk; exact exact_room hR (by simp [St.kindOf, hk]) hb) (und_ok hC hu) (hC.tys _ _ hi') h hx hlo hhi
    · exact oth
  · rename_i mx' el hu
    split
    · rename_i inf hi2 hi'
      exact fun v _ h => y_slice3 hR (und_ok hC hu) (hC.tys _ _ hi') h hx hlo (hhi _ rfl) (hmx _ rfl)
    · exact oth
  · exact oth
theorem sti_conv (hC : C.OK) (hR : Rel C B w0 e st w) {src dst : TypeId} {x : Operand} (hx : VR e (evA s x) (ev σ x)) : Sti C e w σ s st ⟨d, .convert src dst x, ty, pos, after, g⟩ (cConv C src dst x) := by
  have hO : ∀ y ∈ (Op.convert src dst x).operands.toList, VR e (evA s y) (ev σ y) := by intro y hm; simp [Op.operands] at hm; subst hm; assumption
  have oth : ∀ c, Sti C e w σ s st ⟨d, .convert src dst x, ty, pos, after, g⟩ (.other c) := fun c => sti_other _ (by intro _ _ h; cases h) hO
  unfold cConv
  split
  · rename_i k hu
    split
    · rename_i u hs
      intro v _ h
      have h' : iConv C s ⟨d, .convert src dst x, ty, pos, after, g⟩ st k (evA s x) = some v := h
      unfold iConv at h'
      split at h'
      · rename_i k' n hv
        cases h'
        exact y_conv (und_ok hC hs) (und_ok hC hu) hv hx
      · exact astill_ok h' (by intro _ _ h; cases h) hO
    · exact oth _
  · split
    · split
      · exact sti_loud (by intro h; cases h)
      · exact oth _
    · exact oth _
  · rename_i hu
    split
    · rename_i el he
      split
      · rename_i hb
        exact fun v _ h => y_toStr hR (und_ok hC he) (und_ok hC hb) (und_ok hC hu) h hx
      · exact oth _
    · exact oth _
  · exact oth _
theorem sti_move {x : Operand} (hx : VR e (evA s x) (ev σ x)) : Sti C e w σ s st ⟨d, .move x, ty, pos, after, g⟩ (.move x) := by
  intro v _ h
  have h' : some (evA s x) = some v := h
  cases h'
  exact y_move hx
theorem sti_assign {x : Operand} (hx : VR e (evA s x) (ev σ x)) : Sti C e w σ s st ⟨d, .assign x, ty, pos, after, g⟩ (.move x) := by
  intro v _ h
  have h' : some (evA s x) = some v := h
  cases h'
  exact y_assign hx
theorem sti_nil {x : Operand} (hx : VR e (evA s x) (ev σ x)) : Sti C e w σ s st ⟨d, .nilCheck x, ty, pos, after, g⟩ (.nilCheck x) := by
  intro v _ h
  have h' : iNil C s ⟨d, .nilCheck x, ty, pos, after, g⟩ st (evA s x) = some v := h
  unfold iNil at h'
  split at h'
  · rename_i a hv
    cases h'
    exact y_nil hv hx
  · exact astill_ok h' (by intro _ _ h; cases h) (by intro y hm; simp [Op.operands] at hm; subst hm; assumption)
theorem sti_build (hC : C.OK) (hG : ∀ g, C.gl g = true → e g = some ⟨g, 0, 0⟩) {t : TypeId} {parts : Array (Nat × Operand)} (hO : ∀ y ∈ (Op.build t parts).operands.toList, VR e (evA s y) (ev σ y)) : Sti C e w σ s st ⟨d, .build t parts, ty, pos, after, g⟩ (cBuild C t parts) := by
  have oth : Sti C e w σ s st ⟨d, .build t parts, ty, pos, after, g⟩ (.other .still) := sti_other _ (by intro _ _ h; cases h) hO
  unfold cBuild
  split
  · rename_i a1 a2 a3 a4 a5 a6 a7 z a8 a9 fs hi hu
    split
    · rename_i ps hp
      cases hb : (lall nf z.cells.toList && lall (fun f => match C.info f.type with | some _ => true | none => false) fs.toList)
      · exact oth
      · simp only [Bool.and_eq_true] at hb
        obtain ⟨parts⟩ := parts
        exact fun v _ h => y_build hC hG (und_ok hC hu) (hC.tys _ _ hi) rfl hp hb.1 hb.2 (fun p hp => hO p.2 (by simp [Op.operands]; exact ⟨p.1, hp⟩)) h
    · exact oth
  · exact oth
theorem sti_bin (hC : C.OK) {op : BinOp} {t u : TypeId} {x y : Operand} (hx : VR e (evA s x) (ev σ x)) (hy : VR e (evA s y) (ev σ y)) : Sti C e w σ s st ⟨d, .binOp op t x y u, ty, pos, after, g⟩ (.bin op x y) := by
  intro v _ h
  have hO : ∀ z ∈ (Op.binOp op t x y u).operands.toList, VR e (evA s z) (ev σ z) := by intro z hm; simp [Op.operands] at hm; rcases hm with rfl | rfl <;> assumption
  have h' : iBin C s ⟨d, .binOp op t x y u, ty, pos, after, g⟩ st op (evA s x) (evA s y) = some v := h
  have as : astill C s ⟨d, .binOp op t x y u, ty, pos, after, g⟩ = some v → Yie C e w σ ⟨d, .binOp op t x y u, ty, pos, after, g⟩ v := fun h => astill_ok h (by intro _ _ h; cases h) hO
  unfold iBin at h'
  split at h'
  · rename_i k a k' b hv hw
    cases hk : ikeq k k' <;> rw [hk] at h'
    · exact as h'
    · simp only [cond_true] at h'
      split at h'
      · rename_i v2 hi
        cases h'
        rw [← ikeq_eq hk] at hw
        exact y_bin hi hv hw hx hy
      · exact as h'
  · exact as h'
theorem sti_cbin (hC : C.OK) {op : BinOp} {t u : TypeId} {x y : Operand} (hx : VR e (evA s x) (ev σ x)) (hy : VR e (evA s y) (ev σ y)) : Sti C e w σ s st ⟨d, .binOp op t x y u, ty, pos, after, g⟩ (cBin C op t x y) := by
  have bin := fun (op : BinOp) => sti_bin (C := C) (st := st) (w := w) (d := d) (ty := ty) (pos := pos) (after := after) (g := g) hC (op := op) (t := t) (u := u) hx hy
  unfold cBin
  split
  · rename_i el hu; exact fun v _ h => y_eq (neg := false) rfl (und_ok hC hu) (.inl ⟨_, rfl⟩) h hx hy
  · rename_i el hu; exact fun v _ h => y_eq (neg := true) rfl (und_ok hC hu) (.inl ⟨_, rfl⟩) h hx hy
  · rename_i el hu; exact fun v _ h => y_eq (neg := false) rfl (und_ok hC hu) (.inr (.inl ⟨_, rfl⟩)) h hx hy
  · rename_i el hu; exact fun v _ h => y_eq (neg := true) rfl (und_ok hC hu) (.inr (.inl ⟨_, rfl⟩)) h hx hy
  · rename_i hu; exact fun v _ h => y_eq (neg := false) rfl (und_ok hC hu) (.inr (.inr rfl)) h hx hy
  · rename_i hu; exact fun v _ h => y_eq (neg := true) rfl (und_ok hC hu) (.inr (.inr rfl)) h hx hy
  · rename_i hu; exact fun v _ h => y_nilEq (neg := false) rfl (und_ok hC hu) rfl h hx hy
  · rename_i hu; exact fun v _ h => y_nilEq (neg := false) rfl (und_ok hC hu) rfl h hx hy
  · rename_i hu; exact fun v _ h => y_nilEq (neg := false) rfl (und_ok hC hu) rfl h hx hy
  · rename_i hu; exact fun v _ h => y_nilEq (neg := true) rfl (und_ok hC hu) rfl h hx hy
  · rename_i hu; exact fun v _ h => y_nilEq (neg := true) rfl (und_ok hC hu) rfl h hx hy
  · rename_i hu; exact fun v _ h => y_nilEq (neg := true) rfl (und_ok hC hu) rfl h hx hy
  · rename_i fs hu
    unfold cEqF
    split
    · rename_i l hl; exact fun v _ h => y_eqF hC (neg := false) rfl ⟨.inr ⟨_, und_ok hC hu⟩, hC.fl _ _ hl⟩ h hx hy
    · exact bin _
  · rename_i n el hu
    unfold cEqF
    split
    · rename_i l hl; exact fun v _ h => y_eqF hC (neg := false) rfl ⟨.inl ⟨_, _, und_ok hC hu⟩, hC.fl _ _ hl⟩ h hx hy
    · exact bin _
  · rename_i fs hu
    unfold cEqF
    split
    · rename_i l hl; exact fun v _ h => y_eqF hC (neg := true) rfl ⟨.inr ⟨_, und_ok hC hu⟩, hC.fl _ _ hl⟩ h hx hy
    · exact bin _
  · rename_i n el hu
    unfold cEqF
    split
    · rename_i l hl; exact fun v _ h => y_eqF hC (neg := true) rfl ⟨.inl ⟨_, _, und_ok hC hu⟩, hC.fl _ _ hl⟩ h hx hy
    · exact bin _
  · exact bin _
theorem sti_pick {c x y : Operand} (hc : VR e (evA s c) (ev σ c)) (hx : VR e (evA s x) (ev σ x)) (hy : VR e (evA s y) (ev σ y)) : Sti C e w σ s st ⟨d, .pick c x y, ty, pos, after, g⟩ (.pick c x y) := fun v _ h => y_pick h hc hx hy
theorem sti_extract {x : Operand} {i : Nat} (hx : VR e (evA s x) (ev σ x)) : Sti C e w σ s st ⟨d, .extract x i, ty, pos, after, g⟩ (.extract x i) := fun v _ h => y_extract h hx
theorem sti_not {t : TypeId} {x : Operand} (hx : VR e (evA s x) (ev σ x)) : Sti C e w σ s st ⟨d, .unOp .not t x, ty, pos, after, g⟩ (.not x) := fun v _ h => y_not h hx
theorem sti_minmax {mx : Bool} {ts : Array TypeId} {x y : Operand} (hO : ∀ z ∈ (Op.call ⟨.builtin (cond mx .max .min), ⟨[x, y]⟩, ts⟩).operands.toList, VR e (evA s z) (ev σ z)) (hx : VR e (evA s x) (ev σ x)) (hy : VR e (evA s y) (ev σ y)) :
    Sti C e w σ s st ⟨d, .call ⟨.builtin (cond mx .max .min), ⟨[x, y]⟩, ts⟩, ty, pos, after, g⟩ (.minmax mx x y) := by
  intro v _ h
  have h' : iMinmax C s ⟨d, .call ⟨.builtin (cond mx .max .min), ⟨[x, y]⟩, ts⟩, ty, pos, after, g⟩ st mx (evA s x) (evA s y) = some v := h
  have as : astill C s ⟨d, .call ⟨.builtin (cond mx .max .min), ⟨[x, y]⟩, ts⟩, ty, pos, after, g⟩ = some v → Yie C e w σ ⟨d, .call ⟨.builtin (cond mx .max .min), ⟨[x, y]⟩, ts⟩, ty, pos, after, g⟩ v := fun h => astill_ok h (by intro _ _ h; cases h) hO
  unfold iMinmax at h'
  split at h'
  · rename_i k a k' b hv hw
    cases hk : ikeq k k' <;> rw [hk] at h'
    · cases h'
    · simp only [cond_true] at h'
      cases h'
      exact y_minmax hk hv hw hx hy
  · exact as h'
theorem sti_call (hC : C.OK) (hR : Rel C B w0 e st w) {c : Call} (hO : ∀ z ∈ (Op.call c).operands.toList, VR e (evA s z) (ev σ z)) : Sti C e w σ s st ⟨d, .call c, ty, pos, after, g⟩ (cCall C c) := by
  have oth : ∀ cl, Sti C e w σ s st ⟨d, .call c, ty, pos, after, g⟩ (.other cl) := fun cl => sti_other cl (by intro _ _ h; cases h) hO
  unfold cCall
  split
  · exact sti_loud (by intro h; cases h)
  · exact sti_loud (by intro h; cases h)
  · exact sti_loud (by intro h; cases h)
  · rename_i x t
    have hx : VR e (evA s x) (ev σ x) := hO x (by simp [Op.operands, Call.operands])
    unfold cLen
    split
    · rename_i hu; exact fun v _ h => y_mapLen hR (und_ok hC hu) h hx
    · rename_i hu; exact fun v _ h => y_len (und_ok hC hu) h hx
    · exact oth _
  · exact sti_loud (by intro h; cases h)
  · rename_i x y ts
    exact sti_minmax (mx := false) hO (hO x (by simp [Op.operands, Call.operands])) (hO y (by simp [Op.operands, Call.operands]))
  · rename_i x y ts
    exact sti_minmax (mx := true) hO (hO x (by simp [Op.operands, Call.operands])) (hO y (by simp [Op.operands, Call.operands]))
  · rename_i x y t u
    unfold cCopy
    split
    · split
      · exact sti_loud (by intro h; cases h)
      · exact oth _
    · exact oth _
  · rename_i x y t u
    unfold cMap
    split
    · split
      · rename_i z _ _ _ _
        cases nf _
        · exact oth _
        · exact sti_loud (by intro h; cases h)
      · exact oth _
    · exact oth _
  · rename_i x t
    have hx : VR e (evA s x) (ev σ x) := hO x (by simp [Op.operands, Call.operands])
    unfold cCap
    split
    · rename_i hu; exact fun v _ h => y_cap hR (und_ok hC hu) h hx
    · exact oth _
  · unfold cClear
    split
    · split
      · cases lall nf _
        · exact oth _
        · exact sti_loud (by intro h; cases h)
      · exact oth _
    · exact oth _
  all_goals exact oth _
theorem sti_map (i : KK → Value → Ins) (hi : ∀ k z, insCls (i k z) ≠ .still) {o : Oper} {t : TypeId} : Sti C e w σ s st o (cMap C t i .loud) := by
  unfold cMap
  split
  · split
    · cases nf _
      · exact sti_loud (by intro h; cases h)
      · exact sti_loud (hi _ _)
    · exact sti_loud (by intro h; cases h)
  · exact sti_loud (by intro h; cases h)
theorem still_ok (hC : C.OK) (hG : ∀ g, C.gl g = true → e g = some ⟨g, 0, 0⟩) (hR : Rel C B w0 e st w) {o : Oper} (hO : ∀ x ∈ o.op.operands.toList, VR e (evA s x) (ev σ x)) : Sti C e w σ s st o (comp C o.op) := by
  obtain ⟨d, op, ty, pos, after, g⟩ := o
  cases op
  case move x => exact sti_move (hO x (by simp [Op.operands]))
  case assign x => exact sti_assign (hO x (by simp [Op.operands]))
  case pick c a b => exact sti_pick (hO c (by simp [Op.operands])) (hO a (by simp [Op.operands])) (hO b (by simp [Op.operands]))
  case build t ps => exact sti_build hC hG hO
  case load t x => exact sti_load hC hR (hO x (by simp [Op.operands]))
  case nilCheck x => exact sti_nil (hO x (by simp [Op.operands]))
  case binOp op t x y u => exact sti_cbin hC (hO x (by simp [Op.operands])) (hO y (by simp [Op.operands]))
  case unOp op t x =>
    cases op
    case not => exact sti_not (hO x (by simp [Op.operands]))
    all_goals exact sti_other _ (by intro _ _ h; cases h) hO
  case convert a b x => exact sti_conv hC hR (hO x (by simp [Op.operands]))
  case sliceToArrayPointer t x => exact sti_arr hC (hO x (by simp [Op.operands]))
  case makeInterface t x => exact sti_iface hC (hO x (by simp [Op.operands]))
  case makeFunc f a b => exact sti_func hO
  case slice t x l h m => exact sti_slice hC hR hO
  case fieldAddr t x f => exact sti_fieldAddr hC (hO x (by simp [Op.operands]))
  case field t x f => exact sti_field hC (hO x (by simp [Op.operands]))
  case indexAddr t x i => exact sti_idx hC (hO x (by simp [Op.operands])) (hO i (by simp [Op.operands]))
  case lookup t m k ok => exact sti_lookup hC hR (hO m (by simp [Op.operands])) (hO k (by simp [Op.operands]))
  case typeAssert x a b ok => exact sti_assert hC (hO x (by simp [Op.operands]))
  case extract x i => exact sti_extract (hO x (by simp [Op.operands]))
  case call c => exact sti_call hC hR hO
  case mapUpdate => exact sti_map _ (by intro _ _ h; cases h)
  case insert => exact sti_map _ (by intro _ _ h; cases h)
  case mapEntry => exact sti_map _ (by intro _ _ h; cases h)
  case next x b => cases b <;> exact sti_loud (by intro h; cases h)
  case select => exact sti_loud (by intro h; cases h)
  case alloc t =>
    show Sti C e w σ s st _ (cAlloc C t)
    unfold cAlloc
    split
    · cases lall nf _
      · exact sti_loud (by intro h; cases h)
      · exact sti_loud (by intro h; cases h)
    · exact sti_loud (by intro h; cases h)
  case store t x y =>
    show Sti C e w σ s st _ (cStore C t x y)
    unfold cStore
    split <;> exact sti_loud (by intro h; cases h)
  case range t x =>
    show Sti C e w σ s st _ (cRange C t x)
    unfold cRange
    split <;> exact sti_loud (by intro h; cases h)
  case index => exact sti_other _ (by intro _ _ h; cases h) hO
  case ready => exact sti_other _ (by intro _ _ h; cases h) hO
  case waits => exact sti_other _ (by intro _ _ h; cases h) hO
  all_goals exact sti_loud (by intro h; cases h)
theorem still_all (hC : C.OK) (o : Oper) (s : Sl) (σ : Slots) (st : St) (e : Env) (w : World) (v : Value) (hG : ∀ g, C.gl g = true → e g = some ⟨g, 0, 0⟩) (hc : insCls (compK C o.op) = .still) (h : insS C s o st (compK C o.op) = some v) (hR : Rel C B w0 e st w) (hO : OpR C e s σ o) : ∃ v', (execOp (ev σ) o).run C.P w = .ok (.value v') w ∧ VR e v v' := by
  obtain ⟨h1, h2⟩ := compK_inv (op := o.op) rfl (by intro hh; rw [hh] at hc; cases hc)
  rw [← h2] at hc h
  exact still_ok hC hG hR (fun x hx => hO x hx (h1 x hx)) v hc h
end
end Go.Proofs.YtmcbcoafodmbjaaGreatDoor.Ex
