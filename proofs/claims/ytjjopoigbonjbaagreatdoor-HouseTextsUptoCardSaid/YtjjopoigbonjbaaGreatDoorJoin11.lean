/-
  Texts joined: ExP2, ExP3, ExP4, ExP5.
-/
import Derived.Test.YtjjopoigbonjbaaGreatDoorJoin10
import Derived.Laws.BytesString
namespace Go.Proofs.YtjjopoigbonjbaaGreatDoor.Ex
open Go Go.RowKit
set_option linter.unusedVariables false
set_option linter.unusedSimpArgs false
section
variable {C : Ctx} {B : Nat} {w0 : World} {e : Env} {st : St} {w : World} {s : Sl} {σ : Slots} {d : Option Tmp} {ty : TypeId} {pos : String} {after : Array Edge} {g : Option (Nat × Bool)}
theorem kindOf_ok {b : Nat} {k : Knd} (h : st.kindOf b = some k) : ∃ l t, st.heap.get b = some (.cells l t k) := by
  unfold St.kindOf at h
  split at h
  · rename_i l t k2 hg; simp only [Option.some.injEq] at h; subst h; exact ⟨l, t, hg⟩
  · cases h
theorem exact_room (hR : Rel C B w0 e st w) {b : Nat} {x : Bind} (h : st.kindOf b = some .exact) (he : e b = some x) : x.room = 0 := by
  obtain ⟨l, t, hg⟩ := kindOf_ok h
  obtain ⟨_, _, _, _, _, h3, _⟩ := hR.at_ hg he
  exact h3 rfl
theorem y_nil {x : Operand} {a : Addr} (hv : evA s x = .pointer (some a)) (hx : VR e (evA s x) (ev σ x)) : Yie C e w σ ⟨d, .nilCheck x, ty, pos, after, g⟩ (.pointer (some a)) := by
  rw [hv] at hx
  generalize hσ : ev σ x = xv at hx
  cases hx with
  | ptr hb => exact ⟨_, r_nil hσ, .ptr hb⟩
theorem y_len {t el : TypeId} {x : Operand} {v : Value} (ht : C.P.underlying t = some (.slice el)) (h : iLen (evA s x) = some v) (hx : VR e (evA s x) (ev σ x)) : Yie C e w σ ⟨d, .call ⟨.builtin .len, ⟨[x]⟩, ⟨[t]⟩⟩, ty, pos, after, g⟩ v := by
  unfold iLen at h
  split at h
  · rename_i a n c hv
    rw [hv] at hx
    simp only [Option.some.injEq] at h
    subst h
    generalize hσ : ev σ x = xv at hx
    generalize hu : (Value.slice a n c) = u at hx
    cases hx <;> cases hu
    all_goals exact ⟨_, r_len ht hσ, .int _ _⟩
  · cases h
theorem y_cap (hR : Rel C B w0 e st w) {t el : TypeId} {x : Operand} {v : Value} (ht : C.P.underlying t = some (.slice el)) (h : iCap st (evA s x) = some v) (hx : VR e (evA s x) (ev σ x)) : Yie C e w σ ⟨d, .call ⟨.builtin .cap, ⟨[x]⟩, ⟨[t]⟩⟩, ty, pos, after, g⟩ v := by
  unfold iCap at h
  split at h
  · rename_i n c hv
    rw [hv] at hx
    simp only [Option.some.injEq] at h
    subst h
    generalize hσ : ev σ x = xv at hx
    cases hx with
    | nils => exact ⟨_, r_cap ht hσ, .int _ _⟩
  · rename_i b off n c hv
    rw [hv] at hx
    split at h
    · rename_i hk
      simp only [Option.some.injEq] at h
      subst h
      generalize hσ : ev σ x = xv at hx
      cases hx with
      | sl hb =>
        have h0 := exact_room hR hk hb
        have := r_cap (d := d) (ty := ty) (pos := pos) (after := after) (g := g) (w := w) ht hσ
        rw [h0, Nat.add_zero] at this
        exact ⟨_, this, .int _ _⟩
    · cases h
  · cases h
theorem y_minmax {mx : Bool} {ts : Array TypeId} {x y : Operand} {k k' : IntKind} {a b : Int} (hk : ikeq k k' = true) (hv : evA s x = .int k a) (hw : evA s y = .int k' b) (hx : VR e (evA s x) (ev σ x)) (hy : VR e (evA s y) (ev σ y)) :
    Yie C e w σ ⟨d, .call ⟨.builtin (cond mx .max .min), ⟨[x, y]⟩, ts⟩, ty, pos, after, g⟩ (.int k (cond mx (cond (ilt a b) b a) (cond (ilt b a) b a))) := by
  rw [hv] at hx
  rw [hw, ← ikeq_eq hk] at hy
  exact ⟨_, r_minmax hx.int_inv hy.int_inv, .int _ _⟩
theorem y_arrP {t : TypeId} {m el : Nat} {x : Operand} {v : Value} (ht : C.P.underlying t = some (.array m el)) (h : iArrP m (evA s x) = some v) (hx : VR e (evA s x) (ev σ x)) : Yie C e w σ ⟨d, .sliceToArrayPointer t x, ty, pos, after, g⟩ v := by
  unfold iArrP at h
  split at h
  · rename_i b off n c hv
    rw [hv] at hx
    cases hb : Nat.ble m n with
    | false => rw [hb] at h; cases h
    | true =>
      rw [hb] at h
      simp only [cond_true, Option.some.injEq] at h
      subst h
      generalize hσ : ev σ x = xv at hx
      cases hx with
      | sl hb2 => exact ⟨_, r_arrP ht hσ (Nat.le_of_ble_eq_true hb), .ptr hb2⟩
  · cases h
theorem y_assert {t t2 : TypeId} {x : Operand} {ok : Bool} {u : TypeDesc} {z v : Value} {i : TypeInfo} (ht : C.P.underlying t = some u) (hn : ∀ ms, u ≠ .interface ms) (hi : C.P.info? t = some i) (hz : i.zero = some z) (hnz : nf z = true)
    {t3 : TypeId} {v3 : Value} (hv : evA s x = .iface t3 v3) (h : cond (Nat.beq t3 t) (some (cond ok (.tuple ⟨[v3, .bool true]⟩) v3)) (cond ok (some (.tuple ⟨[z, .bool false]⟩)) none) = some v) (hx : VR e (evA s x) (ev σ x)) : Yie C e w σ ⟨d, .typeAssert x t2 t ok, ty, pos, after, g⟩ v := by
  rw [hv] at hx
  generalize hσ : ev σ x = xv at hx
  cases hx with
  | iface _ hx' =>
    cases hb : Nat.beq t3 t with
    | true =>
      rw [hb] at h
      simp only [cond_true, Option.some.injEq] at h
      subst h
      have := Nat.eq_of_beq_eq_true hb
      subst this
      refine ⟨_, r_assertY ht hn hσ, ?_⟩
      cases ok
      · exact hx'
      · exact VR.tuple_ (LR.cons hx' (LR.cons (.bool _) LR.nil))
    | false =>
      rw [hb] at h
      cases ok with
      | false => cases h
      | true =>
        simp only [cond_false, cond_true, Option.some.injEq] at h
        subst h
        refine ⟨_, r_assertN ht hn hi hz hσ (fun e1 => by subst e1; rw [Nat.beq_refl] at hb; cases hb), VR.tuple_ (LR.cons (nf_self hnz) (LR.cons (.bool _) LR.nil))⟩
theorem bytesEq_eq : ∀ (l m : List UInt8), bytesEq l m = (l == m)
  | [], [] => rfl
  | [], y :: m => rfl
  | x :: l, [] => rfl
  | x :: l, y :: m => by
    show cond (Nat.beq x.toNat y.toNat) (bytesEq l m) false = _
    rw [bytesEq_eq l m]
    cases h : Nat.beq x.toNat y.toNat with
    | true =>
      have : x = y := UInt8.toNat_inj.1 (Nat.eq_of_beq_eq_true h)
      subst this
      simp
    | false =>
      have : x ≠ y := fun e1 => by subst e1; rw [Nat.beq_refl] at h; cases h
      simp [this]
theorem toList_data (a : ByteArray) : a.toList = a.data.toList := ByteArray.toList_eq a
end
end Go.Proofs.YtjjopoigbonjbaaGreatDoor.Ex
namespace Go.Proofs.YtjjopoigbonjbaaGreatDoor.Ex
open Go Go.RowKit
set_option linter.unusedVariables false
set_option linter.unusedSimpArgs false
section
variable {C : Ctx} {B : Nat} {w0 : World} {e : Env} {st : St} {w : World} {s : Sl} {σ : Slots} {d : Option Tmp} {ty : TypeId} {pos : String} {after : Array Edge} {g : Option (Nat × Bool)}
theorem binOp_eq {v v' : Value} (t : TypeId) (h1 : ∀ k n, v ≠ .int k n) (h2 : ∀ s, v ≠ .string s) (h3 : ∀ k n, v ≠ .float k n) (h4 : ∀ k n m, v ≠ .complex k n m) (o : BinOp) :
    binOp o t v v' = (match o with | .eql => do pure (.bool (← Op.equal t v v')) | .neq => do pure (.bool (!(← Op.equal t v v'))) | o => binOp o t v v') := by
  cases o <;> first | rfl | skip
  all_goals (cases v <;> first | rfl | (exact absurd rfl (h1 _ _)) | (exact absurd rfl (h2 _)) | (exact absurd rfl (h3 _ _)) | (exact absurd rfl (h4 _ _ _)))
theorem y_eq {op : BinOp} {neg : Bool} {t u : TypeId} {x y : Operand} {td : TypeDesc} {v : Value} (hop : op = cond neg .neq .eql) (ht : C.P.underlying t = some td) (htd : (∃ el, td = .pointer el) ∨ (∃ el, td = .slice el) ∨ td = .string) (h : iEq neg td (evA s x) (evA s y) = some v) (hx : VR e (evA s x) (ev σ x)) (hy : VR e (evA s y) (ev σ y)) :
    Yie C e w σ ⟨d, .binOp op t x y u, ty, pos, after, g⟩ v := by
  unfold iEq at h
  cases hb : eqA td (evA s x) (evA s y) with
  | none => rw [hb] at h; cases h
  | some b =>
    rw [hb] at h
    simp only [Option.some.injEq] at h
    subst h
    by_cases hs : td = .string
    · subst hs
      unfold eqA at hb
      split at hb
      · rename_i a c he1 hv hw
        rw [hv] at hx
        rw [hw] at hy
        simp only [Option.some.injEq] at hb
        subst hb
        subst hop
        refine ⟨_, r_streq hx.str_inv hy.str_inv, ?_⟩
        rw [bytesEq_eq, ← toList_data, ← toList_data]
        exact .bool _
      all_goals first | (cases hb; done) | (rename_i he1 _ _; cases he1)
    · -- pointers and slices held against nil: the frame's values are alike
      have key : ∃ v1 v2, ev σ x = v1 ∧ ev σ y = v2 ∧ eqA td v1 v2 = some b ∧ (∀ k n, v1 ≠ .int k n) ∧ (∀ s, v1 ≠ .string s) ∧ (∀ k n, v1 ≠ .float k n) ∧ (∀ k n m, v1 ≠ .complex k n m) ∧ ((v1 = .nilIface ∧ v2 = .nilIface) → False) ∧ (∀ l m, v1 = .agg l → v2 = .agg m → False) := by
        generalize evA s x = va at hb hx
        generalize evA s y = vb at hb hy
        generalize ev σ x = v1 at hx
        generalize ev σ y = v2 at hy
        refine ⟨v1, v2, rfl, rfl, ?_⟩
        unfold eqA at hb
        split at hb
        · exact absurd rfl hs
        all_goals first
          | (cases hb; done)
          | (cases hx <;> cases hy <;> exact ⟨hb, fun _ _ h => (by cases h), fun _ h => (by cases h), fun _ _ h => (by cases h), fun _ _ _ h => (by cases h), fun h => (by cases h.1), fun _ _ h => (by cases h)⟩)
      obtain ⟨v1, v2, e1, e2, hk, n1, n2, n3, n4, n5, n6⟩ := key
      refine ⟨.bool (cond neg (!b) b), ?_, .bool _⟩
      refine r_eq hop ?_ ?_ ?_
      · rw [e1, e2]; exact g_other n5 n6
      · rw [e1, e2]; exact eq_one ht hk hs
      · intro o; rw [e1, e2]; exact binOp_eq t n1 n2 n3 n4 o
theorem y_build (hC : C.OK) (hG : ∀ g, C.gl g = true → e g = some ⟨g, 0, 0⟩) {t : TypeId} {parts : List (Nat × Operand)} {fs : Array Field} {i : TypeInfo} {z : Value} {ps : List (Nat × Nat × Operand)} {v : Value}
    (ht : C.P.underlying t = some (.struct fs)) (hi : C.P.info? t = some i) (hz : i.zero = some z) (hp : partsA C fs.toList parts = some ps) (hnz : lall nf z.cells.toList = true) (hall : lall (fun f => match C.info f.type with | some _ => true | none => false) fs.toList = true)
    (hok : ∀ p ∈ parts, VR e (evA s p.2) (ev σ p.2)) (h : iBuild s z.cells.toList ps = some v) : Yie C e w σ ⟨d, .build t ⟨parts⟩, ty, pos, after, g⟩ v := by
  unfold iBuild at h
  cases hb : buildA s z.cells.toList ps with
  | none => rw [hb] at h; cases h
  | some c =>
    rw [hb] at h
    simp only [Option.some.injEq] at h
    subst h
    obtain ⟨pl, hpl, hat⟩ := mapM_places hC fs.toList hall
    obtain ⟨c', hc', hr⟩ := fill_ok (place := (pl.toArray[·]?)) fs.toList (fun j fd inf h1 h2 => by simpa using hat j fd inf h1 h2) parts ps _ _ c hp hok (lall_nf hnz) hb
    have hbuilt : C.P.built t (parts.map fun p => (p.1, ev σ p.2)) = some ⟨c'⟩ := by
      unfold Program.built
      rw [hi, ht]
      simp only [hz, hpl]
      have : (⟨z.cells.toList⟩ : Array Value) = z.cells := rfl
      rw [this] at hc'
      exact hc'
    refine ⟨.agg ⟨c'⟩, ?_, VR.agg_ hr⟩
    have e1 : (Array.map (fun (p : Nat × Operand) => (p.1, ev σ p.2)) ⟨parts⟩) = ⟨parts.map fun p => (p.1, ev σ p.2)⟩ := by apply Array.ext'; simp
    have := run_build (P := C.P) w t ⟨parts.map fun p => (p.1, ev σ p.2)⟩ ⟨c'⟩ hbuilt
    show ((do pure (.value (← Instr.build t (Array.map (fun (p : Nat × Operand) => (p.1, ev σ p.2)) ⟨parts⟩))) : Sem Next).run C.P w) = _
    rw [e1]
    simp only [Sem.run_bind, this, Result.andThen, Sem.run_pure]
theorem cond_false_and {a b : Bool} (h : (a && b) = false) : True := trivial
theorem y_slice (hR : Rel C B w0 e st w) {t el : TypeId} {x : Operand} {lo hi : Option Operand} {inf : TypeInfo} {v : Value} (ht : C.P.underlying t = some (.slice el)) (hi' : C.P.info? el = some inf) (h : iSlice s st inf.size (evA s x) lo hi = some v) (hx : VR e (evA s x) (ev σ x))
    (hlo : ∀ y, lo = some y → VR e (evA s y) (ev σ y)) (hhi : ∀ y, hi = some y → VR e (evA s y) (ev σ y)) : Yie C e w σ ⟨d, .slice t x lo hi none, ty, pos, after, g⟩ v := by
  unfold iSlice at h
  split at h
  · rename_i b off m c hv
    rw [hv] at hx
    split at h
    · rename_i l h' k hl hh hk
      cases hb : (Nat.ble l h' && Nat.ble h' c) with
      | false => rw [hb] at h; cases h
      | true =>
        rw [hb] at h
        simp only [cond_true, Option.some.injEq] at h
        simp only [Bool.and_eq_true] at hb
        have h1 := Nat.le_of_ble_eq_true hb.1
        have h2 := Nat.le_of_ble_eq_true hb.2
        generalize hσ : ev σ x = xv at hx
        cases hx with
        | sl hbd =>
          rename_i xb
          have hrun := r_slice (d := d) (ty := ty) (pos := pos) (after := after) (g := g) (w := w) ht hi' hσ (numA_ok hl hlo) (numA_ok hh hhi) h1 (Nat.le_trans h2 (Nat.le_add_right c xb.room))
          refine ⟨_, hrun, ?_⟩
          cases hc : Nat.beq c l with
          | true =>
            rw [hc] at h
            have hcl := Nat.eq_of_beq_eq_true hc
            subst hcl
            have hhl : h' - c = 0 := by omega
            rw [hhl]
            cases hg : k.isGrown with
            | true =>
              rw [hg] at h
              simp only [cond_true] at h
              subst h
              rw [show c + xb.room - c = xb.room by omega]
              by_cases hr0 : c + xb.room = c
              · rw [if_pos hr0]
                have : xb.room = 0 := by omega
                exact .sl2 hbd (fun hpos => by omega)
              · rw [if_neg hr0]
                simp only [Option.map_some, add_at]
                refine .sl2 hbd (fun _ => ?_)
                show off + xb.shift + c * inf.size = Nat.add off (Nat.mul c inf.size) + xb.shift
                show _ = off + c * inf.size + xb.shift
                omega
            | false =>
              rw [hg] at h
              simp only [cond_true, cond_false] at h
              subst h
              obtain ⟨_, _, hkg⟩ := kindOf_ok hk
              obtain ⟨_, _, _, _, _, h0, _⟩ := hR.at_ hkg hbd
              have hr0 := h0 hg
              rw [if_pos (by omega), show c + xb.room - c = 0 by omega]
              have := VR.sl (o := off) (n := 0) (c := 0) hbd
              rw [hr0] at this
              exact this
          | false =>
            rw [hc] at h
            simp only [cond_false] at h
            subst h
            have hcl : c ≠ l := fun e1 => by subst e1; rw [Nat.beq_refl] at hc; cases hc
            rw [if_neg (by omega)]
            simp only [Option.map_some, add_at]
            have := VR.sl (o := Nat.add off (Nat.mul l inf.size)) (n := Nat.sub h' l) (c := Nat.sub c l) hbd
            rw [show off + xb.shift + l * inf.size = Nat.add off (Nat.mul l inf.size) + xb.shift by show _ = off + l * inf.size + xb.shift; omega, show c + xb.room - l = Nat.sub c l + xb.room by show _ = c - l + xb.room; omega]
            exact this
    · cases h
  · rename_i hv
    rw [hv] at hx
    split at h
    · rename_i hl hh
      simp only [Option.some.injEq] at h
      subst h
      generalize hσ : ev σ x = xv at hx
      cases hx with
      | nils =>
        have hrun := r_slice (d := d) (ty := ty) (pos := pos) (after := after) (g := g) (w := w) ht hi' hσ (numA_ok hl hlo) (numA_ok hh hhi) (Nat.le_refl 0) (Nat.le_refl 0)
        exact ⟨_, hrun, .nils _ _⟩
    · cases h
  · cases h
end
end Go.Proofs.YtjjopoigbonjbaaGreatDoor.Ex
namespace Go.Proofs.YtjjopoigbonjbaaGreatDoor.Ex
open Go Go.RowKit
set_option linter.unusedVariables false
set_option linter.unusedSimpArgs false
section
variable {C : Ctx} {B : Nat} {w0 : World} {e : Env} {st : St} {w : World} {s : Sl} {σ : Slots} {d : Option Tmp} {ty : TypeId} {pos : String} {after : Array Edge} {g : Option (Nat × Bool)}
theorem num_some {n dflt : Nat} {x : Operand} (h : numA s dflt (some x) = some n) (hx : VR e (evA s x) (ev σ x)) : ∃ k, ev σ x = .int k (Int.ofNat n) := by
  rcases numA_ok h (fun y hy => by cases hy; exact hx) with ⟨h1, _⟩ | ⟨y, k, h1, h2⟩
  · cases h1
  · cases h1; exact ⟨k, h2⟩
theorem y_slice3 (hR : Rel C B w0 e st w) {t el : TypeId} {x hi mx : Operand} {lo : Option Operand} {inf : TypeInfo} {v : Value} (ht : C.P.underlying t = some (.slice el)) (hi' : C.P.info? el = some inf) (h : iSlice3 s st inf.size (evA s x) lo hi mx = some v) (hx : VR e (evA s x) (ev σ x))
    (hlo : ∀ y, lo = some y → VR e (evA s y) (ev σ y)) (hhi : VR e (evA s hi) (ev σ hi)) (hmx : VR e (evA s mx) (ev σ mx)) : Yie C e w σ ⟨d, .slice t x lo (some hi) (some mx), ty, pos, after, g⟩ v := by
  unfold iSlice3 at h
  split at h
  · rename_i b off m c hv
    rw [hv] at hx
    split at h
    · rename_i l h' k kd hl hh hm hk
      cases hb : (Nat.ble l h' && Nat.ble h' k && Nat.ble k c) with
      | false => rw [hb] at h; cases h
      | true =>
        rw [hb] at h
        simp only [cond_true, Option.some.injEq] at h
        simp only [Bool.and_eq_true] at hb
        have h1 := Nat.le_of_ble_eq_true hb.1.1
        have h2 := Nat.le_of_ble_eq_true hb.1.2
        have h3 := Nat.le_of_ble_eq_true hb.2
        obtain ⟨k1, hh'⟩ := num_some hh hhi
        obtain ⟨k2, hm'⟩ := num_some hm hmx
        generalize hσ : ev σ x = xv at hx
        cases hx with
        | sl hbd =>
          rename_i xb
          have hrun := r_slice3 (d := d) (ty := ty) (pos := pos) (after := after) (g := g) (w := w) ht hi' hσ (numA_ok hl hlo) hh' hm' h1 h2 (Nat.le_trans h3 (Nat.le_add_right c xb.room))
          refine ⟨_, hrun, ?_⟩
          subst h
          have hroom : kd.isGrown = false → xb.room = 0 := by
            intro hg
            obtain ⟨_, _, hkg⟩ := kindOf_ok hk
            obtain ⟨_, _, _, _, _, h0, _⟩ := hR.at_ hkg hbd
            exact h0 hg
          have hoff : ∀ o1 : Nat, (some ⟨xb.blk, o1 + xb.shift, none⟩ : Option Addr) = some ⟨xb.blk, o1 + xb.shift, none⟩ := fun _ => rfl
          have hadr : (if k = l then (some ⟨xb.blk, off + xb.shift, none⟩ : Option Addr) else (some (⟨xb.blk, off + xb.shift, none⟩ : Addr)).map (·.add (l * inf.size))) = some ⟨xb.blk, cond (Nat.beq k l) off (Nat.add off (Nat.mul l inf.size)) + xb.shift, none⟩ := by
            cases hkl : Nat.beq k l with
            | true => rw [if_pos (Nat.eq_of_beq_eq_true hkl)]; rfl
            | false =>
              rw [if_neg (fun e1 => by subst e1; rw [Nat.beq_refl] at hkl; cases hkl)]
              simp only [Option.map_some, add_at, cond_false]
              rw [show off + xb.shift + l * inf.size = Nat.add off (Nat.mul l inf.size) + xb.shift by show _ = off + l * inf.size + xb.shift; omega]
          rw [hadr]
          cases hg : kd.isGrown with
          | true => exact .sl1 hbd
          | false =>
            have := VR.sl (o := cond (Nat.beq k l) off (Nat.add off (Nat.mul l inf.size))) (n := Nat.sub h' l) (c := Nat.sub k l) hbd
            rw [hroom hg] at this
            exact this
    · cases h
  · rename_i hv
    rw [hv] at hx
    split at h
    · rename_i hl hh hm
      simp only [Option.some.injEq] at h
      subst h
      obtain ⟨k1, hh'⟩ := num_some hh hhi
      obtain ⟨k2, hm'⟩ := num_some hm hmx
      generalize hσ : ev σ x = xv at hx
      cases hx with
      | nils =>
        have hrun := r_slice3 (d := d) (ty := ty) (pos := pos) (after := after) (g := g) (w := w) ht hi' hσ (numA_ok hl hlo) hh' hm' (Nat.le_refl 0) (Nat.le_refl 0) (Nat.le_refl 0)
        exact ⟨_, hrun, .nils _ _⟩
    · cases h
  · cases h
theorem y_slicP {t : TypeId} {m el : Nat} {x : Operand} {lo hi : Option Operand} {inf : TypeInfo} {v : Value} (hroom : ∀ b x, e b = some x → (∃ l t, st.heap.get b = some (.cells l t .exact)) → x.room = 0) (ht : C.P.underlying t = some (.array m el)) (hi' : C.P.info? el = some inf) (h : iSlicP s st m inf.size (evA s x) lo hi = some v) (hx : VR e (evA s x) (ev σ x))
    (hlo : ∀ y, lo = some y → VR e (evA s y) (ev σ y)) (hhi : ∀ y, hi = some y → VR e (evA s y) (ev σ y)) : Yie C e w σ ⟨d, .slice t x lo hi none, ty, pos, after, g⟩ v := by
  unfold iSlicP at h
  split at h
  · rename_i b off hv
    rw [hv] at hx
    split at h
    · rename_i l h' hl hh hk
      cases hb : (Nat.ble l h' && Nat.ble h' m) with
      | false => rw [hb] at h; cases h
      | true =>
        rw [hb] at h
        simp only [cond_true, Option.some.injEq] at h
        simp only [Bool.and_eq_true] at hb
        have h1 := Nat.le_of_ble_eq_true hb.1
        have h2 := Nat.le_of_ble_eq_true hb.2
        obtain ⟨xb, hbd, hσ⟩ := hx.ptr_inv
        have hrun := r_slicP (d := d) (ty := ty) (pos := pos) (after := after) (g := g) (w := w) ht hi' hσ (numA_ok hl hlo) (numA_ok hh hhi) h1 h2
        refine ⟨_, hrun, ?_⟩
        subst h
        have h0 := hroom b xb hbd (kindOf_ok hk)
        have hadr : (if m = l then (⟨xb.blk, off + xb.shift, none⟩ : Addr) else (⟨xb.blk, off + xb.shift, none⟩ : Addr).add (l * inf.size)) = ⟨xb.blk, cond (Nat.beq m l) off (Nat.add off (Nat.mul l inf.size)) + xb.shift, none⟩ := by
          cases hkl : Nat.beq m l with
          | true => rw [if_pos (Nat.eq_of_beq_eq_true hkl)]; rfl
          | false =>
            rw [if_neg (fun e1 => by subst e1; rw [Nat.beq_refl] at hkl; cases hkl)]
            simp only [add_at, cond_false]
            rw [show off + xb.shift + l * inf.size = Nat.add off (Nat.mul l inf.size) + xb.shift by show _ = off + l * inf.size + xb.shift; omega]
        rw [hadr]
        have := VR.sl (o := cond (Nat.beq m l) off (Nat.add off (Nat.mul l inf.size))) (n := Nat.sub h' l) (c := Nat.sub m l) hbd
        rw [h0] at this
        exact this
    · cases h
  · cases h
theorem y_mapLen (hR : Rel C B w0 e st w) {t k el : TypeId} {x : Operand} {v : Value} (ht : C.P.underlying t = some (.map k el)) (h : iMapLen st (evA s x) = some v) (hx : VR e (evA s x) (ev σ x)) : Yie C e w σ ⟨d, .call ⟨.builtin .len, ⟨[x]⟩, ⟨[t]⟩⟩, ty, pos, after, g⟩ v := by
  unfold iMapLen at h
  split at h
  · rename_i hv
    rw [hv] at hx
    simp only [Option.some.injEq] at h
    subst h
    generalize hσ : ev σ x = xv at hx
    cases hx with
    | nilm => exact ⟨_, r_mapLen0 ht hσ, .int _ _⟩
  · rename_i b hv
    rw [hv] at hx
    split at h
    · rename_i l c hm
      simp only [Option.some.injEq] at h
      subst h
      have hg : st.heap.get b = some (.obj (.map ⟨l⟩ c)) := by
        unfold St.map? at hm
        split at hm
        · rename_i l2 c2 hg; simp only [Option.some.injEq, Prod.mk.injEq] at hm; obtain ⟨rfl, rfl⟩ := hm; exact hg
        · cases hm
      generalize hσ : ev σ x = xv at hx
      cases hx with
      | map hb =>
        obtain ⟨o', ho, hor⟩ := hR.obj_ hg hb
        cases hor with
        | map _ hmr =>
          refine ⟨_, r_mapLen ht hσ ho, ?_⟩
          rw [llen_eq, hmr.1]
          exact .int _ _
    · cases h
  · cases h
/-- Held against the literal nil. -/
theorem isNil_eq {k : NK} {v v' : Value} {b : Bool} (h : isNilA k v = some b) (hv : VR e v v') : isNilA k v' = some b := by
  cases k with
  | map => rcases isNilM_inv (v := v) h with ⟨rfl, rfl⟩ | ⟨m, rfl, rfl⟩ <;> cases hv <;> rfl
  | func => rcases isNilF_inv (v := v) h with ⟨rfl, rfl⟩ | ⟨i, m, r, rfl, rfl⟩ <;> cases hv <;> rfl
  | iface => rcases isNilI_inv (v := v) h with ⟨rfl, rfl⟩ | ⟨i, m, rfl, rfl⟩ <;> cases hv <;> rfl
theorem r_toStr {src dst el : TypeId} {x : Operand} (hs : C.P.underlying src = some (.slice el)) (he : C.P.underlying el = some (.int .u8)) (hd : C.P.underlying dst = some .string) {v : Value} {r : ByteArray} (hx : ev σ x = v) (hr : (Conv.bytesToString v).run C.P w = .ok (.string r) w) (hnil : ∀ s, v ≠ .string s) (hnint : ∀ k n, v ≠ .int k n) :
    (execOp (ev σ) ⟨d, .convert src dst x, ty, pos, after, g⟩).run C.P w = .ok (.value (.string r)) w := by
  simp only [execOp, hx, convert, Sem.run_bind, r_und hs, r_und hd, Result.andThen]
  cases v <;> first
    | (exact absurd rfl (hnil _)) | (exact absurd rfl (hnint _ _))
    | (simp only [Sem.run_bind, r_und he, Result.andThen, hr, Sem.run_pure])
end
end Go.Proofs.YtjjopoigbonjbaaGreatDoor.Ex
namespace Go.Proofs.YtjjopoigbonjbaaGreatDoor.Ex
open Go Go.RowKit
set_option linter.unusedVariables false
set_option linter.unusedSimpArgs false
section
variable {C : Ctx} {B : Nat} {w0 : World} {e : Env} {st : St} {w : World} {s : Sl} {σ : Slots} {d : Option Tmp} {ty : TypeId} {pos : String} {after : Array Edge} {g : Option (Nat × Bool)}
theorem bytesA_some : ∀ (l : List Value) (r : List UInt8), bytesA l = some r → ∃ ns : List Int, l = ns.map (Value.int .u8) ∧ r = ns.map fun n => UInt8.ofNat n.toNat
  | [], r, h => by cases h; exact ⟨[], rfl, rfl⟩
  | v :: l, r, h => by
    have h' : (match (generalizing := false) v, bytesA l with | .int .u8 n, some r => some (UInt8.ofNat n.toNat :: r) | _, _ => none) = some r := h
    split at h'
    · rename_i n r2 hr
      obtain ⟨ns, h1, h2⟩ := bytesA_some l r2 hr
      simp only [Option.some.injEq] at h'
      exact ⟨n :: ns, by simp [h1], by simp [← h', h2]⟩
    · cases h'
theorem push_fold : ∀ (ns : List Int) (b : List UInt8), ns.foldl (fun (r : ByteArray) n => r.push (UInt8.ofNat n.toNat)) ⟨⟨b⟩⟩ = ⟨⟨b ++ ns.map fun n => UInt8.ofNat n.toNat⟩⟩
  | [], b => by simp
  | n :: ns, b => by
    have e1 : (⟨⟨b⟩⟩ : ByteArray).push (UInt8.ofNat n.toNat) = ⟨⟨b ++ [UInt8.ofNat n.toNat]⟩⟩ := by simp [ByteArray.push]
    simp only [List.foldl_cons]
    rw [e1, push_fold ns]
    simp
theorem LR.ints {ns : List Int} : ∀ {l' : List Value}, LR e (ns.map (Value.int .u8)) l' → l' = ns.map (Value.int .u8) := by
  induction ns with
  | nil => intro l' h; exact h.unnil
  | cons n ns ih =>
    intro l' h
    obtain ⟨v', r, rfl, hv, hr⟩ := h.uncons
    rw [hv.int_inv, ih hr]; rfl
theorem y_toStr (hR : Rel C B w0 e st w) {src dst el : TypeId} {x : Operand} {v : Value} (hs : C.P.underlying src = some (.slice el)) (he : C.P.underlying el = some (.int .u8)) (hd : C.P.underlying dst = some .string) (h : iToStr st (evA s x) = some v) (hx : VR e (evA s x) (ev σ x)) : Yie C e w σ ⟨d, .convert src dst x, ty, pos, after, g⟩ v := by
  unfold iToStr at h
  split at h
  · rename_i n c hv
    rw [hv] at hx
    simp only [Option.some.injEq] at h
    subst h
    generalize hσ : ev σ x = xv at hx
    cases hx with
    | nils => exact ⟨_, r_toStr hs he hd hσ (by simp [Conv.bytesToString]; rfl) (by intro s h; cases h) (by intro k n h; cases h), .string _⟩
  · rename_i b off n c hv
    rw [hv] at hx
    simp only [Option.some.injEq] at h
    subst h
    generalize hσ : ev σ x = xv at hx
    cases hx with
    | sl2 hb h0 =>
      refine ⟨_, r_toStr hs he hd hσ ?_ (by intro s h; cases h) (by intro k n h; cases h), .string _⟩
      have := run_bytesToString (P := C.P) w ⟨(by assumption : Bind).blk, (by assumption : Nat), none⟩ 0 0 [] (by simp [loadCells, loadCellsFrom])
      rename_i xb
      exact run_bytesToString (P := C.P) w _ 0 _ [] (by simp [loadCells, loadCellsFrom])
  · rename_i b off n c hv
    rw [hv] at hx
    split at h
    · rename_i l hl
      split at h
      · rename_i r hr
        simp only [Option.some.injEq] at h
        subst h
        obtain ⟨ns, h1, h2⟩ := bytesA_some l r hr
        generalize hσ : ev σ x = xv at hx
        cases hx with
        | sl hb =>
          obtain ⟨l', a1, a2, a3⟩ := hR.cells_ hl hb
          subst h1
          have hl' := a2.ints
          subst hl'
          refine ⟨_, r_toStr hs he hd hσ (run_bytesToString (P := C.P) w _ n _ ns ?_) (by intro s h; cases h) (by intro k n h; cases h), ?_⟩
          · have := run_readCells (P := C.P) (w := w) n 0 _ #[] a1
            simpa [loadCells] using this
          · have := push_fold ns []
            rw [show (⟨⟨[]⟩⟩ : ByteArray) = ByteArray.empty from rfl] at this
            rw [this, h2]
            exact .string _
      · cases h
    · cases h
  · cases h
theorem nil_kinds {k : NK} {v : Value} {b : Bool} (h : isNilA k v = some b) : (∀ k n, v ≠ .int k n) ∧ (∀ s, v ≠ .string s) ∧ (∀ k n, v ≠ .float k n) ∧ (∀ k n m, v ≠ .complex k n m) ∧ (∀ l, v ≠ .agg l) := by
  have key : ∀ (v : Value), (∃ m, v = .map m) ∨ v = .nilFunc ∨ (∃ i c r, v = .func i c r) ∨ v = .nilIface ∨ (∃ t x, v = .iface t x) → (∀ k n, v ≠ .int k n) ∧ (∀ s, v ≠ .string s) ∧ (∀ k n, v ≠ .float k n) ∧ (∀ k n m, v ≠ .complex k n m) ∧ (∀ l, v ≠ .agg l) := by
    intro v hv
    rcases hv with ⟨m, rfl⟩ | rfl | ⟨i, c, r, rfl⟩ | rfl | ⟨t, x, rfl⟩ <;>
      exact ⟨fun _ _ h => (by cases h), fun _ h => (by cases h), fun _ _ h => (by cases h), fun _ _ _ h => (by cases h), fun _ h => (by cases h)⟩
  refine key v ?_
  cases k with
  | map => rcases isNilM_inv (v := v) h with ⟨rfl, _⟩ | ⟨m, rfl, _⟩ <;> exact .inl ⟨_, rfl⟩
  | func =>
    rcases isNilF_inv (v := v) h with ⟨rfl, _⟩ | ⟨i, m, r, rfl, _⟩
    · exact .inr (.inl rfl)
    · exact .inr (.inr (.inl ⟨_, _, _, rfl⟩))
  | iface =>
    rcases isNilI_inv (v := v) h with ⟨rfl, _⟩ | ⟨i, m, rfl, _⟩
    · exact .inr (.inr (.inr (.inl rfl)))
    · exact .inr (.inr (.inr (.inr ⟨_, _, rfl⟩)))
theorem g_nil {P : Program} {op : BinOp} {t : TypeId} {x y : Operand} {a b : Value} (hc : (∃ v, x = .const v) ∨ ∃ v, y = .const v) (ha : ∀ l, a ≠ .agg l) : (eqGuard op t x y a b).run P w = .ok () w := by
  rcases hc with ⟨v, rfl⟩ | ⟨v, rfl⟩
  · unfold eqGuard
    cases op <;> simp
    all_goals (cases a <;> cases b <;> first | (exact absurd rfl (ha _)) | simp)
  · unfold eqGuard
    cases op <;> simp
    all_goals (cases a <;> cases b <;> first | (exact absurd rfl (ha _)) | simp)
theorem y_nilEq {op : BinOp} {neg : Bool} {t u : TypeId} {x y : Operand} {td : TypeDesc} {k : NK} {v : Value} (hop : op = cond neg .neq .eql) (ht : C.P.underlying t = some td) (hk : NKof td = some k)
    (h : iNilEq s neg k x y = some v) (hx : VR e (evA s x) (ev σ x)) (hy : VR e (evA s y) (ev σ y)) : Yie C e w σ ⟨d, .binOp op t x y u, ty, pos, after, g⟩ v := by
  unfold iNilEq at h
  split at h
  · rename_i c
    split at h
    · rename_i b h1 h2
      simp only [Option.some.injEq] at h
      subst h
      have hv := isNil_eq h2 hx
      obtain ⟨n1, n2, n3, n4, n5⟩ := nil_kinds hv
      refine ⟨.bool (cond neg (!b) b), r_eq hop (g_nil (.inr ⟨_, rfl⟩) n5) (nil_one ht hk hv h1).1 (fun o => binOp_eq t n1 n2 n3 n4 o), .bool _⟩
    · cases h
  · rename_i c _ _
    split at h
    · rename_i b h1 h2
      simp only [Option.some.injEq] at h
      subst h
      have hv := isNil_eq h2 hy
      obtain ⟨n1, n2, n3, n4, n5⟩ := nil_kinds h1
      refine ⟨.bool (cond neg (!b) b), r_eq hop (g_nil (.inl ⟨_, rfl⟩) n5) (nil_one ht hk hv h1).2 (fun o => binOp_eq t n1 n2 n3 n4 o), .bool _⟩
    · cases h
  · cases h
end
end Go.Proofs.YtjjopoigbonjbaaGreatDoor.Ex
