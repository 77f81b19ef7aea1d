/-
  Texts joined: ExP5, ExF, ExP6.
-/
import Derived.Test.YtmcbcoafodmbjaaGreatDoorJoin09
import Derived.Laws.BytesString
import Derived.WideKeyRuns
namespace Go.Proofs.YtmcbcoafodmbjaaGreatDoor.Ex
open Go Go.RowKit
set_option linter.unusedVariables false
set_option linter.unusedSimpArgs false
section
variable {C : Ctx} {B : Nat} {w0 : World} {e : Env} {st : St} {w : World} {s : Sl} {σ : Slots} {d : Option Tmp} {ty : TypeId} {pos : String} {after : Array Edge} {g : Option (Nat × Bool)}
theorem bytesA_some : ∀ (l : List Value) (r : List UInt8), bytesA l = some r → ∃ ns : List Int, l = ns.map (Value.int .u8) ∧ r = ns.map fun n => UInt8.ofNat n.toNat
  | [], r, h => by cases h; exact ⟨[], rfl, rfl⟩
  | v :: l, r, h => by
    have h' : (match (generalizing := false) v, bytesA l with | .int .u8 n, some r => some (UInt8.ofNat n.toNat :: r) | _, _ => none) = some r := h
    split at h'
    · rename_i n r2 hr
      obtain ⟨ns, h1, h2⟩ := bytesA_some l r2 hr
      simp only [Option.some.injEq] at h'
      exact ⟨n :: ns, by simp [h1], by simp [← h', h2]⟩
    · cases h'
theorem push_fold : ∀ (ns : List Int) (b : List UInt8), ns.foldl (fun (r : ByteArray) n => r.push (UInt8.ofNat n.toNat)) ⟨⟨b⟩⟩ = ⟨⟨b ++ ns.map fun n => UInt8.ofNat n.toNat⟩⟩
  | [], b => by simp
  | n :: ns, b => by
    have e1 : (⟨⟨b⟩⟩ : ByteArray).push (UInt8.ofNat n.toNat) = ⟨⟨b ++ [UInt8.ofNat n.toNat]⟩⟩ := by simp [ByteArray.push]
    simp only [List.foldl_cons]
    rw [e1, push_fold ns]
    simp
theorem LR.ints {ns : List Int} : ∀ {l' : List Value}, LR e (ns.map (Value.int .u8)) l' → l' = ns.map (Value.int .u8) := by
  induction ns with
  | nil => intro l' h; exact h.unnil
  | cons n ns ih =>
    intro l' h
    obtain ⟨v', r, rfl, hv, hr⟩ := h.uncons
    rw [hv.int_inv, ih hr]; rfl
theorem y_toStr (hR : Rel C B w0 e st w) {src dst el : TypeId} {x : Operand} {v : Value} (hs : C.P.underlying src = some (.slice el)) (he : C.P.underlying el = some (.int .u8)) (hd : C.P.underlying dst = some .string) (h : iToStr st (evA s x) = some v) (hx : VR e (evA s x) (ev σ x)) : Yie C e w σ ⟨d, .convert src dst x, ty, pos, after, g⟩ v := by
  unfold iToStr at h
  split at h
  · rename_i n c hv
    rw [hv] at hx
    simp only [Option.some.injEq] at h
    subst h
    generalize hσ : ev σ x = xv at hx
    cases hx with
    | nils => exact ⟨_, r_toStr hs he hd hσ (by simp [Conv.bytesToString]; rfl) (by intro s h; cases h) (by intro k n h; cases h), .string _⟩
  · rename_i b off n c hv
    rw [hv] at hx
    simp only [Option.some.injEq] at h
    subst h
    generalize hσ : ev σ x = xv at hx
    cases hx with
    | sl2 hb h0 =>
      refine ⟨_, r_toStr hs he hd hσ ?_ (by intro s h; cases h) (by intro k n h; cases h), .string _⟩
      have := run_bytesToString (P := C.P) w ⟨(by assumption : Bind).blk, (by assumption : Nat), none⟩ 0 0 [] (by simp [loadCells, loadCellsFrom])
      rename_i xb
      exact run_bytesToString (P := C.P) w _ 0 _ [] (by simp [loadCells, loadCellsFrom])
  · rename_i b off n c hv
    rw [hv] at hx
    split at h
    · rename_i l hl
      split at h
      · rename_i r hr
        simp only [Option.some.injEq] at h
        subst h
        obtain ⟨ns, h1, h2⟩ := bytesA_some l r hr
        generalize hσ : ev σ x = xv at hx
        cases hx with
        | sl hb =>
          obtain ⟨l', a1, a2, a3⟩ := hR.cells_ hl hb
          subst h1
          have hl' := a2.ints
          subst hl'
          refine ⟨_, r_toStr hs he hd hσ (run_bytesToString (P := C.P) w _ n _ ns ?_) (by intro s h; cases h) (by intro k n h; cases h), ?_⟩
          · have := run_readCells (P := C.P) (w := w) n 0 _ #[] a1
            simpa [loadCells] using this
          · have := push_fold ns []
            rw [show (⟨⟨[]⟩⟩ : ByteArray) = ByteArray.empty from rfl] at this
            rw [this, h2]
            exact .string _
      · cases h
    · cases h
  · cases h
theorem nil_kinds {k : NK} {v : Value} {b : Bool} (h : isNilA k v = some b) : (∀ k n, v ≠ .int k n) ∧ (∀ s, v ≠ .string s) ∧ (∀ k n, v ≠ .float k n) ∧ (∀ k n m, v ≠ .complex k n m) ∧ (∀ l, v ≠ .agg l) := by
  have key : ∀ (v : Value), (∃ m, v = .map m) ∨ v = .nilFunc ∨ (∃ i c r, v = .func i c r) ∨ v = .nilIface ∨ (∃ t x, v = .iface t x) → (∀ k n, v ≠ .int k n) ∧ (∀ s, v ≠ .string s) ∧ (∀ k n, v ≠ .float k n) ∧ (∀ k n m, v ≠ .complex k n m) ∧ (∀ l, v ≠ .agg l) := by
    intro v hv
    rcases hv with ⟨m, rfl⟩ | rfl | ⟨i, c, r, rfl⟩ | rfl | ⟨t, x, rfl⟩ <;>
      exact ⟨fun _ _ h => (by cases h), fun _ h => (by cases h), fun _ _ h => (by cases h), fun _ _ _ h => (by cases h), fun _ h => (by cases h)⟩
  refine key v ?_
  cases k with
  | map => rcases isNilM_inv (v := v) h with ⟨rfl, _⟩ | ⟨m, rfl, _⟩ <;> exact .inl ⟨_, rfl⟩
  | func =>
    rcases isNilF_inv (v := v) h with ⟨rfl, _⟩ | ⟨i, m, r, rfl, _⟩
    · exact .inr (.inl rfl)
    · exact .inr (.inr (.inl ⟨_, _, _, rfl⟩))
  | iface =>
    rcases isNilI_inv (v := v) h with ⟨rfl, _⟩ | ⟨i, m, rfl, _⟩
    · exact .inr (.inr (.inr (.inl rfl)))
    · exact .inr (.inr (.inr (.inr ⟨_, _, rfl⟩)))
theorem g_nil {P : Program} {op : BinOp} {t : TypeId} {x y : Operand} {a b : Value} (hc : (∃ v, x = .const v) ∨ ∃ v, y = .const v) (ha : ∀ l, a ≠ .agg l) : (eqGuard op t x y a b).run P w = .ok () w := by
  rcases hc with ⟨v, rfl⟩ | ⟨v, rfl⟩
  · unfold eqGuard
    cases op <;> simp
    all_goals (cases a <;> cases b <;> first | (exact absurd rfl (ha _)) | simp)
  · unfold eqGuard
    cases op <;> simp
    all_goals (cases a <;> cases b <;> first | (exact absurd rfl (ha _)) | simp)
theorem y_nilEq {op : BinOp} {neg : Bool} {t u : TypeId} {x y : Operand} {td : TypeDesc} {k : NK} {v : Value} (hop : op = cond neg .neq .eql) (ht : C.P.underlying t = some td) (hk : NKof td = some k)
    (h : iNilEq s neg k x y = some v) (hx : VR e (evA s x) (ev σ x)) (hy : VR e (evA s y) (ev σ y)) : Yie C e w σ ⟨d, .binOp op t x y u, ty, pos, after, g⟩ v := by
  unfold iNilEq at h
  split at h
  · rename_i c
    split at h
    · rename_i b h1 h2
      simp only [Option.some.injEq] at h
      subst h
      have hv := isNil_eq h2 hx
      obtain ⟨n1, n2, n3, n4, n5⟩ := nil_kinds hv
      refine ⟨.bool (cond neg (!b) b), r_eq hop (g_nil (.inr ⟨_, rfl⟩) n5) (nil_one ht hk hv h1).1 (fun o => binOp_eq t n1 n2 n3 n4 o), .bool _⟩
    · cases h
  · rename_i c _ _
    split at h
    · rename_i b h1 h2
      simp only [Option.some.injEq] at h
      subst h
      have hv := isNil_eq h2 hy
      obtain ⟨n1, n2, n3, n4, n5⟩ := nil_kinds h1
      refine ⟨.bool (cond neg (!b) b), r_eq hop (g_nil (.inl ⟨_, rfl⟩) n5) (nil_one ht hk hv h1).2 (fun o => binOp_eq t n1 n2 n3 n4 o), .bool _⟩
    · cases h
  · cases h
end
end Go.Proofs.YtmcbcoafodmbjaaGreatDoor.Ex
namespace Go.Proofs.YtmcbcoafodmbjaaGreatDoor.Ex
open Go Go.RowKit
set_option linter.unusedVariables false
set_option linter.unusedSimpArgs false
def Wr (P : Program) (t : TypeId) (v : Value) (xs : List Value) : Prop := match P.underlying t with
  | some (.array _ _) | some (.struct _) => v = .agg ⟨xs⟩
  | _ => xs = [v]
section
variable {P : Program} {w : World}
theorem cellsEq_cons {f : FK} {fs : List FK} {x y : Value} {l m : List Value} {b : Bool} (h : cellsEq (f :: fs) (x :: l) (y :: m) = some b) : ∃ b1 b2, cellEq f x y = some b1 ∧ cellsEq fs l m = some b2 ∧ b = (b1 && b2) := by
  have h' : (match (generalizing := false) cellEq f x y with
        | some true => cellsEq fs l m
        | some false => (match cellsEq fs l m with | some _ => some false | none => none)
        | none => none) = some b := h
  split at h'
  · rename_i hc; exact ⟨true, b, hc, h', by simp⟩
  · rename_i hc
    split at h'
    · rename_i c hc2
      cases h'
      exact ⟨false, c, hc, hc2, by simp⟩
    · cases h'
  · cases h'
theorem cellsEq_len : ∀ {fs : List FK} {l m : List Value} {b : Bool}, cellsEq fs l m = some b → l.length = fs.length ∧ m.length = fs.length
  | [], [], [], b, h => ⟨rfl, rfl⟩
  | [], [], _ :: _, b, h => by cases h
  | [], _ :: _, _, b, h => by cases h
  | f :: fs, [], _, b, h => by cases h
  | f :: fs, _ :: _, [], b, h => by cases h
  | f :: fs, x :: l, y :: m, b, h => by
    obtain ⟨_, _, _, h2, _⟩ := cellsEq_cons h
    obtain ⟨a, b⟩ := cellsEq_len h2
    exact ⟨by simp [a], by simp [b]⟩
theorem cellsEq_app {r : List FK} : ∀ {fs : List FK} {l m : List Value} {b : Bool}, cellsEq (fs ++ r) l m = some b →
    ∃ b1 b2, cellsEq fs (l.take fs.length) (m.take fs.length) = some b1 ∧ cellsEq r (l.drop fs.length) (m.drop fs.length) = some b2 ∧ b = (b1 && b2)
  | [], l, m, b, h => ⟨true, b, by simp [cellsEq], by simpa using h, by simp⟩
  | f :: fs, l, m, b, h => by
    obtain ⟨h1, h2⟩ := cellsEq_len h
    cases l with
    | nil => simp at h1
    | cons x l =>
      cases m with
      | nil => simp at h2
      | cons y m =>
        obtain ⟨b1, b2, a1, a2, a3⟩ := cellsEq_cons (fs := fs ++ r) h
        obtain ⟨c1, c2, d1, d2, d3⟩ := cellsEq_app a2
        refine ⟨b1 && c1, c2, ?_, by simpa using d2, by rw [a3, d3, Bool.and_assoc]⟩
        show cellsEq (f :: fs) (x :: l.take fs.length) (y :: m.take fs.length) = _
        show (match cellEq f x y with
          | some true => cellsEq fs (l.take fs.length) (m.take fs.length)
          | some false => (match cellsEq fs (l.take fs.length) (m.take fs.length) with | some _ => some false | none => none)
          | none => none) = _
        rw [a1, d1]
        cases b1 <;> simp
theorem part_agg {e : TypeId} {i : TypeInfo} {cs : List Value} {off n : Nat} (hu : (∃ k e', P.underlying e = some (.array k e')) ∨ ∃ fs, P.underlying e = some (.struct fs)) (hi : P.info? e = some i) (hsz : i.size = n) :
    ∃ v, (part e ⟨cs⟩ off).run P w = .ok v w ∧ Wr P e v ((cs.drop off).take n) := by
  refine ⟨.agg ⟨(cs.drop off).take n⟩, ?_, ?_⟩
  · have hs : (sizeOf e).run P w = .ok n w := by rw [run_sizeOf w hi]; simp [Program.cellsOf, hi, hsz]
    rcases hu with ⟨k, e', hu⟩ | ⟨fs, hu⟩ <;>
      simp [part, isAgg, Sem.run_bind, r_und hu, Result.andThen, hs, List.extract_eq_take_drop]
  · rcases hu with ⟨k, e', hu⟩ | ⟨fs, hu⟩ <;> simp [Wr, hu]
theorem part_one {e : TypeId} {td : TypeDesc} {cs : List Value} {off : Nat} (hu : P.underlying e = some td) (hd : (∃ k, td = .int k) ∨ td = .bool ∨ td = .string) (hl : off + 1 ≤ cs.length) :
    ∃ v, (part e ⟨cs⟩ off).run P w = .ok v w ∧ Wr P e v ((cs.drop off).take 1) := by
  have hx : off < cs.length := by omega
  refine ⟨cs[off], ?_, ?_⟩
  · have : (⟨cs⟩ : Array Value)[off]? = some cs[off] := by simp [hx]
    rcases hd with ⟨k, rfl⟩ | rfl | rfl <;>
      simp [part, isAgg, Sem.run_bind, r_und hu, Result.andThen, this, hx]
  · have : (cs.drop off).take 1 = [cs[off]] := by
      rw [List.drop_eq_getElem_cons hx]; rfl
    rcases hd with ⟨k, rfl⟩ | rfl | rfl <;> simp [Wr, hu, this]
theorem part_ok {m : Nat} {e : TypeId} {l0 : List FK} {i : TypeInfo} {cs : List Value} {off : Nat} (he : FlatT P m e l0) (hi : P.info? e = some i) (hsz : i.size = l0.length) (hl : l0.length ≤ cs.length - off) :
    ∃ v, (part e ⟨cs⟩ off).run P w = .ok v w ∧ Wr P e v ((cs.drop off).take l0.length) := by
  cases m with
  | zero => exact he.elim
  | succ m =>
    rcases he with ⟨k, hu, rfl⟩ | ⟨hu, rfl⟩ | ⟨hu, rfl⟩ | ⟨n, e', l1, i', hu, _⟩ | ⟨fs, hu, _⟩
    · exact part_one hu (.inl ⟨_, rfl⟩) (by simp at hl; omega)
    · exact part_one hu (.inr (.inl rfl)) (by simp at hl; omega)
    · exact part_one hu (.inr (.inr rfl)) (by simp at hl; omega)
    · exact part_agg (.inl ⟨_, _, hu⟩) hi hsz
    · exact part_agg (.inr ⟨_, hu⟩) hi hsz
def EqF (P : Program) (d : Nat) (t : TypeId) (l : List FK) : Prop := ∀ (w : World) (xs ys : List Value) (x y : Value) (b : Bool), cellsEq l xs ys = some b → Wr P t x xs → Wr P t y ys → (Op.equalIn d t x y).run P w = .ok b w
theorem eqItems_ok {m d : Nat} {e : TypeId} {l0 : List FK} {i : TypeInfo} (he : FlatT P m e l0) (IH : EqF P d e l0) (hi : P.info? e = some i) (hsz : i.size = l0.length) {xs ys : List Value} :
    ∀ (n s : Nat) (b : Bool), cellsEq (List.replicate n l0).flatten (xs.drop (s * l0.length)) (ys.drop (s * l0.length)) = some b → (Op.eqItems d e l0.length ⟨xs⟩ ⟨ys⟩ (List.range' s n)).run P w = .ok b w
  | 0, s, b, h => by
    have : b = true := by
      generalize xs.drop (s * l0.length) = u at h
      generalize ys.drop (s * l0.length) = v at h
      cases u <;> cases v <;> first | (cases h; done) | (cases h; rfl)
    subst this
    simp [Op.eqItems]
  | n + 1, s, b, h => by
    rw [List.replicate_succ, List.flatten_cons] at h
    obtain ⟨b1, b2, h1, h2, rfl⟩ := cellsEq_app h
    obtain ⟨g1, g2⟩ := cellsEq_len h1
    rw [List.length_take, List.length_drop] at g1 g2
    rw [List.drop_drop, List.drop_drop, ← Nat.succ_mul] at h2
    obtain ⟨x, p1, q1⟩ := part_ok (w := w) (cs := xs) (off := s * l0.length) he hi hsz (by omega)
    obtain ⟨y, p2, q2⟩ := part_ok (w := w) (cs := ys) (off := s * l0.length) he hi hsz (by omega)
    have p3 := IH w _ _ x y b1 h1 q1 q2
    have p4 := eqItems_ok he IH hi hsz n (s + 1) b2 h2
    rw [List.range'_succ]
    simp only [Op.eqItems, Sem.run_bind, p1, p2, p3, Result.andThen_ok]
    cases b1
    · simp
    · simpa using p4
theorem eqFields_ok {m d : Nat} {xs ys : List Value} (IH : ∀ t l, FlatT P m t l → EqF P d t l) : ∀ (fs : List Field) (o : Nat) (l : List FK) (b : Bool), FlatFs (FlatT P m) P fs o l → cellsEq l (xs.drop o) (ys.drop o) = some b → (Op.eqFields d ⟨xs⟩ ⟨ys⟩ fs).run P w = .ok b w
  | [], o, l, b, hl, h => by
    have hl' : l = [] := hl
    subst hl'
    have : b = true := by
      generalize xs.drop o = u at h
      generalize ys.drop o = v at h
      cases u <;> cases v <;> first | (cases h; done) | (cases h; rfl)
    subst this
    simp [Op.eqFields]
  | f :: fs, o, l, b, hl, h => by
    obtain ⟨hn, ho, l0, r, i, hi, hsz, hf, hr, rfl⟩ := hl
    obtain ⟨b1, b2, h1, h2, rfl⟩ := cellsEq_app h
    obtain ⟨g1, g2⟩ := cellsEq_len h1
    rw [List.length_take, List.length_drop] at g1 g2
    rw [List.drop_drop, List.drop_drop] at h2
    obtain ⟨x, p1, q1⟩ := part_ok (w := w) (cs := xs) (off := o) hf hi hsz (by omega)
    obtain ⟨y, p2, q2⟩ := part_ok (w := w) (cs := ys) (off := o) hf hi hsz (by omega)
    have p3 := IH _ _ hf w _ _ x y b1 h1 q1 q2
    have p4 := eqFields_ok IH fs (o + l0.length) r b2 hr h2
    simp only [Op.eqFields, hn, ne_eq, not_false_eq_true, if_true, Sem.run_bind, ho, p1, p2, p3, Result.andThen_ok]
    cases b1
    · simp
    · simpa using p4
theorem cellEq_one {f : FK} {x y : Value} {b : Bool} (h : cellsEq [f] [x] [y] = some b) : cellEq f x y = some b := by
  obtain ⟨b1, b2, h1, h2, rfl⟩ := cellsEq_cons h
  have : b2 = true := by cases h2; rfl
  subst this
  simpa using h1
theorem str_beq (p q : ByteArray) : (p == q) = (p.data.toList == q.data.toList) := by
  obtain ⟨⟨x⟩⟩ := p
  obtain ⟨⟨y⟩⟩ := q
  show ((⟨x⟩ : Array UInt8) == ⟨y⟩) = (x == y)
  simp
theorem eqI_inv {k : IntKind} {x y : Value} {b : Bool} (h : eqI k x y = some b) : ∃ p q, x = .int k p ∧ y = .int k q ∧ b = (p == q) := by
  unfold eqI at h
  split at h
  · rename_i i p j q
    cases hk : ikeq k i <;> cases hk2 : ikeq k j <;> simp only [hk, hk2, Bool.and_false, Bool.and_true, Bool.and_self, cond_false, cond_true] at h <;> try (cases h; done)
    have e1 := ikeq_eq hk
    have e2 := ikeq_eq hk2
    subst e1; subst e2
    simp only [Option.some.injEq] at h
    exact ⟨p, q, rfl, rfl, by rw [← h, ieq_eq]⟩
  · cases h
theorem eqB_inv {x y : Value} {b : Bool} (h : eqB x y = some b) : ∃ p q, x = .bool p ∧ y = .bool q ∧ b = (p == q) := by
  unfold eqB at h
  split at h
  · rename_i p q
    simp only [Option.some.injEq] at h
    exact ⟨p, q, rfl, rfl, by subst h; cases p <;> cases q <;> rfl⟩
  · cases h
theorem eqS_inv {x y : Value} {b : Bool} (h : eqS x y = some b) : ∃ p q, x = .string p ∧ y = .string q ∧ b = (p == q) := by
  unfold eqS at h
  split at h
  · rename_i p q
    simp only [Option.some.injEq] at h
    exact ⟨p, q, rfl, rfl, by rw [← h, bytesEq_eq]; exact (str_beq p q).symm⟩
  · cases h
theorem eqF_ok : ∀ (m d : Nat) (t : TypeId) (l : List FK), FlatT P m t l → EqF P (d + m) t l
  | 0, _, _, _, h => h.elim
  | m + 1, d, t, l, h => by
    intro w xs ys x y b he hx hy
    rcases h with ⟨k, hu, rfl⟩ | ⟨hu, rfl⟩ | ⟨hu, rfl⟩ | ⟨n, e', l1, i', hu, hi, hsz, hf, rfl⟩ | ⟨fs, hu, hst, hf⟩
    · simp only [Wr, hu] at hx hy
      subst hx; subst hy
      obtain ⟨p, q, rfl, rfl, rfl⟩ := eqI_inv (cellEq_one he)
      rw [show d + (m + 1) = (d + m) + 1 from rfl]
      unfold Op.equalIn
      simp [Sem.run_bind, r_und hu, Result.andThen]
    · simp only [Wr, hu] at hx hy
      subst hx; subst hy
      obtain ⟨p, q, rfl, rfl, rfl⟩ := eqB_inv (cellEq_one he)
      rw [show d + (m + 1) = (d + m) + 1 from rfl]
      unfold Op.equalIn
      simp [Sem.run_bind, r_und hu, Result.andThen]
    · simp only [Wr, hu] at hx hy
      subst hx; subst hy
      obtain ⟨p, q, rfl, rfl, rfl⟩ := eqS_inv (cellEq_one he)
      rw [show d + (m + 1) = (d + m) + 1 from rfl]
      unfold Op.equalIn
      simp [Sem.run_bind, r_und hu, Result.andThen]
    · simp only [Wr, hu] at hx hy
      subst hx; subst hy
      rw [show d + (m + 1) = (d + m) + 1 from rfl, run_equalIn_array w (d + m) _ _ hu hi, List.range_eq_range']
      have hc : P.cellsOf e' = l1.length := by simp [Program.cellsOf, hi, hsz]
      rw [hc]
      exact eqItems_ok hf (eqF_ok m d e' l1 hf) hi hsz n 0 b (by simpa using he)
    · simp only [Wr, hu] at hx hy
      subst hx; subst hy
      have hfs : P.fieldsOf t = fs := by simp [Program.fieldsOf, hu]
      rw [show d + (m + 1) = (d + m) + 1 from rfl, run_equalIn_struct w (d + m) t _ _ (by rw [hfs]; exact hu) hst, hfs]
      exact eqFields_ok (fun t l ht => eqF_ok m d t l ht) fs.toList 0 l b hf (by simpa using he)
theorem guardType_no : ∀ (m d : Nat) (t : TypeId) (l : List FK), FlatT P m t l → P.eqGuardType (d + m) t = false
  | 0, _, _, _, h => h.elim
  | m + 1, d, t, l, h => by
    rw [show d + (m + 1) = (d + m) + 1 from rfl]
    unfold Program.eqGuardType
    rcases h with ⟨k, hu, rfl⟩ | ⟨hu, rfl⟩ | ⟨hu, rfl⟩ | ⟨n, e', l1, i', hu, hi, hsz, hf, rfl⟩ | ⟨fs, hu, hst, hf⟩
    · simp only [hu]
    · simp only [hu]
    · simp only [hu]
    · simp only [hu]; exact guardType_no m d e' l1 hf
    · simp only [hu]
      have key : ∀ (fs : List Field) (o : Nat) (l : List FK), FlatFs (FlatT P m) P fs o l → fs.any (fun f => f.name != "_" && P.eqGuardType (d + m) f.type) = false := by
        intro fs
        induction fs with
        | nil => intro o l _; rfl
        | cons f fs ih =>
          intro o l hl
          obtain ⟨hn, ho, l0, r, i, hi, hsz, hf, hr, rfl⟩ := hl
          rw [List.any_cons, ih _ _ hr, guardType_no m d f.type l0 hf]
          simp
      rw [← Array.any_toList]
      exact key _ _ _ hf
def ChkF (P : Program) (em : Bool) (d : Nat) (t : TypeId) (l : List FK) : Prop := ∀ (w : World) (xs ys : List Value) (x : Value) (b : Bool), cellsEq l xs ys = some b → Wr P t x xs → (Instr.checkKey em d t x).run P w = .ok () w
theorem chk_ok (em : Bool) : ∀ (m d : Nat) (t : TypeId) (l : List FK), FlatT P m t l → ChkF P em (d + m) t l
  | 0, _, _, _, h => h.elim
  | m + 1, d, t, l, h => by
    intro w xs ys x b he hx
    rcases h with ⟨k, hu, rfl⟩ | ⟨hu, rfl⟩ | ⟨hu, rfl⟩ | ⟨n, e', l1, i', hu, hi, hsz, hf, rfl⟩ | ⟨fs, hu, hst, hf⟩
    · rw [show d + (m + 1) = (d + m) + 1 from rfl, Instr.checkKey]
      simp [Sem.run_bind, r_und hu, Result.andThen]
    · rw [show d + (m + 1) = (d + m) + 1 from rfl, Instr.checkKey]
      simp [Sem.run_bind, r_und hu, Result.andThen]
    · rw [show d + (m + 1) = (d + m) + 1 from rfl, Instr.checkKey]
      simp [Sem.run_bind, r_und hu, Result.andThen]
    · simp only [Wr, hu] at hx
      subst hx
      rw [show d + (m + 1) = (d + m) + 1 from rfl, Instr.checkKey]
      simp only [Sem.run_bind, r_und hu, Result.andThen_ok]
      simp only [Std.Legacy.Range.forIn_eq_forIn_range', Std.Legacy.Range.size, Nat.sub_zero, Nat.add_one_sub_one, Nat.div_one]
      have hs : ∀ w, (sizeOf e').run P w = .ok l1.length w := fun w => by rw [run_sizeOf w hi]; simp [Program.cellsOf, hi, hsz]
      have key : ∀ (n s : Nat) (b : Bool), cellsEq (List.replicate n l1).flatten (xs.drop (s * l1.length)) (ys.drop (s * l1.length)) = some b →
          ((forIn (List.range' s n) PUnit.unit fun i _ => do
            Instr.checkKey em (d + m) e' (← part e' ⟨xs⟩ (i * (← sizeOf e')))
            pure (ForInStep.yield PUnit.unit) : Sem PUnit)).run P w = .ok PUnit.unit w := by
        intro n
        induction n with
        | zero => intro s b _; simp
        | succ n ih =>
          intro s b h
          rw [List.replicate_succ, List.flatten_cons] at h
          obtain ⟨b1, b2, h1, h2, rfl⟩ := cellsEq_app h
          obtain ⟨g1, g2⟩ := cellsEq_len h1
          rw [List.length_take, List.length_drop] at g1 g2
          rw [List.drop_drop, List.drop_drop, ← Nat.succ_mul] at h2
          obtain ⟨x, p1, q1⟩ := part_ok (w := w) (cs := xs) (off := s * l1.length) hf hi hsz (by omega)
          have p3 := chk_ok em m d e' l1 hf w _ _ x b1 h1 q1
          rw [List.range'_succ]
          simp only [List.forIn_cons, Sem.run_bind, hs, Result.andThen_ok, p1, p3, Sem.run_pure]
          exact ih (s + 1) b2 h2
      have := key n 0 b (by simpa using he)
      simp at this
      simp [this]
    · simp only [Wr, hu] at hx
      subst hx
      rw [show d + (m + 1) = (d + m) + 1 from rfl, Instr.checkKey]
      simp only [Sem.run_bind, r_und hu, Result.andThen_ok]
      rw [← Array.forIn_toList]
      have key : ∀ (fs : List Field) (o : Nat) (l : List FK) (b : Bool), FlatFs (FlatT P m) P fs o l → cellsEq l (xs.drop o) (ys.drop o) = some b →
          ((forIn fs PUnit.unit fun f _ => do
            if f.name ≠ "_" then Instr.checkKey em (d + m) f.type (← part f.type ⟨xs⟩ f.offset)
            pure (ForInStep.yield PUnit.unit) : Sem PUnit)).run P w = .ok PUnit.unit w := by
        intro fs
        induction fs with
        | nil => intro o l b _ _; simp
        | cons f fs ih =>
          intro o l b hl h
          obtain ⟨hn, ho, l0, r, i, hi, hsz, hf, hr, rfl⟩ := hl
          obtain ⟨b1, b2, h1, h2, rfl⟩ := cellsEq_app h
          obtain ⟨g1, g2⟩ := cellsEq_len h1
          rw [List.length_take, List.length_drop] at g1 g2
          rw [List.drop_drop, List.drop_drop] at h2
          obtain ⟨x, p1, q1⟩ := part_ok (w := w) (cs := xs) (off := o) hf hi hsz (by omega)
          have p3 := chk_ok em m d f.type l0 hf w _ _ x b1 h1 q1
          simp only [List.forIn_cons, Sem.run_bind, hn, ne_eq, not_false_eq_true, if_true, Result.andThen_ok, ho, p1, p3, Sem.run_pure]
          exact ih (o + l0.length) r b2 hr h2
      have := key fs.toList 0 l b hf (by simpa using he)
      simp at this
      simp [this]
def KKT (P : Program) (t : TypeId) (kk : KK) : Prop := match kk with
  | .one (.int k) => P.underlying t = some (.int k)
  | .one .bool => P.underlying t = some .bool
  | .one .str => P.underlying t = some .string
  | .wide l => ((∃ n e, P.underlying t = some (.array n e)) ∨ ∃ fs, P.underlying t = some (.struct fs)) ∧ ∃ m, m ≤ 8 ∧ FlatT P m t l
theorem keyK_ok {C : Ctx} (hC : C.OK) {t : TypeId} {kk : KK} (h : keyK C t = some kk) : KKT C.P t kk := by
  unfold keyK at h
  split at h
  · rename_i k hu; cases h; exact und_ok hC hu
  · rename_i hu; cases h; exact und_ok hC hu
  · rename_i hu; cases h; exact und_ok hC hu
  · rename_i fs hu
    split at h
    · rename_i l hl; cases h; exact ⟨.inr ⟨_, und_ok hC hu⟩, hC.fl _ _ hl⟩
    · cases h
  · rename_i n e hu
    split at h
    · rename_i l hl; cases h; exact ⟨.inl ⟨_, _, und_ok hC hu⟩, hC.fl _ _ hl⟩
    · cases h
  · cases h
theorem wideEq_inv {l : List FK} {x y : Value} {b : Bool} (h : wideEq l x y = some b) : ∃ xs ys, x = .agg ⟨xs⟩ ∧ y = .agg ⟨ys⟩ ∧ cellsEq l xs ys = some b := by
  unfold wideEq at h
  split at h
  · rename_i xs ys hx hy
    refine ⟨xs, ys, ?_, ?_, h⟩
    · unfold aggA at hx; split at hx <;> simp_all
    · unfold aggA at hy; split at hy <;> simp_all
  · cases h
theorem wr_agg {t : TypeId} {l : List FK} {xs : List Value} (h : KKT P t (.wide l)) : Wr P t (.agg ⟨xs⟩) xs := by
  obtain ⟨⟨n, e, hu⟩ | ⟨fs, hu⟩, _⟩ := h <;> simp [Wr, hu]
theorem wide_equal {t : TypeId} {l : List FK} {x y : Value} {b : Bool} (hk : KKT P t (.wide l)) (h : wideEq l x y = some b) : (Op.equal t x y).run P w = .ok b w := by
  obtain ⟨xs, ys, rfl, rfl, hc⟩ := wideEq_inv h
  have h1 := wr_agg (xs := xs) hk
  have h2 := wr_agg (xs := ys) hk
  obtain ⟨_, m, hm, hf⟩ := hk
  have := eqF_ok m (10000 - m) t l hf w xs ys _ _ b hc h1 h2
  rw [show 10000 - m + m = 10000 by omega] at this
  exact this
theorem plain_check {t : TypeId} {kk : KK} {em : Bool} {x : Value} (hk : KKT P t kk) (h : plainKey kk x = true) : (Instr.checkKey em 10000 t x).run P w = .ok () w := by
  unfold plainKey at h
  split at h
  · rename_i b hb
    cases kk with
    | one f =>
      cases f <;> (
        simp only [KKT] at hk
        rw [show 10000 = 9999 + 1 from rfl, Instr.checkKey]
        simp [Sem.run_bind, r_und hk, Result.andThen])
    | wide l =>
      have hb' : wideEq l x x = some b := hb
      obtain ⟨xs, ys, rfl, hy, hc⟩ := wideEq_inv hb'
      have h1 := wr_agg (xs := xs) hk
      obtain ⟨_, m, hm, hf⟩ := hk
      have := chk_ok em m (10000 - m) t l hf w xs ys _ b hc h1
      rw [show 10000 - m + m = 10000 by omega] at this
      exact this
  · cases h
theorem kfind_cons {kk : KK} {k : Value} {e : MapEntry} {l : List MapEntry} {i : Nat} {r : Option (Nat × Value)} (h : kfind kk k (e :: l) i = some r) : (flatEq kk k e.key = some true ∧ r = some (i, e.val)) ∨ (flatEq kk k e.key = some false ∧ kfind kk k l (i + 1) = some r) := by
  have h' : (match (generalizing := false) flatEq kk k e.key with
    | some true => some (some (i, e.val))
    | some false => kfind kk k l (Nat.succ i)
    | none => none) = some r := h
  split at h'
  · rename_i hc; cases h'; exact .inl ⟨hc, rfl⟩
  · rename_i hc; exact .inr ⟨hc, h'⟩
  · cases h'
theorem find_now {f : FK} {t : TypeId} {k : Value} {td : TypeDesc} (hk : KKT P t (.one f)) (ht : P.underlying t = some td) : ∀ (l : List MapEntry) (i : Nat) (r : Option (Nat × Value)), kfind (.one f) k l i = some r → Instr.findNow td k l i = some r
  | [], i, r, h => by cases h; rfl
  | e :: l, i, r, h => by
    have key : ∀ b, flatEq (.one f) k e.key = some b → Instr.sameNow td k e.key = some b := by
      intro b hb
      have hb' : cellEq f k e.key = some b := hb
      cases f with
      | int q =>
        simp only [KKT] at hk
        rw [hk] at ht; cases ht
        obtain ⟨p, q', h1, h2, rfl⟩ := eqI_inv hb'
        rw [h1, h2]; simp [Instr.sameNow]
      | bool =>
        simp only [KKT] at hk
        rw [hk] at ht; cases ht
        obtain ⟨p, q', h1, h2, rfl⟩ := eqB_inv hb'
        rw [h1, h2]; simp [Instr.sameNow]
      | str =>
        simp only [KKT] at hk
        rw [hk] at ht; cases ht
        obtain ⟨p, q', h1, h2, rfl⟩ := eqS_inv hb'
        rw [h1, h2]; simp [Instr.sameNow]
    rcases kfind_cons h with ⟨h1, rfl⟩ | ⟨h1, h2⟩
    · simp only [Instr.findNow, key _ h1]
    · simp only [Instr.findNow, key _ h1]
      exact find_now hk ht l (i + 1) r h2
theorem find_ask {t : TypeId} {ll : List FK} {k : Value} (hk : KKT P t (.wide ll)) : ∀ (l : List MapEntry) (i : Nat) (r : Option (Nat × Value)), kfind (.wide ll) k l i = some r → (Instr.findAsking t k l i).run P w = .ok r w
  | [], i, r, h => by cases h; simp [Instr.findAsking]
  | e :: l, i, r, h => by
    rcases kfind_cons h with ⟨h1, rfl⟩ | ⟨h1, h2⟩
    · simp [Instr.findAsking, Sem.run_bind, wide_equal hk h1, Result.andThen]
    · simp only [Instr.findAsking, Sem.run_bind, wide_equal hk h1, Result.andThen_ok, Bool.false_eq_true, if_false]
      exact find_ask hk l (i + 1) r h2
theorem find_ok {t : TypeId} {kk : KK} {k : Value} {l : List MapEntry} {r : Option (Nat × Value)} (hk : KKT P t kk) (h : kfind kk k l 0 = some r) : (Instr.findKey t k l).run P w = .ok r w := by
  unfold Instr.findKey
  cases kk with
  | one f =>
    have hu : ∃ td, P.underlying t = some td := by cases f <;> exact ⟨_, hk⟩
    obtain ⟨td, hu⟩ := hu
    simp only [Sem.run_bind, r_und hu, Result.andThen_ok, find_now hk hu l 0 r h, Sem.run_pure]
  | wide ll =>
    have h1 := find_ask (w := w) hk l 0 r h
    obtain ⟨hu, _⟩ := hk
    cases l with
    | nil =>
      cases h
      rcases hu with ⟨n, e, hu⟩ | ⟨fs, hu⟩ <;> simp [Sem.run_bind, r_und hu, Instr.findNow, Result.andThen]
    | cons e l =>
      rcases hu with ⟨n, e', hu⟩ | ⟨fs, hu⟩ <;> simp [Sem.run_bind, r_und hu, Instr.findNow, Instr.sameNow, Result.andThen, h1]
end
end Go.Proofs.YtmcbcoafodmbjaaGreatDoor.Ex
namespace Go.Proofs.YtmcbcoafodmbjaaGreatDoor.Ex
open Go Go.RowKit
set_option linter.unusedVariables false
set_option linter.unusedSimpArgs false
section
variable {C : Ctx} {B : Nat} {w0 : World} {e : Env} {st : St} {w : World} {s : Sl} {σ : Slots} {d : Option Tmp} {ty : TypeId} {pos : String} {after : Array Edge} {g : Option (Nat × Bool)}
theorem cellEq_same {f : FK} {x y x' y' : Value} {b : Bool} (h : cellEq f x y = some b) (hx : VR e x x') (hy : VR e y y') : x' = x ∧ y' = y := by
  cases f with
  | int k =>
    obtain ⟨p, q, rfl, rfl, _⟩ := eqI_inv (x := x) (y := y) h
    exact ⟨hx.int_inv, hy.int_inv⟩
  | bool =>
    obtain ⟨p, q, rfl, rfl, _⟩ := eqB_inv (x := x) (y := y) h
    exact ⟨hx.bool_inv, hy.bool_inv⟩
  | str =>
    obtain ⟨p, q, rfl, rfl, _⟩ := eqS_inv (x := x) (y := y) h
    exact ⟨hx.str_inv, hy.str_inv⟩
theorem cellsEq_same : ∀ {fs : List FK} {l m l' m' : List Value} {b : Bool}, cellsEq fs l m = some b → LR e l l' → LR e m m' → l' = l ∧ m' = m
  | [], [], [], l', m', b, h, hl, hm => ⟨hl.unnil, hm.unnil⟩
  | [], [], _ :: _, l', m', b, h, hl, hm => by cases h
  | [], _ :: _, _, l', m', b, h, hl, hm => by cases h
  | f :: fs, [], _, l', m', b, h, hl, hm => by cases h
  | f :: fs, _ :: _, [], l', m', b, h, hl, hm => by cases h
  | f :: fs, x :: l, y :: m, l', m', b, h, hl, hm => by
    obtain ⟨b1, b2, h1, h2, _⟩ := cellsEq_cons h
    obtain ⟨x', l2, rfl, hx, hl2⟩ := hl.uncons
    obtain ⟨y', m2, rfl, hy, hm2⟩ := hm.uncons
    obtain ⟨rfl, rfl⟩ := cellEq_same h1 hx hy
    obtain ⟨rfl, rfl⟩ := cellsEq_same h2 hl2 hm2
    exact ⟨rfl, rfl⟩
theorem wideEq_same {l : List FK} {x y x' y' : Value} {b : Bool} (h : wideEq l x y = some b) (hx : VR e x x') (hy : VR e y y') : x' = x ∧ y' = y := by
  obtain ⟨xs, ys, rfl, rfl, hc⟩ := wideEq_inv h
  obtain ⟨xs', rfl, h1⟩ := hx.agg_inv
  obtain ⟨ys', rfl, h2⟩ := hy.agg_inv
  obtain ⟨rfl, rfl⟩ := cellsEq_same hc h1 h2
  exact ⟨rfl, rfl⟩
theorem flatEq_same {kk : KK} {x y x' y' : Value} {b : Bool} (h : flatEq kk x y = some b) (hx : VR e x x') (hy : VR e y y') : x' = x ∧ y' = y := by
  cases kk with
  | one f => exact cellEq_same h hx hy
  | wide l => exact wideEq_same h hx hy
theorem g_wide {P : Program} {op : BinOp} {t : TypeId} {x y : Operand} {l : List FK} {a b : List Value} (hk : KKT P t (.wide l)) (hd : 8 ≤ P.depth) : (eqGuard op t x y (.agg ⟨a⟩) (.agg ⟨b⟩)).run P w = .ok () w := by
  obtain ⟨_, m, hm, hf⟩ := hk
  have h1 := guardType_no m (P.depth - m) t l hf
  rw [show P.depth - m + m = P.depth by omega] at h1
  unfold eqGuard
  cases op <;> simp [Sem.run_bind, h1, Result.andThen]
theorem y_eqF (hC : C.OK) {op : BinOp} {neg : Bool} {t u : TypeId} {x y : Operand} {l : List FK} {v : Value} (hop : op = cond neg .neq .eql) (hk : KKT C.P t (.wide l)) (h : iEqF neg l (evA s x) (evA s y) = some v) (hx : VR e (evA s x) (ev σ x)) (hy : VR e (evA s y) (ev σ y)) :
    Yie C e w σ ⟨d, .binOp op t x y u, ty, pos, after, g⟩ v := by
  unfold iEqF at h
  split at h
  · rename_i b hb
    simp only [Option.some.injEq] at h
    subst h
    obtain ⟨h1, h2⟩ := wideEq_same hb hx hy
    obtain ⟨xs, ys, e1, e2, hc⟩ := wideEq_inv hb
    rw [e1] at h1; rw [e2] at h2
    rw [e1, e2] at hb
    refine ⟨.bool (cond neg (!b) b), r_eq hop (by rw [h1, h2]; exact g_wide hk hC.deep) (by rw [h1, h2]; exact wide_equal hk hb) (fun o => binOp_eq t (by rw [h1]; intro _ _ h; cases h) (by rw [h1]; intro _ h; cases h) (by rw [h1]; intro _ _ h; cases h) (by rw [h1]; intro _ _ _ h; cases h) o), .bool _⟩
  · cases h
theorem MR.unnil {l : List MapEntry} (h : MR e [] l) : l = [] := List.eq_nil_of_length_eq_zero (by have := h.1; simp at this; omega)
theorem MR.uncons {a : MapEntry} {l m : List MapEntry} (h : MR e (a :: l) m) : ∃ a' l', m = a' :: l' ∧ VR e a.key a'.key ∧ VR e a.val a'.val ∧ a.born = a'.born ∧ MR e l l' := by
  cases m with
  | nil => have := h.1; simp at this
  | cons a' l' =>
    obtain ⟨h1, h2, h3⟩ := h.2 0 a a' rfl rfl
    exact ⟨a', l', rfl, h1, h2, h3, by have := h.1; simp at this; exact this, fun i x x' hx hx' => h.2 (i + 1) x x' (by simpa using hx) (by simpa using hx')⟩
theorem kfind_same {kk : KK} {k k' : Value} (hk : VR e k k') : ∀ {l l' : List MapEntry} {i : Nat} {r : Option (Nat × Value)}, kfind kk k l i = some r → MR e l l' →
    (r = none ∧ kfind kk k' l' i = some none) ∨ ∃ j v v', r = some (j, v) ∧ VR e v v' ∧ kfind kk k' l' i = some (some (j, v'))
  | [], l', i, r, h, hl => by
    cases h
    rw [hl.unnil]
    exact .inl ⟨rfl, rfl⟩
  | a :: l, l', i, r, h, hl => by
    obtain ⟨a', m, rfl, h1, h2, h3, hm⟩ := hl.uncons
    have step : kfind kk k' (a' :: m) i = (match flatEq kk k' a'.key with
      | some true => some (some (i, a'.val))
      | some false => kfind kk k' m (i + 1)
      | none => none) := rfl
    rcases kfind_cons h with ⟨hf, rfl⟩ | ⟨hf, hr⟩
    · obtain ⟨g1, g2⟩ := flatEq_same hf hk h1
      rw [step, g1, g2, hf]
      exact .inr ⟨i, a.val, a'.val, rfl, h2, rfl⟩
    · obtain ⟨g1, g2⟩ := flatEq_same hf hk h1
      have ih := kfind_same hk hr hm
      rw [g1] at ih
      rw [step, g1, g2, hf]
      exact ih
theorem plainKey_same {kk : KK} {k k' : Value} (h : plainKey kk k = true) (hk : VR e k k') : plainKey kk k' = true := by
  unfold plainKey at h ⊢
  split at h
  · rename_i b hb
    obtain ⟨g1, _⟩ := flatEq_same hb hk hk
    rw [g1, hb]
  · cases h
theorem r_lookup {t kt el : TypeId} {m k : Operand} {ok : Bool} {l : List MapEntry} {z : Value} {r : Option (Nat × Value)} {kk : KK} {i : TypeInfo} (ht : C.P.underlying t = some (.map kt el)) (hk : KKT C.P kt kk) (hi : C.P.info? el = some i) (hz : i.zero = some z)
    (hm : (ev σ m = .map none ∧ l = []) ∨ ∃ b c, ev σ m = .map (some b) ∧ w.heap[b]? = some (.map ⟨l⟩ c)) (hp : plainKey kk (ev σ k) = true) (hf : kfind kk (ev σ k) l 0 = some r) :
    (execOp (ev σ) ⟨d, .lookup t m k ok, ty, pos, after, g⟩).run C.P w = .ok (.value (match r with | some (_, v) => okA ok v true | none => okA ok z false)) w := by
  have h1 : ∀ em, (Instr.checkKey em 10000 kt (ev σ k)).run C.P w = .ok () w := fun em => plain_check hk hp
  have h2 := find_ok (w := w) hk hf
  rcases hm with ⟨hm, rfl⟩ | ⟨b, c, hm, hb⟩
  · rcases r with _ | ⟨j, v⟩ <;> cases ok <;>
      simp [execOp, Instr.lookup, hm, Sem.run_bind, r_und ht, Result.andThen, h1, h2, okA, r_zero hi hz]
  · have h3 := r_getObj (P := C.P) hb (by intro c e f h; cases h)
    rcases r with _ | ⟨j, v⟩ <;> cases ok <;>
      simp [execOp, Instr.lookup, hm, Sem.run_bind, r_und ht, Result.andThen, h1, h2, h3, okA, r_zero hi hz]
theorem map?_ok {b : Nat} {l : List MapEntry} {c : Nat} (hm : st.map? b = some (l, c)) : st.heap.get b = some (.obj (.map ⟨l⟩ c)) := by
  unfold St.map? at hm
  split at hm
  · rename_i l2 c2 hg; simp only [Option.some.injEq, Prod.mk.injEq] at hm; obtain ⟨rfl, rfl⟩ := hm; exact hg
  · cases hm
theorem okA_same {ok b : Bool} {v v' : Value} (h : VR e v v') : VR e (okA ok v b) (okA ok v' b) := by
  cases ok
  · exact h
  · exact .tuple_ (LR.cons h (LR.cons (.bool b) LR.nil))
theorem y_lookup (hR : Rel C B w0 e st w) {t kt el : TypeId} {m k : Operand} {ok : Bool} {z v : Value} {kk : KK} {i : TypeInfo} (ht : C.P.underlying t = some (.map kt el)) (hk : KKT C.P kt kk) (hi : C.P.info? el = some i) (hz : i.zero = some z) (hnf : VR e z z)
    (h : iLookup st kk ok z (evA s m) (evA s k) = some v) (hx : VR e (evA s m) (ev σ m)) (hy : VR e (evA s k) (ev σ k)) : Yie C e w σ ⟨d, .lookup t m k ok, ty, pos, after, g⟩ v := by
  unfold iLookup at h
  split at h
  · rename_i hv
    rw [hv] at hx
    cases hp : plainKey kk (evA s k) <;> rw [hp] at h
    · cases h
    · simp only [cond_true, Option.some.injEq] at h
      subst h
      generalize hσ : ev σ m = xv at hx
      cases hx with
      | nilm => exact ⟨_, r_lookup (l := []) (r := none) ht hk hi hz (.inl ⟨hσ, rfl⟩) (plainKey_same hp hy) rfl, okA_same hnf⟩
  · rename_i b hv
    rw [hv] at hx
    split at h
    · rename_i l c hm
      cases hp : plainKey kk (evA s k) <;> rw [hp] at h
      · cases h
      · simp only [cond_true] at h
        generalize hσ : ev σ m = xv at hx
        cases hx with
        | map hb =>
          obtain ⟨o', ho, hor⟩ := hR.obj_ (map?_ok hm) hb
          cases hor with
          | map _ hmr =>
            split at h
            · rename_i j v1 hf
              simp only [Option.some.injEq] at h
              subst h
              rcases kfind_same hy hf hmr with ⟨h9, _⟩ | ⟨j', v2, v2', h9, hvv, hf'⟩
              · cases h9
              · cases h9
                exact ⟨_, r_lookup ht hk hi hz (.inr ⟨_, _, hσ, ho⟩) (plainKey_same hp hy) hf', okA_same hvv⟩
            · rename_i hf
              simp only [Option.some.injEq] at h
              subst h
              rcases kfind_same hy hf hmr with ⟨_, hf'⟩ | ⟨j', v2, v2', h9, _⟩
              · exact ⟨_, r_lookup ht hk hi hz (.inr ⟨_, _, hσ, ho⟩) (plainKey_same hp hy) hf', okA_same hnf⟩
              · cases h9
            · cases h
    · cases h
  · cases h
end
end Go.Proofs.YtmcbcoafodmbjaaGreatDoor.Ex
