/-
  Texts joined: ExS2, ExS3, ExO.
-/
import Derived.Test.YtmcbcoafodmbjaaGreatDoorJoin06
namespace Go.Proofs.YtmcbcoafodmbjaaGreatDoor.Ex
open Go Go.RowKit
set_option linter.unusedVariables false
set_option linter.unusedSimpArgs false
section
variable {P : Program} {w : World} {ρ : Operand → Value} {d : Option Tmp} {ty : TypeId} {pos : String} {after : Array Edge} {g : Option (Nat × Bool)}
theorem r_size {t : TypeId} {i : TypeInfo} (h : P.info? t = some i) (w : World) : (sizeOf t).run P w = .ok i.size w := by simp [sizeOf, typeInfo, program, Sem.run, h]
theorem r_zero {t : TypeId} {i : TypeInfo} {z : Value} (h : P.info? t = some i) (hz : i.zero = some z) (w : World) : (zeroValue t).run P w = .ok z w := by simp [zeroValue, typeInfo, program, Sem.run, h, hz]
theorem r_und {t : TypeId} {u : TypeDesc} (h : P.underlying t = some u) (w : World) : (underlying t).run P w = .ok u w := run_underlying h w
theorem r_move (x : Operand) : (execOp ρ ⟨d, .move x, ty, pos, after, g⟩).run P w = .ok (.value (ρ x)) w := rfl
theorem r_assign (x : Operand) : (execOp ρ ⟨d, .assign x, ty, pos, after, g⟩).run P w = .ok (.value (ρ x)) w := rfl
theorem add_at (b o n : Nat) : (⟨b, o, none⟩ : Addr).add n = ⟨b, o + n, none⟩ := add_none b o n
theorem r_fieldAddr {t : TypeId} {x : Operand} {f : Nat} {fs : Array Field} {fd : Field} {i : TypeInfo} {b o : Nat} (hu : P.underlying t = some (.struct fs)) (hf : fs[f]? = some fd) (hi : P.info? fd.type = some i) (h0 : i.size ≠ 0) (hx : ρ x = .pointer (some ⟨b, o, none⟩)) :
    (execOp ρ ⟨d, .fieldAddr t x f, ty, pos, after, g⟩).run P w = .ok (.value (.pointer (some ⟨b, o + fd.offset, none⟩))) w := by
  simp only [execOp, hx, Instr.fieldAt, Sem.run_bind, r_und hu, Result.andThen, hf, Instr.sureAddr, fieldPlace, Sem.run_pure, r_size hi, h0, if_false, add_at]
theorem r_pick {c x y : Operand} {t : Bool} (hc : ρ c = .bool t) : (execOp ρ ⟨d, .pick c x y, ty, pos, after, g⟩).run P w = .ok (.value (cond t (ρ x) (ρ y))) w := by
  cases t <;> simp [execOp, hc, asBool, Result.andThen]
theorem r_nil {x : Operand} {a : Addr} (hx : ρ x = .pointer (some a)) : (execOp ρ ⟨d, .nilCheck x, ty, pos, after, g⟩).run P w = .ok (.value (.pointer (some a))) w := by
  simp [execOp, hx]
theorem r_extract {x : Operand} {i : Nat} {l : List Value} {v : Value} (hx : ρ x = .tuple ⟨l⟩) (hv : l[i]? = some v) : (execOp ρ ⟨d, .extract x i, ty, pos, after, g⟩).run P w = .ok (.value v) w := by
  have : (⟨l⟩ : Array Value)[i]? = some v := by simpa using hv
  simp [execOp, hx, Instr.extract, this, Result.andThen]
theorem r_not {t : TypeId} {x : Operand} {b : Bool} (hx : ρ x = .bool b) : (execOp ρ ⟨d, .unOp .not t x, ty, pos, after, g⟩).run P w = .ok (.value (.bool (!b))) w := by
  simp [execOp, hx, Op.unary, Result.andThen]
theorem r_conv {src dst : TypeId} {x : Operand} {k k' : IntKind} {n : Int} {u : TypeDesc} (hs : P.underlying src = some u) (hd : P.underlying dst = some (.int k)) (hx : ρ x = .int k' n) :
    (execOp ρ ⟨d, .convert src dst x, ty, pos, after, g⟩).run P w = .ok (.value (.int k (k.wrap n))) w := by
  simp only [execOp, hx, convert, Sem.run_bind, r_und hs, r_und hd, Result.andThen]
  cases u <;> simp [Conv.intToInt, Result.andThen]
theorem r_len {t : TypeId} {x : Operand} {e : TypeId} {a : Option Addr} {n c : Nat} (ht : P.underlying t = some (.slice e)) (hx : ρ x = .slice a n c) :
    (execOp ρ ⟨d, .call ⟨.builtin .len, ⟨[x]⟩, ⟨[t]⟩⟩, ty, pos, after, g⟩).run P w = .ok (.value (.int .i64 n)) w := by
  simp [execOp, resolve, invoke, builtin, Builtin.len_, hx, Sem.run_bind, r_und ht, Result.andThen, goInt]
theorem r_mapLen0 {t : TypeId} {x : Operand} {k e : TypeId} (ht : P.underlying t = some (.map k e)) (hx : ρ x = .map none) :
    (execOp ρ ⟨d, .call ⟨.builtin .len, ⟨[x]⟩, ⟨[t]⟩⟩, ty, pos, after, g⟩).run P w = .ok (.value (.int .i64 0)) w := by
  simp [execOp, resolve, invoke, builtin, Builtin.len_, hx, Sem.run_bind, r_und ht, Result.andThen, goInt]
theorem r_getObj {r : Nat} {o : Obj} (h : w.heap[r]? = some o) (ho : ∀ c e f, o ≠ .cells c e f) : (getObj r).run P w = .ok o w := by
  cases o <;> first | exact absurd rfl (ho _ _ _) | simp [getObj, Sem.run, h]
theorem r_setObj {r : Nat} {o o2 : Obj} (h : w.heap[r]? = some o) (ho : ∀ c e f, o ≠ .cells c e f) : (setObj r o2).run P w = .ok () (w.putObj r o2) := by
  cases o <;> first | exact absurd rfl (ho _ _ _) | (simp [setObj, Sem.run, h]; rfl)
theorem r_mapLen {t : TypeId} {x : Operand} {k e : TypeId} {r : Nat} {l : List MapEntry} {c : Nat} (ht : P.underlying t = some (.map k e)) (hx : ρ x = .map (some r)) (hr : w.heap[r]? = some (.map ⟨l⟩ c)) :
    (execOp ρ ⟨d, .call ⟨.builtin .len, ⟨[x]⟩, ⟨[t]⟩⟩, ty, pos, after, g⟩).run P w = .ok (.value (.int .i64 l.length)) w := by
  have := r_getObj (P := P) hr (by intro c e f h; cases h)
  simp [execOp, resolve, invoke, builtin, Builtin.len_, hx, Sem.run_bind, r_und ht, Result.andThen, goInt, this]
theorem r_cap {t : TypeId} {x : Operand} {e : TypeId} {a : Option Addr} {n c : Nat} (ht : P.underlying t = some (.slice e)) (hx : ρ x = .slice a n c) :
    (execOp ρ ⟨d, .call ⟨.builtin .cap, ⟨[x]⟩, ⟨[t]⟩⟩, ty, pos, after, g⟩).run P w = .ok (.value (.int .i64 c)) w := by
  simp [execOp, resolve, invoke, builtin, Builtin.cap_, hx, Sem.run_bind, r_und ht, Result.andThen, goInt]
theorem r_idxS {t : TypeId} {x i : Operand} {e : TypeId} {inf : TypeInfo} {b o n c j : Nat} {k : IntKind} (ht : P.underlying t = some (.slice e)) (hi : P.info? e = some inf) (hx : ρ x = .slice (some ⟨b, o, none⟩) n c) (hj : ρ i = .int k (Int.ofNat j)) (hlt : j < n) :
    (execOp ρ ⟨d, .indexAddr t x i, ty, pos, after, g⟩).run P w = .ok (.value (.pointer (some ⟨b, o + j * inf.size, none⟩))) w := by
  have h1 : (0 : Int) ≤ Int.ofNat j ∧ Int.ofNat j < (n : Int) := ⟨Int.natCast_nonneg _, by show (j : Int) < n; omega⟩
  simp only [execOp, hx, hj, Instr.indexAt, asIntOf, Sem.run_bind, Sem.run_pure, r_und ht, Result.andThen, h1, and_self, if_true, r_size hi, add_at]
  rfl
theorem r_idxP {t : TypeId} {x i : Operand} {e m : Nat} {inf : TypeInfo} {b o j : Nat} {k : IntKind} (ht : P.underlying t = some (.array m e)) (hi : P.info? e = some inf) (hx : ρ x = .pointer (some ⟨b, o, none⟩)) (hj : ρ i = .int k (Int.ofNat j)) (hlt : j < m) :
    (execOp ρ ⟨d, .indexAddr t x i, ty, pos, after, g⟩).run P w = .ok (.value (.pointer (some ⟨b, o + j * inf.size, none⟩))) w := by
  have h1 : (0 : Int) ≤ Int.ofNat j ∧ Int.ofNat j < (m : Int) := ⟨Int.natCast_nonneg _, by show (j : Int) < m; omega⟩
  simp only [execOp, hx, hj, Instr.indexAt, asIntOf, Instr.sureAddr, Sem.run_bind, Sem.run_pure, r_und ht, Result.andThen, h1, and_self, if_true, r_size hi, add_at]
  rfl
theorem r_iface {t : TypeId} {x : Operand} {u : TypeDesc} (ht : P.underlying t = some u) (hn : ∀ ms, u ≠ .interface ms) : (execOp ρ ⟨d, .makeInterface t x, ty, pos, after, g⟩).run P w = .ok (.value (.iface t (ρ x))) w := by
  simp only [execOp, Instr.makeInterface, Sem.run_bind, r_und ht, Result.andThen]
  cases u <;> first | rfl | exact absurd rfl (hn _)
theorem r_func {f : FuncId} {a b : List Operand} : (execOp ρ ⟨d, .makeFunc (.func f) ⟨a⟩ ⟨b⟩, ty, pos, after, g⟩).run P w = .ok (.value (.func (.func f) ⟨a.map ρ⟩ ⟨b.map ρ⟩)) w := by
  simp [execOp, Instr.makeFunc, Result.andThen]
theorem r_assertY {t t2 : TypeId} {x : Operand} {ok : Bool} {u : TypeDesc} {v : Value} (ht : P.underlying t = some u) (hn : ∀ ms, u ≠ .interface ms) (hx : ρ x = .iface t v) :
    (execOp ρ ⟨d, .typeAssert x t2 t ok, ty, pos, after, g⟩).run P w = .ok (.value (cond ok (.tuple ⟨[v, .bool true]⟩) v)) w := by
  simp only [execOp, hx, Instr.typeAssert, Sem.run_bind, r_und ht, Result.andThen]
  cases u <;> first | (exact absurd rfl (hn _)) | (cases ok <;> simp [Result.andThen])
theorem r_assertN {t t2 t3 : TypeId} {x : Operand} {u : TypeDesc} {v z : Value} {i : TypeInfo} (ht : P.underlying t = some u) (hn : ∀ ms, u ≠ .interface ms) (hi : P.info? t = some i) (hz : i.zero = some z) (hx : ρ x = .iface t3 v) (hne : t3 ≠ t) :
    (execOp ρ ⟨d, .typeAssert x t2 t true, ty, pos, after, g⟩).run P w = .ok (.value (.tuple ⟨[z, .bool false]⟩)) w := by
  simp only [execOp, hx, Instr.typeAssert, Sem.run_bind, r_und ht, Result.andThen]
  cases u <;> first | (exact absurd rfl (hn _)) | simp [Result.andThen, hne, r_zero hi hz]
theorem r_arrP {t : TypeId} {x : Operand} {m e : Nat} {a : Option Addr} {n c : Nat} (ht : P.underlying t = some (.array m e)) (hx : ρ x = .slice a n c) (hle : m ≤ n) : (execOp ρ ⟨d, .sliceToArrayPointer t x, ty, pos, after, g⟩).run P w = .ok (.value (.pointer a)) w := by
  have : ¬ n < m := by omega
  simp [execOp, hx, Instr.arrayAt, Sem.run_bind, r_und ht, Result.andThen, this]
/-! ## Two values held against each other -/
theorem r_eq {op : BinOp} {neg : Bool} {t u : TypeId} {x y : Operand} {b : Bool} (hop : op = cond neg .neq .eql) (hg : (eqGuard op t x y (ρ x) (ρ y)).run P w = .ok () w) (hb : (Op.equal t (ρ x) (ρ y)).run P w = .ok b w)
    (h : ∀ o, binOp o t (ρ x) (ρ y) = (match o with | .eql => do pure (.bool (← Op.equal t (ρ x) (ρ y))) | .neq => do pure (.bool (!(← Op.equal t (ρ x) (ρ y)))) | o => binOp o t (ρ x) (ρ y))) :
    (execOp ρ ⟨d, .binOp op t x y u, ty, pos, after, g⟩).run P w = .ok (.value (.bool (cond neg (!b) b))) w := by
  subst hop
  cases neg
  · simp only [cond_false] at hg ⊢
    simp only [execOp, Sem.run_bind, hg, Result.andThen, h .eql, hb, Sem.run_pure]
  · simp only [cond_true] at hg ⊢
    simp only [execOp, Sem.run_bind, hg, Result.andThen, h .neq, hb, Sem.run_pure]
theorem g_other {op : BinOp} {t : TypeId} {x y : Operand} {a b : Value} (h1 : (a = .nilIface ∧ b = .nilIface) → False) (h2 : ∀ l m, a = .agg l → b = .agg m → False) : (eqGuard op t x y a b).run P w = .ok () w := by
  unfold eqGuard
  cases op <;> simp
  all_goals (cases a <;> cases b <;> first | (exact (h1 ⟨rfl, rfl⟩).elim) | (exact (h2 _ _ rfl rfl).elim) | simp)
theorem r_streq {neg : Bool} {t u : TypeId} {x y : Operand} {a b : ByteArray} (hx : ρ x = .string a) (hy : ρ y = .string b) :
    (execOp ρ ⟨d, .binOp (cond neg .neq .eql) t x y u, ty, pos, after, g⟩).run P w = .ok (.value (.bool (cond neg (!(a.toList == b.toList)) (a.toList == b.toList)))) w := by
  have hg : ∀ op, (eqGuard op t x y (.string a) (.string b)).run P w = .ok () w := fun op => g_other (by rintro ⟨h, _⟩; cases h) (by intro l m h; cases h)
  cases neg
  · simp only [cond_false, execOp, hx, hy, Sem.run_bind, hg, Result.andThen, binOp, Op.stringOp, Sem.run_pure]
  · simp only [cond_true, execOp, hx, hy, Sem.run_bind, hg, Result.andThen, binOp, Op.stringOp, Sem.run_pure]
theorem eq_one {n : Nat} {t : TypeId} {td : TypeDesc} {v w' : Value} {b : Bool} (ht : P.underlying t = some td) (h : eqA td v w' = some b) (hs : td ≠ .string) : (Op.equalIn (n + 1) t v w').run P w = .ok b w := by
  unfold eqA at h
  split at h
  · exact absurd rfl hs
  all_goals first
    | (cases h; done)
    | (simp only [Option.some.injEq] at h; subst h; unfold Op.equalIn; simp [Sem.run_bind, r_und ht, Result.andThen])
def NKof : TypeDesc → Option NK
  | .map _ _ => some .map
  | .func _ _ _ => some .func
  | .interface _ => some .iface
  | _ => none
theorem isNilM_inv {v : Value} {b : Bool} (h : isNilM v = some b) : (v = .map none ∧ b = true) ∨ ∃ m, v = .map (some m) ∧ b = false := by
  unfold isNilM at h
  split at h
  · cases h; exact .inl ⟨rfl, rfl⟩
  · cases h; exact .inr ⟨_, rfl, rfl⟩
  · cases h
theorem isNilF_inv {v : Value} {b : Bool} (h : isNilF v = some b) : (v = .nilFunc ∧ b = true) ∨ ∃ i c r, v = .func i c r ∧ b = false := by
  unfold isNilF at h
  split at h
  · cases h; exact .inl ⟨rfl, rfl⟩
  · cases h; exact .inr ⟨_, _, _, rfl, rfl⟩
  · cases h
theorem isNilI_inv {v : Value} {b : Bool} (h : isNilI v = some b) : (v = .nilIface ∧ b = true) ∨ ∃ t x, v = .iface t x ∧ b = false := by
  unfold isNilI at h
  split at h
  · cases h; exact .inl ⟨rfl, rfl⟩
  · cases h; exact .inr ⟨_, _, rfl, rfl⟩
  · cases h
theorem nil_one {n : Nat} {t : TypeId} {td : TypeDesc} {v w' : Value} {b : Bool} {k : NK} (ht : P.underlying t = some td) (hk : NKof td = some k) (h : isNilA k v = some b) (h0 : isNilA k w' = some true) :
    (Op.equalIn (n + 1) t v w').run P w = .ok b w ∧ (Op.equalIn (n + 1) t w' v).run P w = .ok b w := by
  cases k with
  | map =>
    have hd : ∃ a c, td = .map a c := by cases td <;> simp [NKof] at hk; exact ⟨_, _, rfl⟩
    obtain ⟨a, c, rfl⟩ := hd
    rcases isNilM_inv (v := w') h0 with ⟨rfl, _⟩ | ⟨_, _, h9⟩
    · rcases isNilM_inv (v := v) h with ⟨rfl, rfl⟩ | ⟨m, rfl, rfl⟩ <;> (unfold Op.equalIn; constructor <;> simp [Sem.run_bind, r_und ht, Result.andThen])
    · cases h9
  | func =>
    have hd : ∃ a c f, td = .func a c f := by cases td <;> simp [NKof] at hk; exact ⟨_, _, _, rfl⟩
    obtain ⟨a, c, f, rfl⟩ := hd
    rcases isNilF_inv (v := w') h0 with ⟨rfl, _⟩ | ⟨_, _, _, _, h9⟩
    · rcases isNilF_inv (v := v) h with ⟨rfl, rfl⟩ | ⟨i, m, r, rfl, rfl⟩ <;> (unfold Op.equalIn; constructor <;> simp [Sem.run_bind, r_und ht, Result.andThen])
    · cases h9
  | iface =>
    have hd : ∃ a, td = .interface a := by cases td <;> simp [NKof] at hk; exact ⟨_, rfl⟩
    obtain ⟨a, rfl⟩ := hd
    rcases isNilI_inv (v := w') h0 with ⟨rfl, _⟩ | ⟨_, _, _, h9⟩
    · rcases isNilI_inv (v := v) h with ⟨rfl, rfl⟩ | ⟨i, m, rfl, rfl⟩ <;> (unfold Op.equalIn; constructor <;> simp [Sem.run_bind, r_und ht, Result.andThen])
    · cases h9
end
end Go.Proofs.YtmcbcoafodmbjaaGreatDoor.Ex
namespace Go.Proofs.YtmcbcoafodmbjaaGreatDoor.Ex
open Go Go.RowKit
set_option linter.unusedVariables false
set_option linter.unusedSimpArgs false
section
variable {P : Program} {w : World} {ρ : Operand → Value} {d : Option Tmp} {ty : TypeId} {pos : String} {after : Array Edge} {g : Option (Nat × Bool)}
def NumO (ρ : Operand → Value) (d : Nat) (x : Option Operand) (n : Nat) : Prop := (x = none ∧ n = d) ∨ ∃ y k, x = some y ∧ ρ y = .int k (Int.ofNat n)
theorem run_bound {k : IntKind} {n y : Nat} {code : BoundsCode} (h : n ≤ y) : (Instr.sliceBound (.int k (Int.ofNat n)) y code).run P w = .ok n w := by
  have h1 : (0 : Int) ≤ Int.ofNat n ∧ Int.ofNat n ≤ (y : Int) := ⟨Int.natCast_nonneg _, by show (n : Int) ≤ y; omega⟩
  simp only [Instr.sliceBound, asIntOf, Sem.run_bind, Sem.run_pure, Result.andThen, h1, and_self, if_true]
  rfl
theorem run_boundN {k : IntKind} {n y : Nat} {code : BoundsCode} (h : n ≤ y) : (Instr.sliceBound (.int k (n : Int)) y code).run P w = .ok n w := run_bound h
theorem run_bounds {sl : Bool} {len cap l h : Nat} {lo hi : Option Operand} (hl : NumO ρ 0 lo l) (hh : NumO ρ len hi h) (h1 : l ≤ h) (h2 : h ≤ cap) :
    (Instr.sliceBounds sl len cap (lo.map ρ) (hi.map ρ) none).run P w = .ok (l, h, cap) w := by
  rcases hl with ⟨rfl, rfl⟩ | ⟨x, k, rfl, hx⟩ <;> rcases hh with ⟨rfl, rfl⟩ | ⟨y, k', rfl, hy⟩ <;>
    simp [Instr.sliceBounds, Sem.run_bind, Result.andThen, *, run_boundN h1, run_boundN h2]
theorem run_bounds3 {sl : Bool} {len cap l h m : Nat} {lo : Option Operand} {hi mx : Operand} {k k' : IntKind} (hl : NumO ρ 0 lo l) (hh : ρ hi = .int k (Int.ofNat h)) (hm : ρ mx = .int k' (Int.ofNat m)) (h1 : l ≤ h) (h2 : h ≤ m) (h3 : m ≤ cap) :
    (Instr.sliceBounds sl len cap (lo.map ρ) ((some hi).map ρ) ((some mx).map ρ)).run P w = .ok (l, h, m) w := by
  rcases hl with ⟨rfl, rfl⟩ | ⟨x, k, rfl, hx⟩ <;>
    simp [Instr.sliceBounds, Sem.run_bind, Result.andThen, *, run_boundN h1, run_boundN h2, run_boundN h3]
theorem r_slice {t e : TypeId} {x : Operand} {lo hi : Option Operand} {inf : TypeInfo} {a : Option Addr} {n c l h : Nat} (ht : P.underlying t = some (.slice e)) (hi' : P.info? e = some inf) (hx : ρ x = .slice a n c) (hl : NumO ρ 0 lo l) (hh : NumO ρ n hi h) (h1 : l ≤ h) (h2 : h ≤ c) :
    (execOp ρ ⟨d, .slice t x lo hi none, ty, pos, after, g⟩).run P w = .ok (.value (.slice (if c = l then a else a.map (·.add (l * inf.size))) (h - l) (c - l))) w := by
  simp only [execOp, hx, Instr.sliceAt, Sem.run_bind, r_und ht, Result.andThen, Instr.slice, Option.map_none, run_bounds hl hh h1 h2, r_size hi', Sem.run_pure]
theorem r_slice3 {t e : TypeId} {x : Operand} {lo : Option Operand} {hi mx : Operand} {k k' : IntKind} {inf : TypeInfo} {a : Option Addr} {n c l h m : Nat} (ht : P.underlying t = some (.slice e)) (hi' : P.info? e = some inf) (hx : ρ x = .slice a n c) (hl : NumO ρ 0 lo l) (hh : ρ hi = .int k (Int.ofNat h)) (hm : ρ mx = .int k' (Int.ofNat m)) (h1 : l ≤ h) (h2 : h ≤ m) (h3 : m ≤ c) :
    (execOp ρ ⟨d, .slice t x lo (some hi) (some mx), ty, pos, after, g⟩).run P w = .ok (.value (.slice (if m = l then a else a.map (·.add (l * inf.size))) (h - l) (m - l))) w := by
  have := run_bounds3 (P := P) (w := w) (sl := true) (len := n) hl hh hm h1 h2 h3
  simp only [execOp, hx, Instr.sliceAt, Sem.run_bind, r_und ht, Result.andThen, Instr.slice, this, r_size hi', Sem.run_pure]
theorem r_slicP {t : TypeId} {m e : Nat} {x : Operand} {lo hi : Option Operand} {inf : TypeInfo} {a : Addr} {l h : Nat} (ht : P.underlying t = some (.array m e)) (hi' : P.info? e = some inf) (hx : ρ x = .pointer (some a)) (hl : NumO ρ 0 lo l) (hh : NumO ρ m hi h) (h1 : l ≤ h) (h2 : h ≤ m) :
    (execOp ρ ⟨d, .slice t x lo hi none, ty, pos, after, g⟩).run P w = .ok (.value (.slice (some (if m = l then a else a.add (l * inf.size))) (h - l) (m - l))) w := by
  simp only [execOp, hx, Instr.sliceAt, Sem.run_bind, r_und ht, Result.andThen, Instr.sureAddr, Option.map_none, run_bounds hl hh h1 h2, r_size hi', Sem.run_pure]
theorem r_minmax {mx : Bool} {ts : Array TypeId} {x y : Operand} {k : IntKind} {a b : Int} (hx : ρ x = .int k a) (hy : ρ y = .int k b) :
    (execOp ρ ⟨d, .call ⟨.builtin (cond mx .max .min), ⟨[x, y]⟩, ts⟩, ty, pos, after, g⟩).run P w = .ok (.value (.int k (cond mx (cond (ilt a b) b a) (cond (ilt b a) b a)))) w := by
  cases mx
  · simp only [cond_false, ilt_eq]
    by_cases h : b < a <;> simp [execOp, resolve, invoke, builtin, Builtin.min_, Builtin.min2, hx, hy, Sem.run_bind, Result.andThen, h]
  · simp only [cond_true, ilt_eq]
    by_cases h : a < b <;> simp [execOp, resolve, invoke, builtin, Builtin.max_, Builtin.max2, hx, hy, Sem.run_bind, Result.andThen, h]
/-! ## Structs -/
theorem r_part1 {t : TypeId} {cs : List Value} {off : Nat} {v : Value} (hs : shapeOf P t = some none) (hv : cs[off]? = some v) : (part t ⟨cs⟩ off).run P w = .ok v w := by
  have : (⟨cs⟩ : Array Value)[off]? = some v := by simpa using hv
  simp [part, Sem.run_bind, run_isAgg hs, Result.andThen, this]
theorem r_partN {t : TypeId} {cs : List Value} {off n : Nat} (hs : shapeOf P t = some (some n)) : (part t ⟨cs⟩ off).run P w = .ok (.agg ⟨(cs.drop off).take n⟩) w := by
  have h := run_sizeOf_shape (w := w) hs
  simp only [part, Sem.run_bind, run_isAgg hs, Result.andThen, Option.isSome, if_true, h, Sem.run_pure, Option.getD_some]
  congr 2
  apply Array.ext'
  simp
theorem r_field1 {t : TypeId} {x : Operand} {f : Nat} {fs : Array Field} {fd : Field} {cs : List Value} {v : Value} (ht : P.underlying t = some (.struct fs)) (hf : fs[f]? = some fd) (hs : shapeOf P fd.type = some none) (hx : ρ x = .agg ⟨cs⟩) (hv : cs[fd.offset]? = some v) :
    (execOp ρ ⟨d, .field t x f, ty, pos, after, g⟩).run P w = .ok (.value v) w := by
  simp only [execOp, hx, Instr.field, Sem.run_bind, r_und ht, Result.andThen, hf, asAgg, Sem.run_pure, r_part1 hs hv]
theorem r_fieldN {t : TypeId} {x : Operand} {f : Nat} {fs : Array Field} {fd : Field} {cs : List Value} {n : Nat} (ht : P.underlying t = some (.struct fs)) (hf : fs[f]? = some fd) (hs : shapeOf P fd.type = some (some n)) (hx : ρ x = .agg ⟨cs⟩) :
    (execOp ρ ⟨d, .field t x f, ty, pos, after, g⟩).run P w = .ok (.value (.agg ⟨(cs.drop fd.offset).take n⟩)) w := by
  simp only [execOp, hx, Instr.field, Sem.run_bind, r_und ht, Result.andThen, hf, asAgg, Sem.run_pure, r_partN hs]
end
theorem fold_put (off : Nat) : ∀ (l : List Value) (k : Nat) (C : Array Value), off + k + l.length ≤ C.size → List.foldl (fun (cs : Array Value) (x : Value × Nat) => cs.setIfInBounds (off + x.2) x.1) C (l.zipIdx k) = (C.toList.take (off + k) ++ (l ++ C.toList.drop (off + k + l.length))).toArray
  | [], k, C, _ => by simp
  | v :: l, k, C, h => by
    simp only [List.length_cons] at h
    simp only [List.zipIdx_cons, List.foldl_cons]
    rw [fold_put off l (k + 1) (C.setIfInBounds (off + k) v) (by simp; omega)]
    congr 1
    have hi : off + k < C.toList.length := by simp; omega
    simp only [Array.toList_setIfInBounds, List.length_cons]
    rw [show off + (k + 1) = off + k + 1 by omega, List.take_add_one, List.take_set_of_le (Nat.le_refl _), List.getElem?_set_self hi, List.drop_set_of_lt (by omega), show off + k + 1 + l.length = off + k + (l.length + 1) by omega]
    simp
theorem fill_cons {place : Nat → Option (Nat × Nat)} {z : List Value} {i off size : Nat} {v : Value} {rest : List (Nat × Value)} (hp : place i = some (off, size)) (hs : v.cells.size = size) (hle : off + size ≤ z.length) :
    Instr.fill place ⟨z⟩ ((i, v) :: rest) = Instr.fill place ⟨lput z off v.cells.toList⟩ rest := by
  have h1 : ¬ (v.cells.size ≠ size) := by simp [hs]
  have h2 : ¬ (off + v.cells.size > (⟨z⟩ : Array Value).size) := by simp; omega
  have e : Array.foldl (fun (cs : Array Value) (x : Value × Nat) => cs.setIfInBounds (off + x.2) x.1) ⟨z⟩ v.cells.zipIdx = ⟨lput z off v.cells.toList⟩ := by
    rw [← Array.foldl_toList, Array.toList_zipIdx]
    have := fold_put off v.cells.toList 0 ⟨z⟩ (by simp; omega)
    rw [this, lput_at]
    simp
  have hif : (decide (v.cells.size ≠ size) || decide (off + v.cells.size > (⟨z⟩ : Array Value).size)) = false := by simp [hs]; omega
  rw [show Instr.fill place ⟨z⟩ ((i, v) :: rest) = (match place i with
    | none => none
    | some (off, size) => if (decide (v.cells.size ≠ size) || decide (off + v.cells.size > (⟨z⟩ : Array Value).size)) = true then none
      else Instr.fill place (v.cells.zipIdx.foldl (fun cs (c, j) => cs.setIfInBounds (off + j) c) ⟨z⟩) rest) from rfl, hp]
  simp only
  rw [if_neg (by rw [hif]; exact Bool.false_ne_true)]
  exact congrArg (fun q => Instr.fill place q rest) e
theorem one_cells {v : Value} (h : v.oneCell' = true) : v.cells = #[v] := by cases v <;> first | rfl | cases h
theorem cellsA_ok {e : Env} {v v' : Value} (h : VR e v v') : LR e (cellsA v) v'.cells.toList := by
  cases h with
  | agg ha h => exact ⟨ha, h⟩
  | any h1 h2 => rw [one_cells h2]; exact LR.cons (.any h1 h2) LR.nil
  | _ => exact LR.cons (by constructor <;> assumption) LR.nil
theorem LR.put {e : Env} {z z' vs vs' : List Value} (h : LR e z z') (off : Nat) (hv : LR e vs vs') : LR e (lput z off vs) (lput z' off vs') := by
  rw [lput_at, lput_at, hv.1]
  exact (h.take _).append (hv.append (h.drop _))
theorem fill_ok {C : Ctx} {e : Env} {s : Sl} {σ : Slots} {place : Nat → Option (Nat × Nat)} (fs : List Field) (hp : ∀ (i : Nat) (fd : Field) (inf : TypeInfo), fs[i]? = some fd → C.info fd.type = some inf → place i = some (fd.offset, inf.size)) :
    ∀ (parts : List (Nat × Operand)) (ps : List (Nat × Nat × Operand)) (z z' c : List Value), partsA C fs parts = some ps → (∀ p ∈ parts, VR e (evA s p.2) (ev σ p.2)) → LR e z z' → buildA s z ps = some c →
      ∃ c', Instr.fill place ⟨z'⟩ (parts.map fun p => (p.1, ev σ p.2)) = some ⟨c'⟩ ∧ LR e c c'
  | [], ps, z, z', c, h1, _, hz, h2 => by
    cases h1; cases h2
    exact ⟨z', rfl, hz⟩
  | p :: parts, ps, z, z', c, h1, hok, hz, h2 => by
    have h1' : (match partsA C fs parts, lget fs p.1 with
      | some r, some fd => (match C.info fd.type with | some i => some ((fd.offset, i.size, p.2) :: r) | none => none)
      | _, _ => none) = some ps := h1
    cases hr : partsA C fs parts with
    | none => rw [hr] at h1'; cases h1'
    | some r =>
      cases hf : lget fs p.1 with
      | none => rw [hr, hf] at h1'; cases h1'
      | some fd =>
        cases hi : C.info fd.type with
        | none => rw [hr, hf] at h1'; simp only [hi] at h1'; cases h1'
        | some inf =>
          rw [hr, hf] at h1'
          simp only [hi, Option.some.injEq] at h1'
          subst h1'
          rw [lget_eq] at hf
          have h2' : cond (Nat.beq (llen (cellsA (evA s p.2))) inf.size && Nat.ble (fd.offset + inf.size) (llen z)) (buildA s (lput z fd.offset (cellsA (evA s p.2))) r) none = some c := h2
          cases hb : (Nat.beq (llen (cellsA (evA s p.2))) inf.size && Nat.ble (fd.offset + inf.size) (llen z)) with
          | false => rw [hb] at h2'; cases h2'
          | true =>
            rw [hb] at h2'
            simp only [Bool.and_eq_true, llen_eq] at hb
            have hv := cellsA_ok (hok p List.mem_cons_self)
            have hsz : (ev σ p.2).cells.size = inf.size := by
              have := hv.1
              have h3 := Nat.eq_of_beq_eq_true hb.1
              have h4 : (ev σ p.2).cells.toList.length = (ev σ p.2).cells.size := by simp
              omega
            have hle := Nat.le_of_ble_eq_true hb.2
            obtain ⟨c', a, b⟩ := fill_ok fs hp parts r _ _ c hr (fun q hq => hok q (List.mem_cons_of_mem _ hq)) (hz.put fd.offset hv) h2'
            refine ⟨c', ?_, b⟩
            rw [List.map_cons, fill_cons (hp _ _ _ hf hi) hsz (by rw [← hz.1]; exact hle)]
            exact a
theorem mapM_places {C : Ctx} (hC : C.OK) : ∀ (fs : List Field), lall (fun f => match C.info f.type with | some _ => true | none => false) fs = true →
    ∃ pl, fs.mapM (fun f => (C.P.info? f.type).map fun i => (f.offset, i.size)) = some pl ∧ ∀ (i : Nat) (fd : Field) (inf : TypeInfo), fs[i]? = some fd → C.info fd.type = some inf → pl[i]? = some (fd.offset, inf.size)
  | [], _ => ⟨[], rfl, fun i fd inf h => by simp at h⟩
  | f :: fs, h => by
    rw [lall_eq] at h
    simp only [List.all_cons, Bool.and_eq_true] at h
    obtain ⟨pl, h1, h2⟩ := mapM_places hC fs (by rw [lall_eq]; exact h.2)
    cases hi : C.info f.type with
    | none => rw [hi] at h; cases h.1
    | some inf =>
      refine ⟨(f.offset, inf.size) :: pl, ?_, fun i fd inf2 hf hi2 => ?_⟩
      · simp [List.mapM_cons, info_ok hC hi, h1]
      · cases i with
        | zero => simp at hf; subst hf; rw [hi] at hi2; simp at hi2; subst hi2; rfl
        | succ i => simpa using h2 i fd inf2 (by simpa using hf) hi2
theorem lall_nf {e : Env} {l : List Value} (h : lall nf l = true) : LR e l l := by
  induction l with
  | nil => exact LR.nil
  | cons x l ih =>
    rw [lall_eq] at h
    simp only [List.all_cons, Bool.and_eq_true] at h
    exact LR.cons (nf_self h.1) (ih (by rw [lall_eq]; exact h.2))
end Go.Proofs.YtmcbcoafodmbjaaGreatDoor.Ex
namespace Go.Proofs.YtmcbcoafodmbjaaGreatDoor.Ex
open Go Go.RowKit
set_option linter.unusedVariables false
set_option linter.unusedSimpArgs false
variable {ro : Option Nat} {ds : List Deferred}
structure Fol (st : St) (e : Env) (st' : St) (e' : Env) : Prop where
  keep : Keep st e e'
  dom : ∀ b c, st.heap.get b = some c → ∃ c', st'.heap.get b = some c'
theorem Fol.refl (st : St) (e : Env) : Fol st e st e := ⟨fun _ _ _ => rfl, fun b c h => ⟨c, h⟩⟩
theorem Fol.trans {st st1 st2 : St} {e e1 e2 : Env} (h : Fol st e st1 e1) (k : Fol st1 e1 st2 e2) : Fol st e st2 e2 :=
  ⟨fun b c hb => let ⟨c', hc'⟩ := h.dom b c hb; (k.keep b c' hc').trans (h.keep b c hb), fun b c hb => let ⟨c', hc'⟩ := h.dom b c hb; k.dom b c' hc'⟩
theorem Fol.le {C : Ctx} {B : Nat} {w0 : World} {e e' : Env} {st st' : St} {w : World} (h : Rel C B w0 e st w) (hk : Fol st e st' e') : e.le e' := Keep.le h hk.keep
theorem Fol.put_ (st : St) (e : Env) (b : Nat) (c : Cel) : Fol st e (st.put b c) e := ⟨fun _ _ _ => rfl, fun b2 c2 h => by simp only [St.put, get_set]; split; exact ⟨_, rfl⟩; exact ⟨_, h⟩⟩
theorem Fol.new_ {C : Ctx} {B : Nat} {w0 : World} {e : Env} {st : St} {w : World} (hR : Rel C B w0 e st w) (c : Cel) (x : Bind) : Fol st e (st.new c) (e.upd st.next x) := by
  have hne : ∀ b c2, st.heap.get b = some c2 → b ≠ st.next := fun b c2 hb e1 => by subst e1; rw [hR.fresh _ (Nat.le_refl _)] at hb; cases hb
  refine ⟨fun b c2 hb => ?_, fun b c2 hb => ?_⟩
  · unfold Env.upd; rw [if_neg (hne b c2 hb)]
  · simp only [St.new, get_set, if_neg (hne b c2 hb)]; exact ⟨_, hb⟩
def PostA (C : Ctx) (B : Nat) (w0 : World) (st : St) (e : Env) (st' : St) (v : Value) : Kont := fun v' w' => ∃ e', Fol st e st' e' ∧ Rel C B w0 e' st' w' ∧ VR e' v v'
def CallOK (C : Ctx) (B : Nat) (w0 : World) (callF : CallF) : Prop := ∀ (t : Tgt) (args : List Value) (st : St) (v : Value) (st' : St), callF t args st = some (v, st') → ∀ (e : Env) (w : World) (args' : List Value), Rel C B w0 e st w → LR e args args' →
  match t with
  | .fn f => callE C.P f ⟨args'⟩ w (PostA C B w0 st e st' v)
  | .yield l => ∀ x, e l = some x → resE C.P ((Instr.yield x.blk ⟨args'⟩).run C.P w) (PostA C B w0 st e st' v)
def OpR (C : Ctx) (e : Env) (s : Sl) (σ : Slots) (o : Oper) : Prop := ∀ x ∈ o.op.operands.toList, okOpd C x = true → VR e (evA s x) (ev σ x)
theorem OpR.of {C : Ctx} {e : Env} {s : Sl} {σ : Slots} (hG : ∀ g, C.gl g = true → e g = some ⟨g, 0, 0⟩) (h : SlR e s σ) (o : Oper) : OpR C e s σ o := fun x _ hx => ev_ok hG h x hx
structure OpsOK (C : Ctx) (B : Nat) (w0 : World) (callF : CallF) : Prop where
  still : ∀ (o : Oper) (s : Sl) (σ : Slots) (st : St) (e : Env) (w : World) (v : Value), insCls (compK C o.op) = .still → insS C s o st (compK C o.op) = some v → Rel C B w0 e st w → OpR C e s σ o → ∃ v', (execOp (ev σ) o).run C.P w = .ok (.value v') w ∧ VR e v v'
  alloc : ∀ (o : Oper) (s : Sl) (σ : Slots) (e : Env) (c : Cel) (mk : Nat → Value), insCls (compK C o.op) = .alloc → insN C s o (compK C o.op) = some (c, mk) → OpR C e s σ o →
    ∀ (b : Nat) (w : World), e b = none → ∃ ob sh r v' w1, (w1 = w ∨ w1 = w.drew) ∧ (execOp (ev σ) o).run C.P w = .ok (.value v') (w1.alloc ob) ∧ CR C (e.upd b ⟨w.heap.size, sh, r⟩) ⟨w.heap.size, sh, r⟩ c (some ob) ∧ VR (e.upd b ⟨w.heap.size, sh, r⟩) (mk b) v'
  loud : ∀ (o : Oper) (s : Sl) (σ : Slots) (st st' : St) (e : Env) (w : World) (v : Value), insCls (compK C o.op) = .loud → insL C callF s o st (compK C o.op) = some (v, st') → Rel C B w0 e st w → OpR C e s σ o → resE C.P ((execOp (ev σ) o).run C.P w) (PostA C B w0 st e st' v)
section
variable {C : Ctx} {B : Nat} {w0 : World} {e : Env} {st : St} {w : World}
theorem putA_ok {n : Nat} {s s' : Sl} {σ : Slots} {d : Option Tmp} {v v' : Value} (h : putA n s d v = some s') (hs : SlR e s σ) (hv : VR e v v') : SlR e s' (put n σ d v') := by
  cases d with
  | none => simp only [putA, Option.some.injEq] at h; subst h; exact hs
  | some d =>
    simp only [putA] at h
    cases hb : Nat.blt d n with
    | false => rw [hb] at h; cases h
    | true =>
      rw [hb] at h
      simp only [cond_true, Option.some.injEq] at h
      subst h
      intro t
      have hlt : d < n := Nat.le_of_ble_eq_true hb
      rw [get_set]
      by_cases ht : t = d
      · subst ht; rw [if_pos rfl, put_same _ _ _ _ hlt]; exact hv
      · rw [if_neg ht, put_other _ _ _ _ _ ht]; exact hs t
theorem guard_ok {ops : List Oper} {s : Sl} {σ : Slots} (hs : SlR e s σ) (j : Nat) : VR e (guardA ops s j) (guardS ops.toArray σ j) := by
  unfold guardA guardS
  rw [lget_eq]
  simp only [List.getElem?_toArray]
  cases h : ops[j]? with
  | none => exact VR.undef_
  | some o =>
    obtain ⟨d, a1, a2, a3, a4, a5⟩ := o
    cases d with
    | none => exact VR.undef_
    | some d => exact hs d
theorem wanted_ok {n : Nat} {ops : List Oper} {s : Sl} {σ : Slots} {a : Act} {o : Oper} (hs : SlR e s σ) (hf : Fits n ds σ a) : wantedA ops s o.guard = Region.wanted o (yielded ops.toArray a.tmps) := by
  unfold Region.wanted
  cases hg : o.guard with
  | none => rfl
  | some jw =>
    obtain ⟨j, want⟩ := jw
    simp only [yielded_eq hf]
    have h := guard_ok (ops := ops) hs j
    simp only [wantedA]
    generalize guardA ops s j = v at h
    generalize guardS ops.toArray σ j = v' at h
    cases h with
    | bool b => cases b <;> cases want <;> rfl
    | any h1 h2 => cases v' <;> first | exact absurd rfl (h1 _) | (cases want <;> rfl)
    | _ => cases want <;> rfl
theorem Rel.drewOr {w1 : World} (h : Rel C B w0 e st w) (h1 : w1 = w ∨ w1 = w.drew) : Rel C B w0 e st w1 ∧ w1.heap.size = w.heap.size := by
  rcases h1 with rfl | rfl
  · exact ⟨h, rfl⟩
  · exact ⟨h.drew, rfl⟩
theorem opsA_ok {callF : CallF} (H : OpsOK C B w0 callF) {n : Nat} (all : List Oper) {Q : Exit → Act → World → Prop} {s' : Sl} {st' : St} : ∀ (l : List Oper) (s : Sl) (st : St) (e : Env) (w : World) (σ : Slots) (a : Act),
    opsA C callF n all l s st = some (s', st') → Rel C B w0 e st w → SlR e s σ → Fits n ds σ a →
    (∀ e' w' σ' a', Fol st e st' e' → Rel C B w0 e' st' w' → SlR e' s' σ' → Fits n ds σ' a' → Q .normal a' w') → wpListIn (fR ro) 0 C.P all.toArray Q l a w := by
  intro l
  induction l with
  | nil =>
    intro s st e w σ a h hR hs hf hQ
    cases h
    exact hQ e w σ a (Fol.refl _ _) hR hs hf
  | cons o rest ih =>
    intro s st e w σ a h hR hs hf hQ
    have h' : cond (wantedA all s o.guard)
        (match insCls (compK C o.op) with
        | .still => (match insS C s o st (compK C o.op) with
          | some v => (match putA n s o.dst v with | some s' => opsA C callF n all rest s' st | none => none)
          | none => none)
        | .alloc => (match insN C s o (compK C o.op) with
          | some (c, mk) => (match putA n s o.dst (mk st.next) with | some s' => opsA C callF n all rest s' (st.new c) | none => none)
          | none => none)
        | .loud => (match insL C callF s o st (compK C o.op) with
          | some (v, st') => (match putA n s o.dst v with | some s' => opsA C callF n all rest s' st' | none => none)
          | none => none))
        (match putA n s o.dst undefA with | some s' => opsA C callF n all rest s' st | none => none) = some (s', st') := h
    unfold wpListIn
    rw [wanted_ok hs hf] at h'
    cases hw : Region.wanted o (yielded all.toArray a.tmps) with
    | false =>
      rw [hw] at h'
      simp only [cond_false] at h'
      rw [if_neg (by simp)]
      cases hp : putA n s o.dst undefA with
      | none => rw [hp] at h'; cases h'
      | some s1 =>
        rw [hp] at h'
        exact ⟨fun f _ => trivial, ih s1 st e w _ _ h' hR (putA_ok hp hs VR.undef_) (hf.put _ _) hQ⟩
    | true =>
      rw [hw] at h'
      simp only [cond_true] at h'
      rw [if_pos rfl]
      cases hc : insCls (compK C o.op) with
      | still =>
        rw [hc] at h'
        simp only at h'
        cases hi : insS C s o st (compK C o.op) with
        | none => rw [hi] at h'; cases h'
        | some v =>
          rw [hi] at h'
          simp only at h'
          cases hp : putA n s o.dst v with
          | none => rw [hp] at h'; cases h'
          | some s1 =>
            rw [hp] at h'
            obtain ⟨v', hr, hv⟩ := H.still o s σ st e w v hc hi hR (.of hR.glob hs o)
            refine wpIn_of_resE (k := fun u w' => u = v' ∧ w' = w) (by rw [hf.eval, hr]; exact ⟨rfl, rfl⟩) ?_
            rintro u w' ⟨rfl, rfl⟩
            exact ih s1 st e w' _ _ h' hR (putA_ok hp hs hv) (hf.put _ _) hQ
      | alloc =>
        rw [hc] at h'
        simp only at h'
        cases hi : insN C s o (compK C o.op) with
        | none => rw [hi] at h'; cases h'
        | some cm =>
          obtain ⟨c, mk⟩ := cm
          rw [hi] at h'
          simp only at h'
          cases hp : putA n s o.dst (mk st.next) with
          | none => rw [hp] at h'; cases h'
          | some s1 =>
            rw [hp] at h'
            obtain ⟨ob, sh, r, v', w1, h1, hr, hcr, hv⟩ := H.alloc o s σ e c mk hc hi (.of hR.glob hs o) st.next w hR.next_none
            obtain ⟨hR1, hsz⟩ := hR.drewOr h1
            have hR2 := hR1.new_ c ob sh r (by rw [hsz]; exact hcr)
            rw [hsz] at hR2
            have hle := upd_le (x := ⟨w.heap.size, sh, r⟩) hR.next_none
            refine wpIn_of_resE (k := fun u w' => u = v' ∧ w' = w1.alloc ob) (by rw [hf.eval, hr]; exact ⟨rfl, rfl⟩) ?_
            rintro u w' ⟨rfl, rfl⟩
            refine ih s1 (st.new c) _ _ _ _ h' hR2 (putA_ok hp (hs.mono hle) hv) (hf.put _ _) fun e' w' σ' a' hk => hQ e' w' σ' a' ((Fol.new_ hR c _).trans hk)
      | loud =>
        rw [hc] at h'
        simp only at h'
        cases hi : insL C callF s o st (compK C o.op) with
        | none => rw [hi] at h'; cases h'
        | some vs =>
          obtain ⟨v, st1⟩ := vs
          rw [hi] at h'
          simp only at h'
          cases hp : putA n s o.dst v with
          | none => rw [hp] at h'; cases h'
          | some s1 =>
            rw [hp] at h'
            refine wpIn_of_resE (k := PostA C B w0 st e st1 v) (by rw [hf.eval]; exact H.loud o s σ st st1 e w v hc hi hR (.of hR.glob hs o)) ?_
            rintro u w' ⟨e1, hk1, hR1, hv⟩
            exact ih s1 st1 e1 w' _ _ h' hR1 (putA_ok hp (hs.mono (hk1.le hR)) hv) (hf.put _ _) fun e' w2 σ' a' hk => hQ e' w2 σ' a' (hk1.trans hk)
end
end Go.Proofs.YtmcbcoafodmbjaaGreatDoor.Ex
