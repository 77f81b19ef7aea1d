/-
  Texts joined: PShape, PHead, Cut.
-/
import Derived.Test.YtpmmfabendnhiaaDoorJoin13
namespace Go.Proofs.YtpmmfabendnhiaaDoor
open Go.RowKit
open Go.Lib (strCells byteCells decDigits)
set_option linter.unusedVariables false
set_option linter.unusedSimpArgs false
set_option maxRecDepth 10000
def shapeK : Nat → List UInt8
  | 1 => [110, 100]
  | 2 => [110, 100]
  | 3 => [110, 107, 100]
  | 4 => [110, 98, 100]
  | 5 => [107, 100]
  | 6 => [107]
  | 7 => [107]
  | 8 => [110, 116, 98]
  | 9 => [110, 107]
  | 10 => [110]
  | 11 => [110, 107]
  | _ => []
theorem noinit_shape : Tryd.prog.inits.idxOf? 39 = none := by kernel_rfl
theorem noinit_has : Tryd.prog.inits.idxOf? 56 = none := by kernel_rfl
theorem noinit_rnum : Tryd.prog.inits.idxOf? 73 = none := by kernel_rfl
theorem shape_any (k : Nat) (hk : k ≤ 11) (w : World) : Runs Tryd.prog 39 #[.int .i64 k] w (.tuple #[.string (strOf (nameK k)), .string (strOf (shapeK k))]) w := by
  refine runs_of_callE ?_
  rcases (by omega : k = 0 ∨ k = 1 ∨ k = 2 ∨ k = 3 ∨ k = 4 ∨ k = 5 ∨ k = 6 ∨ k = 7 ∨ k = 8 ∨ k = 9 ∨ k = 10 ∨ k = 11) with rfl | rfl | rfl | rfl | rfl | rfl | rfl | rfl | rfl | rfl | rfl | rfl
  all_goals
    refine calls_E Tryd.func39 rfl rfl rfl (Nat.le_of_ble_eq_true rfl) ?_
    simp [go_sem, IntWalk.iteOmega, IntWalk.toNatUp]
    exact ⟨rfl, rfl⟩
theorem shapeE (k : Nat) (hk : k ≤ 11) (w : World) (K : Kont) : callE Tryd.prog 39 #[.int .i64 k] w K = K (.tuple #[.string (strOf (nameK k)), .string (strOf (shapeK k))]) w := callE_eq noinit_shape (shape_any k hk w) K
theorem has_any (f : List UInt8) (hf : f.length ≤ 100) (c : UInt8) (w : World) : Runs Tryd.prog 56 #[.string (strOf f), .int .u8 (c.toNat : Int)] w (.bool (decide (c ∈ f))) w := by
  refine runs_of_callE ?_
  refine calls_E Tryd.func56 rfl rfl rfl (Nat.le_of_ble_eq_true rfl) ?_
  simp [go_sem, IntWalk.iteOmega, IntWalk.toNatUp]
  refine W_loop (fun s wr => ∃ i : Nat, i ≤ f.length ∧ s 0 = .string (strOf f) ∧ s 1 = .int .u8 (c.toNat : Int) ∧ s 5 = .int .i64 i ∧ c ∉ f.take i ∧ wr = w) (fun s _ => f.length - (intOf (s 5)).toNat) ?_ ?_
  · exact ⟨0, by omega, by simp [go_sem], by simp [go_sem], by simp [go_sem], by simp, rfl⟩
  · rintro s wr ⟨i, hi, e0, e1, e5, hn, rfl⟩
    by_cases hlt : i < f.length
    · have hlt' : (i : Int) < f.length := by omega
      have hidx := run_index_str (P := Tryd.prog) (w := wr) Tryd.underlying9 f i hlt
      have ht : f.take (i + 1) = f.take i ++ [f[i]] := take_digs hlt
      have hm : f[i] ∈ f := List.getElem_mem hlt
      generalize f[i] = x at *
      by_cases hx : x = c
      · subst hx
        have hd : decide (x ∈ f) = true := by simp [hm]
        simp [go_sem, IntWalk.iteOmega, IntWalk.toNatUp, e0, e1, e5, strOf_size, hlt', hidx, hd]
      · have hb : ((x.toNat : Int) == (c.toNat : Int)) = false := by
          simp
          intro e
          exact hx (UInt8.toNat_inj.1 (by omega))
        simp [go_sem, IntWalk.iteOmega, IntWalk.toNatUp, e0, e1, e5, strOf_size, hlt', hidx, hb]
        refine roundEnd.mk ⟨i + 1, by omega, by simp [go_sem, e0], by simp [go_sem, e1], by simp [go_sem], ?_, rfl⟩ ?_
        · rw [ht]
          simp only [List.mem_append, List.mem_singleton, not_or]
          exact ⟨hn, fun e => hx e.symm⟩
        · simp [go_sem, intOf]; omega
    · have hlt' : ¬ (i : Int) < f.length := by omega
      rw [List.take_of_length_le (by omega)] at hn
      have hd : decide (c ∈ f) = false := by simp [hn]
      simp [go_sem, IntWalk.iteOmega, IntWalk.toNatUp, e0, e1, e5, strOf_size, hlt', hd]
theorem hasE (f : List UInt8) (hf : f.length ≤ 100) (c : UInt8) (n : Int) (hc : n = (c.toNat : Int)) (w : World) (K : Kont) : callE Tryd.prog 56 #[.string (strOf f), .int .u8 n] w K = K (.bool (decide (c ∈ f))) w := by subst hc; exact callE_eq noinit_has (has_any f hf c w) K
def numB (b : Bool) (n : Int) : Bool := if b then may1 n else decide (n = 0)
theorem rnum_any (b : Bool) (n : Int) (w : World) : Runs Tryd.prog 73 #[.bool b, .int .i64 n] w (.bool (numB b n)) w := by
  refine runs_of_callE ?_
  cases b with
  | false =>
    refine calls_E Tryd.func73 rfl rfl rfl (Nat.le_of_ble_eq_true rfl) ?_
    simp [go_sem, IntWalk.iteOmega, IntWalk.toNatUp, numB]
    rfl
  | true =>
    refine calls_E Tryd.func73 rfl rfl rfl (Nat.le_of_ble_eq_true rfl) ?_
    by_cases h : 0 ≤ n
    · by_cases h2 : n ≤ 4611686018427387903
      · simp [go_sem, IntWalk.iteOmega, IntWalk.toNatUp, numB, may1, h, h2]
      · simp [go_sem, IntWalk.iteOmega, IntWalk.toNatUp, numB, may1, h, h2]
    · simp [go_sem, IntWalk.iteOmega, IntWalk.toNatUp, numB, may1, h]
theorem rnumE (b : Bool) (n : Int) (w : World) (K : Kont) : callE Tryd.prog 73 #[.bool b, .int .i64 n] w K = K (.bool (numB b n)) w := callE_eq noinit_rnum (rnum_any b n w) K
theorem shape_has : ∀ k : Fin 12, (shapeK k.val).length ≤ 100 ∧ decide ((110 : UInt8) ∈ shapeK k.val) = hN k.val ∧ decide ((116 : UInt8) ∈ shapeK k.val) = hT k.val ∧ decide ((107 : UInt8) ∈ shapeK k.val) = hK k.val ∧ decide ((98 : UInt8) ∈ shapeK k.val) = hB k.val ∧ decide ((100 : UInt8) ∈ shapeK k.val) = hD k.val := by decide
def checkR (k : Nat) (node to_ n : Int) (lb ld : Nat) : Bool :=
  decide (k ≠ 0) && numB (hN k) node && numB (hT k) to_ && numB (hK k) n && decide (lb ≤ 4009) && (hB k || decide (lb = 0)) && decide (ld ≤ 64) && (hD k || decide (ld = 0))
theorem numB_may (b : Bool) (n : Int) : numB b n = (may1 n && (b || decide (n = 0))) := by
  cases b with
  | true => simp [numB]
  | false =>
    by_cases h : n = 0
    · subst h; decide
    · simp [numB, h]
theorem check_R (k : Nat) (node to_ n : Int) (lb ld : Nat) : checkR k node to_ n lb ld = checkB k node to_ n lb ld := by
  unfold checkR checkB
  rw [numB_may, numB_may, numB_may]
  generalize may1 node = a
  generalize may1 to_ = b
  generalize may1 n = c
  generalize decide (lb ≤ 4009) = d
  generalize decide (ld ≤ 64) = e
  generalize (hN k || decide (node = 0)) = f
  generalize (hT k || decide (to_ = 0)) = g
  generalize (hK k || decide (n = 0)) = h
  generalize (hB k || decide (lb = 0)) = i
  generalize (hD k || decide (ld = 0)) = j
  generalize decide (k ≠ 0) = l
  cases a <;> cases b <;> cases c <;> cases d <;> cases e <;> cases f <;> cases g <;> cases h <;> cases i <;> cases j <;> cases l <;> rfl
def smallV (w : List UInt8) : Int := match numV w with
  | some n => if n ≤ maxStake then n else -1
  | none => -1
theorem small_any (x : List UInt8) (hx : x.length ≤ 50000) (w : World) : callE Tryd.prog 34 #[.string (strOf x)] w fun v w' => v = .int .i64 (smallV x) ∧ Below w.heap.size w w' := by
  refine calls_E Tryd.func34 rfl rfl rfl (Nat.le_of_ble_eq_true rfl) ?_
  simp [go_sem, IntWalk.iteOmega, IntWalk.toNatUp]
  refine callE_of (rnumber_any x hx w) ?_
  rintro _ w2 ⟨rfl, k2⟩
  unfold smallV numR
  cases hn : numV x with
  | none =>
    simp [go_sem, IntWalk.iteOmega, IntWalk.toNatUp]
    exact k2
  | some n =>
    have := numV_le hn
    by_cases h : n ≤ maxStake
    · have h' : ¬ (4611686018427387903 : Int) < n := by unfold maxStake at h; omega
      have f2 : IntKind.i64.wrap (n : Int) = n := IntWalk.i64_in _ (by unfold maxStake at h; omega)
      simp [go_sem, IntWalk.iteOmega, IntWalk.toNatUp, h', f2, h]
      exact k2
    · have h' : (4611686018427387903 : Int) < n := by unfold maxStake at h; omega
      simp [go_sem, IntWalk.iteOmega, IntWalk.toNatUp, h', h]
      exact k2
end Go.Proofs.YtpmmfabendnhiaaDoor
namespace Go.Proofs.YtpmmfabendnhiaaDoor
open Go.Lib (decDigits byteCells)
set_option linter.unusedVariables false
set_option linter.unusedSimpArgs false
/-- A plan: its 28 numbers, validators, Byzantine ones, first block's data, time. -/
structure PS where
  c : Nat → Nat
  vs : List (List UInt8 × Nat)
  byz : List Nat
  first : List UInt8
  now : Nat
def PS0 : PS := ⟨fun _ => 0, [], [], [], 0⟩
def hname : Nat → List UInt8
  | 1 => [112, 97, 114, 97, 109, 115]
  | 2 => [110, 111, 100, 101]
  | 3 => [103, 97, 116, 101]
  | 4 => [112, 101, 101, 114]
  | 5 => [119, 97, 105, 116]
  | 6 => [98, 101, 110, 99, 104]
  | 7 => [102, 105, 114, 115, 116]
  | 8 => [110, 111, 119]
  | _ => []
def hoff : Nat → Nat
  | 1 => 0
  | 2 => 4
  | 3 => 12
  | 4 => 17
  | 5 => 18
  | _ => 23
def hcnt : Nat → Nat
  | 1 => 4
  | 2 => 8
  | 3 => 5
  | 4 => 1
  | 5 => 5
  | 6 => 5
  | _ => 1
def dropT : Nat → Wds → Wds
  | 0, ws => ws
  | n + 1, ws => dropT n ws.tail
def nG (ws : Wds) (j : Nat) : Nat := (numT (dropT j ws)).getD 0
def okN : Nat → Wds → Bool
  | 0, ws => ws.isEmpty
  | n + 1, ws => (numT ws).isSome && okN n ws.tail
def badN : Nat → Wds → Bool → Bool
  | 0, _, b => b
  | n + 1, ws, b => badN n ws.tail (b || (numT ws).isNone)
theorem okN_bad : ∀ (n : Nat) (ws : Wds) (b : Bool), (!b && okN n ws) = (!(badN n ws b) && (dropT n ws).isEmpty)
  | 0, ws, b => rfl
  | n + 1, ws, b => by
    have ih := okN_bad n ws.tail (b || (numT ws).isNone)
    show (!b && ((numT ws).isSome && okN n ws.tail)) = (!(badN n ws.tail (b || (numT ws).isNone)) && (dropT n ws.tail).isEmpty)
    rw [← ih]
    cases b <;> cases numT ws <;> simp
def upd (c : Nat → Nat) (off n : Nat) (ws : Wds) : Nat → Nat := fun i => if off ≤ i ∧ i < off + n then nG ws (i - off) else c i
/-- One of the head's eight lines. -/
def headV (n : Nat) (l : List UInt8) (S : PS) : Option PS :=
  match wordsV l with
  | [] => none
  | w :: ws => if w = hname n then
      if n ≤ 6 then (if okN (hcnt n) ws then some { S with c := upd S.c (hoff n) (hcnt n) ws } else none)
      else if n = 7 then (match ws with
        | [x] => match bytesV x with
          | some b => if b.length ≤ 200 then some { S with first := b } else none
          | none => none
        | _ => none)
      else if okN 1 ws then some { S with now := nG ws 0 } else none
    else none
end Go.Proofs.YtpmmfabendnhiaaDoor
namespace Go.Proofs.YtpmmfabendnhiaaDoor
open Go.RowKit
set_option linter.unusedVariables false
theorem opsE_mono {P : Program} {n : Nat} {ops : Array Oper} {K K' : Slots → World → Prop} (hK : ∀ s w, K s w → K' s w) : ∀ (l : List Oper) (s : Slots) (w : World), opsE P n ops K l s w → opsE P n ops K' l s w := by
  intro l
  induction l with
  | nil => intro s w h; exact hK s w h
  | cons o rest ih =>
    intro s w h
    have hrun : resE P (opR P o s w) (fun v w' => opsE P n ops K rest (put n s o.dst v) w') → resE P (opR P o s w) (fun v w' => opsE P n ops K' rest (put n s o.dst v) w') := fun h => resE_mono h fun v w hk => ih _ _ hk
    unfold opsE at h ⊢
    cases hg : o.guard with
    | none => simp only [hg] at h ⊢; exact hrun h
    | some jw =>
      obtain ⟨j, want⟩ := jw
      simp only [hg] at h ⊢
      generalize guardS ops s j = g at h
      cases g with
      | bool b =>
        simp only at h ⊢
        split
        · rename_i e1; rw [if_pos e1] at h; exact hrun h
        · rename_i e1; rw [if_neg e1] at h; exact ih _ _ h
      | _ => simp only at h ⊢; exact ih _ _ h
theorem W_mono {P : Program} {n : Nat} {c : Code} {s : Slots} {w : World} {Q Q' : Exit → Slots → World → Prop} (hQ : ∀ e s w, Q e s w → Q' e s w) (h : W P n c s w Q) : W P n c s w Q' :=
  fun ro ds a hf => wpIn_mono (h ro ds a hf) fun e a' w' ⟨s', hf', hq⟩ => ⟨s', hf', hQ _ _ _ hq⟩
theorem E_mono {P : Program} {n : Nat} : ∀ (c : Code) (s : Slots) (w : World) (Q Q' : Exit → Slots → World → Prop), (∀ e s w, Q e s w → Q' e s w) → E P n c s w Q → E P n c s w Q' := by
  intro c
  induction c with
  | skip => intro s w Q Q' hQ h; exact hQ _ _ _ h
  | label l => intro s w Q Q' hQ h; exact hQ _ _ _ h
  | seq x y ihx ihy =>
    intro s w Q Q' hQ h
    refine ihx _ _ _ _ (fun e s w hq => ?_) h
    cases e with
    | normal => exact ihy _ _ _ _ hQ hq
    | _ => exact hQ _ _ _ hq
  | cond c x y ihx ihy =>
    intro s w Q Q' hQ h
    rcases h with ⟨hc, h⟩ | ⟨hc, h⟩
    · exact .inl ⟨hc, ihx _ _ _ _ hQ h⟩
    · exact .inr ⟨hc, ihy _ _ _ _ hQ h⟩
  | block id c ih =>
    intro s w Q Q' hQ h
    refine ih _ _ _ _ (fun e s w hq => ?_) h
    cases e with
    | exit i =>
      simp only [blockE] at hq ⊢
      split
      · rename_i e1; rw [if_pos e1] at hq; exact hQ _ _ _ hq
      · rename_i e1; rw [if_neg e1] at hq; exact hQ _ _ _ hq
    | _ => exact hQ _ _ _ hq
  | exit id => intro s w Q Q' hQ h; exact hQ _ _ _ h
  | ret => intro s w Q Q' hQ h; exact hQ _ _ _ h
  | region id ops draw =>
    intro s w Q Q' hQ h
    cases draw with
    | true => exact W_mono hQ h
    | false => exact opsE_mono (fun s w h => hQ _ _ _ h) _ _ _ h
  | loop c ih => intro s w Q Q' hQ h; exact W_mono hQ h
  | rangeFunc f p x y ihx ihy => intro s w Q Q' hQ h; exact W_mono hQ h
  | goto l => intro s w Q Q' hQ h; exact W_mono hQ h
  | scope c ih =>
    intro s w Q Q' hQ h
    refine ih _ _ _ _ (fun e s w hq => ?_) h
    cases e with
    | goto l => exact hq.elim
    | _ => exact hQ _ _ _ hq
  | refuse y => intro s w Q Q' hQ h; exact W_mono hQ h
/-- What holds at the cut: kept as it is till it is shown. -/
def atCut [b : Box (Slots → World → Prop)] (s : Slots) (w : World) : Prop := b.of s w
theorem atCut.mk {I : Slots → World → Prop} {s : Slots} {w : World} (h : I s w) : @atCut ⟨I⟩ s w := h
theorem atCut_congr {b : Box (Slots → World → Prop)} {s : Slots} {w w' : World} (h : w = w') : @atCut b s w = @atCut b s w' := by rw [h]
def cutE [b : Box (Slots → World → Prop)] (Q : Exit → Slots → World → Prop) : Exit → Slots → World → Prop
  | .normal, s, w => atCut s w
  | e, s, w => Q e s w
theorem cutE_congr {b : Box (Slots → World → Prop)} {Q : Exit → Slots → World → Prop} {e : Exit} {s : Slots} {w w' : World} (h : w = w') : @cutE b Q e s w = @cutE b Q e s w' := by rw [h]
attribute [congr] atCut_congr cutE_congr
section
variable (b : Box (Slots → World → Prop)) (Q : Exit → Slots → World → Prop) (s : Slots) (w : World)
@[go_sem] theorem cutE_normal : @cutE b Q .normal s w = @atCut b s w := propext Iff.rfl
@[go_sem] theorem cutE_exit (i : Nat) : @cutE b Q (.exit i) s w = Q (.exit i) s w := propext Iff.rfl
@[go_sem] theorem cutE_ret : @cutE b Q .ret s w = Q .ret s w := propext Iff.rfl
end
theorem condC_cut {P : Program} {n : Nat} {v : Value} {x y : Code} {s : Slots} {w : World} {Q : Exit → Slots → World → Prop} (I : Slots → World → Prop) (h1 : condC P n v x y s w (@cutE ⟨I⟩ Q)) (h2 : ∀ s w, I s w → Q .normal s w) : condC P n v x y s w Q := by
  have hm : ∀ e s w, @cutE ⟨I⟩ Q e s w → Q e s w := fun e s w h => by
    cases e with
    | normal => exact h2 s w h
    | _ => exact h
  rcases h1 with ⟨hc, h⟩ | ⟨hc, h⟩
  · exact .inl ⟨hc, E_mono _ _ _ _ _ hm h⟩
  · exact .inr ⟨hc, E_mono _ _ _ _ _ hm h⟩
theorem condN_cut {P : Program} {n i : Nat} {x y : Code} {s : Slots} {w : World} {Q : Exit → Slots → World → Prop} (I : Slots → World → Prop) (h1 : condN P n i x y s w (@cutE ⟨I⟩ Q)) (h2 : ∀ s w, I s w → Q .normal s w) : condN P n i x y s w Q := by
  have hm : ∀ e s w, @cutE ⟨I⟩ Q e s w → Q e s w := fun e s w h => by
    cases e with
    | normal => exact h2 s w h
    | _ => exact h
  unfold condN at h1 ⊢
  split
  · rename_i e; rw [if_pos e] at h1; exact E_mono _ _ _ _ _ hm h1
  · rename_i e; rw [if_neg e] at h1; exact E_mono _ _ _ _ _ hm h1
/-- A drawn region, or another piece, whose end is told once. -/
theorem W_cutE {P : Program} {n : Nat} {c : Code} {s : Slots} {w : World} {Q : Exit → Slots → World → Prop} (I : Slots → World → Prop) (h1 : W P n c s w (@cutE ⟨I⟩ Q)) (h2 : ∀ s w, I s w → Q .normal s w) : W P n c s w Q :=
  W_mono (fun e s w h => by
    cases e with
    | normal => exact h2 s w h
    | _ => exact h) h1
end Go.Proofs.YtpmmfabendnhiaaDoor
