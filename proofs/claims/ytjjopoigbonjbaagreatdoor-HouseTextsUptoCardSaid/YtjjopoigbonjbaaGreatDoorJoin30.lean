/-
  Texts joined: HText, Cut, HBld, HStr.
-/
import Derived.Test.YtjjopoigbonjbaaGreatDoorJoin29
import Derived.Lib.AppendStr
import Derived.Laws.BytesArg
import Derived.Lib.Builder
import Derived.Lib.UnsafeStr
import Derived.Test.YtjjopoigbonjbaaGreatDoorShelf
namespace Go.Proofs.YtjjopoigbonjbaaGreatDoor.Ho
open Go.RowKit
set_option linter.unusedVariables false
set_option linter.unusedSimpArgs false
set_option maxRecDepth 10000
def strOf (l : List UInt8) : ByteArray := ⟨l.toArray⟩
theorem strOf_size (l : List UInt8) : (strOf l).size = l.length := by simp [strOf, ByteArray.size]
theorem strOf_get (l : List UInt8) (i : Nat) (h : i < l.length) : (strOf l)[i]? = some (l[i]) := by
  have hs : i < (strOf l).size := by rw [strOf_size]; exact h
  rw [getElem?_pos (strOf l) i hs]
  rfl
theorem run_index_str {P : Program} {w : World} {t : TypeId} (ht : P.underlying t = some .string) (l : List UInt8) (i : Nat) (h : i < l.length) : (Instr.index t (.string (strOf l)) (.int .i64 i)).run P w = .ok (.int .u8 ((l[i]).toNat : Int)) w := by
  unfold Instr.index
  have h2 : (0 : Int) ≤ i := by omega
  simp only [Sem.run_bind, asIntOf, Sem.run_pure, Result.andThen_ok, run_underlying ht]
  rw [if_pos h2, Int.toNat_natCast, strOf_get l i h]
  rfl
theorem take_digs {l : List UInt8} {i : Nat} (h : i < l.length) : l.take (i + 1) = l.take i ++ [l[i]] := by
  rw [List.take_add_one, List.getElem?_eq_getElem h]; rfl
theorem strOf_app (a b : List UInt8) : strOf a ++ strOf b = strOf (a ++ b) := by
  apply ByteArray.ext
  simp [strOf]
theorem strOf_self (s : ByteArray) : strOf s.data.toList = s := by simp [strOf]
theorem str_ext {a b : List UInt8} : (strOf a).toList = (strOf b).toList ↔ a = b := by
  have key : ∀ l : List UInt8, (strOf l).toList = l := fun l => by rw [ByteArray.toList_eq]; simp [strOf]
  rw [key, key]
theorem strOf_take (l : List UInt8) (i : Nat) : (strOf l).extract 0 i = strOf (l.take i) := by
  apply ByteArray.ext
  simp [strOf, ByteArray.data_extract]
theorem strOf_drop (l : List UInt8) (i : Nat) : (strOf l).extract i l.length = strOf (l.drop i) := by
  apply ByteArray.ext
  simp [strOf, ByteArray.data_extract]
  exact List.take_of_length_le (by simp)
theorem strOf_part (l : List UInt8) (i j : Nat) : (strOf l).extract i j = strOf ((l.take j).drop i) := by
  apply ByteArray.ext
  simp [strOf, ByteArray.data_extract, List.drop_take]
theorem str_nil : (strOf []).toList = [] := by rw [ByteArray.toList_eq]; rfl
theorem bl_app (a b : List UInt8) : Lib.byteCells a ++ Lib.byteCells b = Lib.byteCells (a ++ b) := by simp [Lib.byteCells]
theorem bl_len (a : List UInt8) : (Lib.byteCells a).length = a.length := by simp [Lib.byteCells]
theorem bl_one : ∀ l : List UInt8, allOne (Lib.byteCells l) = true
  | [] => rfl
  | c :: l => by
    show (true && allOne (Lib.byteCells l)) = true
    rw [bl_one l]; rfl
theorem bl_at (l : List UInt8) (i : Nat) (h : i < l.length) : (Lib.byteCells l)[i]? = some (.int .u8 ((l[i]).toNat : Int)) := by
  simp [Lib.byteCells, h]
theorem append1E {w : World} {base n g : Nat} {v : Value} {xs : List UInt8} {k : Kont} (hown : w.ownsRow base 5 1 v n (Lib.byteCells xs)) (hbs : base ≤ w.heap.size) (c : UInt8) {T : TypeId}
    (hN : Blk w g T #[.int .u8 (c.toNat : Int)]) (hn : n + 1 ≤ 70368744177664) (hk : ∀ v' w', w'.ownsRow base 5 1 v' (n + 1) (Lib.byteCells (xs ++ [c])) → w.grownBy w' v.ownBlock → k v' w') :
    resE Tryz.prog (appendR Tryz.prog 50 50 50 v (.slice (some ⟨g, 0, none⟩) 1 1) w) k := by
  refine appendE base 5 1 1 Tryz.underlying50 el5 hown (m := 1) (news := Lib.byteCells [c]) ⟨by simp [Lib.byteCells], fun _ => ⟨_, 0, rfl, hN.lt, fun j u hu => by rw [hN.cell]; simpa [Lib.byteCells] using hu⟩⟩ (bl_one _) (by unfold maxLen; omega) (by omega) hbs ?_
  intro v' w' hown' hgr _
  exact hk v' w' (by rw [← bl_app]; exact hown') hgr
theorem stringE {w : World} {A : Option Addr} {c : Nat} (l : List UInt8) (h : Rd w 1 A l.length (Lib.byteCells l)) (hpos : 0 < l.length) {k : Kont} (hk : k (.string (strOf l)) w) :
    resE Tryz.prog (((convert 50 9 (.slice A l.length c)).run Tryz.prog w).andThen fun a w' => .ok (.value a) w') k := by
  have hs : (convert 50 9 (.slice A l.length c)).run Tryz.prog w = .ok (.string (strOf l)) w := by
    obtain ⟨b, o, rfl, hlt, hc⟩ := h.cells hpos
    rw [run_convert_bytes_arg w 50 5 Tryz.underlying50 Tryz.underlying5 b o l.length c (l.map fun x => (x.toNat : Int)) (by simp) (fun i hi => ?_) 9 Tryz.underlying9]
    · simp [strOfNums, strOf, Function.comp_def]
    · rw [hc i _ (bl_at l i hi)]
      simp [List.getElem?_eq_getElem hi]
  rw [hs]; exact hk
end Go.Proofs.YtjjopoigbonjbaaGreatDoor.Ho
namespace Go.Proofs.YtjjopoigbonjbaaGreatDoor
open Go.RowKit
set_option linter.unusedVariables false
theorem opsE_mono {P : Program} {n : Nat} {ops : Array Oper} {K K' : Slots → World → Prop} (hK : ∀ s w, K s w → K' s w) : ∀ (l : List Oper) (s : Slots) (w : World), opsE P n ops K l s w → opsE P n ops K' l s w := by
  intro l
  induction l with
  | nil => intro s w h; exact hK s w h
  | cons o rest ih =>
    intro s w h
    have hrun : resE P (opR P o s w) (fun v w' => opsE P n ops K rest (put n s o.dst v) w') → resE P (opR P o s w) (fun v w' => opsE P n ops K' rest (put n s o.dst v) w') := fun h => resE_mono h fun v w hk => ih _ _ hk
    unfold opsE at h ⊢
    cases hg : o.guard with
    | none => simp only [hg] at h ⊢; exact hrun h
    | some jw =>
      obtain ⟨j, want⟩ := jw
      simp only [hg] at h ⊢
      generalize guardS ops s j = g at h
      cases g with
      | bool b =>
        simp only at h ⊢
        split
        · rename_i e1; rw [if_pos e1] at h; exact hrun h
        · rename_i e1; rw [if_neg e1] at h; exact ih _ _ h
      | _ => simp only at h ⊢; exact ih _ _ h
theorem W_mono {P : Program} {n : Nat} {c : Code} {s : Slots} {w : World} {Q Q' : Exit → Slots → World → Prop} (hQ : ∀ e s w, Q e s w → Q' e s w) (h : W P n c s w Q) : W P n c s w Q' :=
  fun ro ds a hf => wpIn_mono (h ro ds a hf) fun e a' w' ⟨s', hf', hq⟩ => ⟨s', hf', hQ _ _ _ hq⟩
theorem E_mono {P : Program} {n : Nat} : ∀ (c : Code) (s : Slots) (w : World) (Q Q' : Exit → Slots → World → Prop), (∀ e s w, Q e s w → Q' e s w) → E P n c s w Q → E P n c s w Q' := by
  intro c
  induction c with
  | skip => intro s w Q Q' hQ h; exact hQ _ _ _ h
  | label l => intro s w Q Q' hQ h; exact hQ _ _ _ h
  | seq x y ihx ihy =>
    intro s w Q Q' hQ h
    refine ihx _ _ _ _ (fun e s w hq => ?_) h
    cases e with
    | normal => exact ihy _ _ _ _ hQ hq
    | _ => exact hQ _ _ _ hq
  | cond c x y ihx ihy =>
    intro s w Q Q' hQ h
    rcases h with ⟨hc, h⟩ | ⟨hc, h⟩
    · exact .inl ⟨hc, ihx _ _ _ _ hQ h⟩
    · exact .inr ⟨hc, ihy _ _ _ _ hQ h⟩
  | block id c ih =>
    intro s w Q Q' hQ h
    refine ih _ _ _ _ (fun e s w hq => ?_) h
    cases e with
    | exit i =>
      simp only [blockE] at hq ⊢
      split
      · rename_i e1; rw [if_pos e1] at hq; exact hQ _ _ _ hq
      · rename_i e1; rw [if_neg e1] at hq; exact hQ _ _ _ hq
    | _ => exact hQ _ _ _ hq
  | exit id => intro s w Q Q' hQ h; exact hQ _ _ _ h
  | ret => intro s w Q Q' hQ h; exact hQ _ _ _ h
  | region id ops draw =>
    intro s w Q Q' hQ h
    cases draw with
    | true => exact W_mono hQ h
    | false => exact opsE_mono (fun s w h => hQ _ _ _ h) _ _ _ h
  | loop c ih => intro s w Q Q' hQ h; exact W_mono hQ h
  | rangeFunc f p x y ihx ihy => intro s w Q Q' hQ h; exact W_mono hQ h
  | goto l => intro s w Q Q' hQ h; exact W_mono hQ h
  | scope c ih =>
    intro s w Q Q' hQ h
    refine ih _ _ _ _ (fun e s w hq => ?_) h
    cases e with
    | goto l => exact hq.elim
    | _ => exact hQ _ _ _ hq
  | refuse y => intro s w Q Q' hQ h; exact W_mono hQ h
/-- What holds at the cut: kept as it is till it is shown. -/
def atCut [b : Box (Slots → World → Prop)] (s : Slots) (w : World) : Prop := b.of s w
theorem atCut.mk {I : Slots → World → Prop} {s : Slots} {w : World} (h : I s w) : @atCut ⟨I⟩ s w := h
theorem atCut_congr {b : Box (Slots → World → Prop)} {s : Slots} {w w' : World} (h : w = w') : @atCut b s w = @atCut b s w' := by rw [h]
def cutE [b : Box (Slots → World → Prop)] (Q : Exit → Slots → World → Prop) : Exit → Slots → World → Prop
  | .normal, s, w => atCut s w
  | e, s, w => Q e s w
theorem cutE_congr {b : Box (Slots → World → Prop)} {Q : Exit → Slots → World → Prop} {e : Exit} {s : Slots} {w w' : World} (h : w = w') : @cutE b Q e s w = @cutE b Q e s w' := by rw [h]
attribute [congr] atCut_congr cutE_congr
section
variable (b : Box (Slots → World → Prop)) (Q : Exit → Slots → World → Prop) (s : Slots) (w : World)
@[go_sem] theorem cutE_normal : @cutE b Q .normal s w = @atCut b s w := propext Iff.rfl
@[go_sem] theorem cutE_exit (i : Nat) : @cutE b Q (.exit i) s w = Q (.exit i) s w := propext Iff.rfl
@[go_sem] theorem cutE_ret : @cutE b Q .ret s w = Q .ret s w := propext Iff.rfl
end
theorem condC_cut {P : Program} {n : Nat} {v : Value} {x y : Code} {s : Slots} {w : World} {Q : Exit → Slots → World → Prop} (I : Slots → World → Prop) (h1 : condC P n v x y s w (@cutE ⟨I⟩ Q)) (h2 : ∀ s w, I s w → Q .normal s w) : condC P n v x y s w Q := by
  have hm : ∀ e s w, @cutE ⟨I⟩ Q e s w → Q e s w := fun e s w h => by
    cases e with
    | normal => exact h2 s w h
    | _ => exact h
  rcases h1 with ⟨hc, h⟩ | ⟨hc, h⟩
  · exact .inl ⟨hc, E_mono _ _ _ _ _ hm h⟩
  · exact .inr ⟨hc, E_mono _ _ _ _ _ hm h⟩
theorem condN_cut {P : Program} {n i : Nat} {x y : Code} {s : Slots} {w : World} {Q : Exit → Slots → World → Prop} (I : Slots → World → Prop) (h1 : condN P n i x y s w (@cutE ⟨I⟩ Q)) (h2 : ∀ s w, I s w → Q .normal s w) : condN P n i x y s w Q := by
  have hm : ∀ e s w, @cutE ⟨I⟩ Q e s w → Q e s w := fun e s w h => by
    cases e with
    | normal => exact h2 s w h
    | _ => exact h
  unfold condN at h1 ⊢
  split
  · rename_i e; rw [if_pos e] at h1; exact E_mono _ _ _ _ _ hm h1
  · rename_i e; rw [if_neg e] at h1; exact E_mono _ _ _ _ _ hm h1
/-- A drawn region, or another piece, whose end is told once. -/
theorem W_cutE {P : Program} {n : Nat} {c : Code} {s : Slots} {w : World} {Q : Exit → Slots → World → Prop} (I : Slots → World → Prop) (h1 : W P n c s w (@cutE ⟨I⟩ Q)) (h2 : ∀ s w, I s w → Q .normal s w) : W P n c s w Q :=
  W_mono (fun e s w h => by
    cases e with
    | normal => exact h2 s w h
    | _ => exact h) h1
end Go.Proofs.YtjjopoigbonjbaaGreatDoor
namespace Go.Proofs.YtjjopoigbonjbaaGreatDoor.Ho
open Go.RowKit
set_option linter.unusedVariables false
set_option linter.unusedSimpArgs false
set_option maxRecDepth 10000
theorem appendSE {w : World} (base : Nat) {v : Value} {n : Nat} {xs : List UInt8} (hown : w.ownsRow base 5 1 v n (Lib.byteCells xs)) (s : List UInt8) (hn : n + s.length ≤ 70368744177664) (hbase : base ≤ w.heap.size) {k : Kont}
    (hk : ∀ v' w', w'.ownsRow base 5 1 v' (n + s.length) (Lib.byteCells (xs ++ s)) → w.grownBy w' v.ownBlock → k v' w') :
    resE Tryz.prog (appendR Tryz.prog 50 9 50 v (.string (strOf s)) w) k := by
  obtain ⟨i, z, hi, hz, hsz, hby, hzs, hpos⟩ := el5
  have hz0 : (Tryz.prog.info? 5).bind (·.zero) = some (.int .u8 0) := by kernel_rfl
  rw [hi] at hz0
  have hz0' : i.zero = some (.int .u8 0) := hz0
  obtain ⟨v', w', hr, h2, h3, _⟩ := Go.Lib.run_append_own_string (P := Tryz.prog) w base 50 9 50 5 i Tryz.underlying50 Tryz.underlying9 hi hz0' hsz hby v n (Lib.byteCells xs) hown (strOf s) (by rw [strOf_size]; unfold maxLen; omega) (by rw [strOf_size]; omega) hbase
  refine resE_append ⟨.value v', w', by rw [appendR, hr]; rfl, ?_⟩
  rw [strOf_size] at h2
  have e : Lib.strCells (strOf s) = Lib.byteCells s := rfl
  rw [e, bl_app] at h2
  exact hk v' w' h2 h3
/-- A text so far. -/
def LinesAt (w : World) (base b : Nat) (xs : List UInt8) : Prop :=
  base ≤ b ∧ ∃ p v, Blk w b 65 #[.pointer p, v] ∧ (p = none ∨ p = some ⟨b, 0, none⟩) ∧ w.ownsRow base 5 1 v xs.length (Lib.byteCells xs)
/-- All else is as it was. -/
def Oth (base b : Nat) (w w' : World) : Prop := Below base w w' ∧ ∀ g t cs, g ≠ b → t ≠ 5 → Blk w g t cs → Blk w' g t cs
theorem Oth.refl {base b : Nat} (w : World) : Oth base b w w := ⟨Below.refl _ _, fun _ _ _ _ _ h => h⟩
theorem Oth.trans {base b : Nat} {w1 w2 w3 : World} (h : Oth base b w1 w2) (k : Oth base b w2 w3) : Oth base b w1 w3 := ⟨h.1.trans k.1, fun g t cs h1 h2 h3 => k.2 g t cs h1 h2 (h.2 g t cs h1 h2 h3)⟩
theorem own_far {w w' : World} {B e size n : Nat} {v : Value} {xs : List Value} (h : w.ownsRow B e size v n xs) (hk : ∀ (k : Nat) (cs : Array Value), w.heap[k]? = some (Obj.cells cs e (0, 0)) → w'.heap[k]? = w.heap[k]?) : w'.ownsRow B e size v n xs := by
  obtain ⟨h0, h⟩ := h
  refine ⟨h0, ?_⟩
  rcases h with ⟨rfl, h⟩ | ⟨g, cap, cur, rfl, h1, h2, r⟩
  · exact .inl ⟨rfl, h⟩
  · exact .inr ⟨g, cap, cur, rfl, h1, (hk g cur h2).trans h2, r⟩
theorem Blk_ne' {w : World} {a b : Nat} {t t' : TypeId} {cs cs' : Array Value} (h : Blk w a t cs) (h' : Blk w b t' cs') (hne : t ≠ t') : a ≠ b := by
  rintro rfl
  have := h.symm.trans h'
  simp at this
  exact hne this.2
theorem Oth.set {base b : Nat} {w : World} {t : TypeId} {cs : Array Value} (hB : base ≤ b) (o : Nat) (u : Value) : Oth base b w (w.setCell ⟨b, o, none⟩ u) :=
  ⟨(Below.refl base w).setCell (p := ⟨b, o, none⟩) hB u, fun g t cs hg _ h => h.farCell hg u⟩
theorem Oth.grown {base b : Nat} {w w' : World} {v : Value} {n : Nat} {xs : List Value} (hown : w.ownsRow base 5 1 v n xs) (hB : base ≤ w.heap.size) (hg : w.grownBy w' v.ownBlock) : Oth base b w w' :=
  ⟨(Below.refl base w).grown hg hB fun k hk => (hown.lt k hk).1, fun g t cs _ ht h => (hg.block g h.lt fun e => row_ne hown h (fun e' => ht e'.symm) e.symm).trans h⟩
/-- The builder behind copyCheck: it knows its own place. -/
theorem copyCheck_any {w : World} {b : Nat} {p : Option Addr} {v : Value} (hb : Blk w b 65 #[.pointer p, v]) (hp : p = none ∨ p = some ⟨b, 0, none⟩) :
    callE Tryz.prog 77 #[.pointer (some ⟨b, 0, none⟩)] w fun u w' => u = .tuple #[] ∧ w' = w.setCell ⟨b, 0, none⟩ (.pointer (some ⟨b, 0, none⟩)) ∨ u = .tuple #[] ∧ w' = w ∧ p = some ⟨b, 0, none⟩ := by
  have c0 := hb.cell 0
  have f0 := hb.frozen 0
  have hlt := hb.lt
  have hsh : w.shape? b = some (65, 2) := by
    have : w.heap[b]? = some (.cells #[.pointer p, v] 65 (0, 0)) := hb
    simp [World.shape?, this]
  obtain ⟨j, hj, hjs⟩ := Option.map_eq_some_iff.1 (show (Tryz.prog.info? 63).map (·.size) = some 2 by kernel_rfl)
  have hto : (convert 61 251 (.pointer (some ⟨b, 0, none⟩))).run Tryz.prog w = .ok (.pointer (some ⟨b, 0, none⟩)) w :=
    Lib.run_to_unsafe w ⟨b, 0, none⟩ Tryz.underlying61 Tryz.underlying251 hj (by rw [hjs]; decide) hsh (Nat.zero_lt_succ 1)
  have hfrom : (convert 251 61 (.pointer (some ⟨b, 0, none⟩))).run Tryz.prog w = .ok (.pointer (some ⟨b, 0, none⟩)) w :=
    Lib.run_from_unsafe w ⟨b, 0, none⟩ Tryz.underlying251 Tryz.underlying61 hj hsh (by kernel_rfl)
  have hesc : (callFunc 117 #[.pointer (some ⟨b, 0, none⟩)]).run Tryz.prog w = .ok (.value (.pointer (some ⟨b, 0, none⟩))) w := by
    rw [run_callFunc_extern Tryz.func117 (by kernel_rfl) (by kernel_rfl) (by kernel_rfl) (e := Extern.AbiNoEscape.same) (by kernel_rfl), Lib.run_noEscape]
    rfl
  have hne := Lib.run_neq_ptr_same (P := Tryz.prog) w (tp := 61) ⟨b, 0, none⟩ Tryz.underlying61 hj
  refine calls_E Tryz.func77 rfl rfl rfl (Nat.le_of_ble_eq_true rfl) ?_
  rcases hp with rfl | rfl
  · simp [go_sem, IntWalk.iteOmega, IntWalk.toNatUp, c0, f0, hto, hfrom, hesc]
  · simp [go_sem, IntWalk.iteOmega, IntWalk.toNatUp, c0, f0, hto, hfrom, hesc, hne]
theorem used_any {w : World} {base b : Nat} {xs : List UInt8} (h : LinesAt w base b xs) :
    callE Tryz.prog 77 #[.pointer (some ⟨b, 0, none⟩)] w fun u w' => u = .tuple #[] ∧ Oth base b w w' ∧ ∃ v, Blk w' b 65 #[.pointer (some ⟨b, 0, none⟩), v] ∧ w'.ownsRow base 5 1 v xs.length (Lib.byteCells xs) := by
  obtain ⟨hB, p, v, hb, hp, hown⟩ := h
  refine callE_of (copyCheck_any hb hp) ?_
  intro u w' hu
  rcases hu with ⟨rfl, rfl⟩ | ⟨rfl, rfl, rfl⟩
  · refine ⟨rfl, Oth.set (t := 0) (cs := #[]) hB _ _, v, by simpa using Blk_set (o := 0) (v := .pointer (some ⟨b, 0, none⟩)) hb, own_far hown fun k cs hk => ?_⟩
    have hne := Blk_ne' (t := 5) hk hb (by decide)
    exact ((show Blk w k 5 cs from hk).farCell hne _).trans hk.symm
  · exact ⟨rfl, Oth.refl _, v, hb, hown⟩
theorem written {w w1 w2 : World} {base b : Nat} {v v' : Value} {ys : List UInt8} {n : Nat} (hB : base ≤ b) (k1 : Oth base b w w1) (k2 : Oth base b w1 w2) (hb2 : Blk w2 b 65 #[.pointer (some ⟨b, 0, none⟩), v]) (own2 : w2.ownsRow base 5 1 v' n (Lib.byteCells ys)) :
    LinesAt (w2.setCell ⟨b, 1, none⟩ v') base b ys ∧ Oth base b w (w2.setCell ⟨b, 1, none⟩ v') := by
  have hn : n = ys.length := by have := own2.1; simpa [bl_len] using this.symm
  subst hn
  refine ⟨⟨hB, some ⟨b, 0, none⟩, v', by simpa using Blk_set (o := 1) (v := v') hb2, .inr rfl, own_far own2 fun k cs hk => ?_⟩, (k1.trans k2).trans (Oth.set (t := 0) (cs := #[]) hB _ _)⟩
  have hne := Blk_ne' (t := 5) hk hb2 (by decide)
  exact ((show Blk w2 k 5 cs from hk).farCell hne _).trans hk.symm
theorem writeString_any {w : World} {base b : Nat} {xs : List UInt8} (h : LinesAt w base b xs) (s : List UInt8) (hn : xs.length + s.length ≤ 70368744177664) :
    callE Tryz.prog 38 #[.pointer (some ⟨b, 0, none⟩), .string (strOf s)] w fun u w' => LinesAt w' base b (xs ++ s) ∧ Oth base b w w' := by
  have hB := h.1
  refine calls_E Tryz.func38 rfl rfl rfl (Nat.le_of_ble_eq_true rfl) ?_
  simp [go_sem, IntWalk.iteOmega, IntWalk.toNatUp]
  refine callE_of (used_any h) ?_
  rintro _ w1 ⟨rfl, k1, v, hb, hown⟩
  have c1 := hb.cell 1
  have hlt := hb.lt
  simp [go_sem, IntWalk.iteOmega, IntWalk.toNatUp, c1]
  refine appendSE base hown s hn (by omega) ?_
  intro v' w2 own2 g2
  have k2 : Oth base b w1 w2 := Oth.grown hown (by omega) g2
  have hb2 : Blk w2 b 65 #[.pointer (some ⟨b, 0, none⟩), v] := (g2.block b hlt fun e => row_ne hown hb (by decide) e.symm).trans hb
  have f1 := hb2.frozen 1
  have c2 := hb2.cell 1
  have l2 := hb2.lt
  obtain ⟨A, c, rfl⟩ := (own_sl own2).2
  simp [go_sem, IntWalk.iteOmega, IntWalk.toNatUp, f1, l2, c2]
  exact written hB k1 k2 hb2 own2
theorem writeByte_any {w : World} {base b : Nat} {xs : List UInt8} (h : LinesAt w base b xs) (c : UInt8) (hn : xs.length + 1 ≤ 70368744177664) :
    callE Tryz.prog 40 #[.pointer (some ⟨b, 0, none⟩), .int .u8 (c.toNat : Int)] w fun u w' => LinesAt w' base b (xs ++ [c]) ∧ Oth base b w w' := by
  have hB := h.1
  refine calls_E Tryz.func40 rfl rfl rfl (Nat.le_of_ble_eq_true rfl) ?_
  simp [go_sem, IntWalk.iteOmega, IntWalk.toNatUp]
  refine callE_of (used_any h) ?_
  rintro _ w1 ⟨rfl, k1, v, hb, hown⟩
  have c1 := hb.cell 1
  have hlt := hb.lt
  simp [go_sem, IntWalk.iteOmega, IntWalk.toNatUp, c1]
  have kA : Oth base b w1 (w1.alloc (.cells #[.int .u8 (c.toNat : Int)] 5)) := ⟨(Below.refl base w1).alloc (by omega) _, fun g t cs _ _ h => h.more _⟩
  refine append1E (base := base) (w := w1.alloc (.cells #[.int .u8 (c.toNat : Int)] 5)) (row_below hown (ext_alloc w1 _)) (by simp; omega) c (Blk.self_ rfl) hn ?_
  intro v' w2 own2 g2
  have k2 := kA.trans (Oth.grown (row_below hown (ext_alloc w1 _)) (by simp; omega) g2)
  have hb1 := hb.more (.cells #[.int .u8 (c.toNat : Int)] 5)
  have hb2 : Blk w2 b 65 #[.pointer (some ⟨b, 0, none⟩), v] := (g2.block b hb1.lt fun e => row_ne (row_below hown (ext_alloc w1 _)) hb1 (by decide) e.symm).trans hb1
  have f1 := hb2.frozen 1
  have c2 := hb2.cell 1
  have l2 := hb2.lt
  obtain ⟨A, c', rfl⟩ := (own_sl own2).2
  simp [go_sem, IntWalk.iteOmega, IntWalk.toNatUp, f1, l2, c2]
  exact written hB k1 k2 hb2 (by simpa using own2)
end Go.Proofs.YtjjopoigbonjbaaGreatDoor.Ho
namespace Go.Proofs.YtjjopoigbonjbaaGreatDoor.Ho
open Go.RowKit
set_option linter.unusedVariables false
set_option linter.unusedSimpArgs false
set_option maxRecDepth 10000
theorem string_any {w : World} {base b : Nat} {xs : List UInt8} (h : LinesAt w base b xs) (h0 : xs ≠ []) :
    callE Tryz.prog 17 #[.pointer (some ⟨b, 0, none⟩)] w fun u w' => u = .string (strOf xs) ∧ Below base w w' := by
  obtain ⟨hB, p, v, hb, hp, hown⟩ := h
  have hl0 : xs.length ≠ 0 := by simpa using h0
  obtain ⟨g, cap, cur, rfl, hbg, hg, hnc, hcm, hcs, htake⟩ : ∃ g cap cur, v = .slice (some ⟨g, 0, none⟩) xs.length cap ∧ base ≤ g ∧ w.heap[g]? = some (.cells cur 5 (0, 0)) ∧ xs.length ≤ cap ∧ cap ≤ maxLen ∧ cur.size = cap * 1 ∧ cur.toList.take (xs.length * 1) = Lib.byteCells xs := by
    rcases hown.2 with ⟨_, hz⟩ | ⟨g, cap, cur, hv, r⟩
    · exact absurd hz hl0
    · exact ⟨g, cap, cur, hv, r⟩
  have c1 : w.drew.cell? ⟨b, 1, none⟩ = some (.slice (some ⟨g, 0, none⟩) xs.length cap) := hb.drew.cell 1
  have hSD : (Builtin.unsafeSliceData_ #[50] 109 #[.slice (some ⟨g, 0, none⟩) xs.length cap]).run Tryz.prog w.drew = .ok (.pointer (some ⟨g, 0, none⟩)) w.drew :=
    Lib.run_unsafeSliceData_row _ _ _ _ _ _ (by omega)
  have hUS : (Builtin.unsafeString_ #[109, 3] 9 #[.pointer (some ⟨g, 0, none⟩), .int .i64 xs.length]).run Tryz.prog w.drew = .ok (.string (strOf xs)) (w.drew.freeze ⟨g, 0, none⟩ xs.length) := by
    refine Lib.run_unsafeString_row w.drew 109 3 9 5 Tryz.underlying109 (by kernel_rfl) g cur.size (by have hg' : w.drew.heap[g]? = some (.cells cur 5 (0, 0)) := hg; simp [World.shape?, hg']) xs h0 (by omega) (by unfold maxLen at hcm; omega) ?_
    intro j x hx
    have := hown.cells (g := g) rfl j (.int .u8 x.toNat) (by simp [Lib.byteCells, hx])
    exact this
  have hlt := hb.lt
  refine calls_E Tryz.func17 rfl rfl rfl (Nat.le_of_ble_eq_true rfl) ?_
  simp [go_sem, IntWalk.iteOmega, IntWalk.toNatUp]
  refine W_flow (fun j => j = b) (.pure 0 (.pure 1 (.pure 2 (.pure 3 (.pure 5 (.pure 6 (.pure 7 (.pure 8 (.pure 9 (.one 4 (.one 10 (.pure 11 (.done))))))))))))) follows (by kernel_rfl) ?_
  have hr := held_refl (fun j => j = b) w.drew
  have hlt' : b < w.drew.heap.size := hlt
  simp [go_sem, IntWalk.iteOmega, IntWalk.toNatUp, c1, hSD, hUS, hr, hlt, hlt']
  have hne := Blk_ne' (t := 5) (a := g) hg hb (by decide)
  refine ⟨⟨by simp [World.freeze]; split <;> simp, ?_⟩, Lib.below_freeze (Below.drew (Below.refl base w)) (p := ⟨g, 0, none⟩) hbg _⟩
  rintro j rfl _
  unfold World.freeze
  split
  · rfl
  · simp only [Array.getElem?_modify]
    rw [if_neg hne]
theorem LinesAt.on {w w' : World} {base b : Nat} {xs : List UInt8} (h : LinesAt w base b xs) (k : Below w.heap.size w w') : LinesAt w' base b xs := by
  obtain ⟨hB, p, v, hb, hp, hown⟩ := h
  exact ⟨hB, p, v, hb.keep k, hp, row_below hown k⟩
theorem Oth.of {w w' : World} {base b : Nat} (k : Below w.heap.size w w') (hB : base ≤ w.heap.size) : Oth base b w w' := ⟨k.mono hB, fun g t cs _ _ h => h.keep k⟩
theorem LinesAt.lt {w : World} {base b : Nat} {xs : List UInt8} (h : LinesAt w base b xs) : b < w.heap.size := by
  obtain ⟨_, p, v, hb, _⟩ := h
  exact hb.lt
theorem join_any (ws : List (List UInt8)) (g c : Nat) (w : World) (hg : g < w.heap.size) (hcells : ∀ (j : Nat) (x : List UInt8), ws[j]? = some x → w.cell? ⟨g, j, none⟩ = some (.string (strOf x))) (hc : ws.length ≤ c) (hl : (Lib.join ws [32]).length ≤ 140737488355328) (hw : ws.length ≤ 1000) :
    callE Tryz.prog 39 #[.slice (some ⟨g, 0, none⟩) ws.length c, .string ⟨#[32]⟩] w fun u w' => u = .string (strOf (Lib.join ws [32])) ∧ Below w.heap.size w w' := by
  have hm : (ws.map strOf).map (·.data.toList) = ws := by rw [List.map_map]; exact (List.map_congr_left fun x _ => by simp [strOf]).trans (List.map_id _)
  have hj := Tryz.strings_Join g 0 c (ws.map strOf) ⟨#[32]⟩ w (fun j x hx => by
    rw [List.getElem?_map] at hx
    cases hq : ws[j]? with
    | none => rw [hq] at hx; cases hx
    | some y => rw [hq] at hx; simp at hx; subst hx; rw [Nat.zero_add]; exact hcells j y hq) hg (by simp; omega) (by simpa using hc) (by rw [hm]; exact hl)
  rw [hm] at hj
  rw [List.length_map] at hj
  refine hj.mono ?_
  rintro e w' ⟨rfl, hb⟩
  exact ⟨_, rfl, rfl, hb⟩
/-- A line of words put behind a text. -/
theorem line_any {w : World} {base b : Nat} {xs : List UInt8} (h : LinesAt w base b xs) (ws : List (List UInt8)) (g c : Nat) (hg : g < w.heap.size) (hcells : ∀ (j : Nat) (x : List UInt8), ws[j]? = some x → w.cell? ⟨g, j, none⟩ = some (.string (strOf x))) (hc : ws.length ≤ c) (hpos : 0 < ws.length) (hn : xs.length + (Lib.join ws [32]).length + 1 ≤ 70368744177664) (hw : ws.length ≤ 1000) :
    callE Tryz.prog 13 #[.pointer (some ⟨b, 0, none⟩), .slice (some ⟨g, 0, none⟩) ws.length c] w fun u w' => LinesAt w' base b (xs ++ Lib.join ws [32] ++ [10]) ∧ Oth base b w w' := by
  have hB := h.1
  have hlt := h.lt
  refine calls_E Tryz.func13 rfl rfl rfl (Nat.le_of_ble_eq_true rfl) ?_
  simp [go_sem, IntWalk.iteOmega, IntWalk.toNatUp]
  refine W_flow (fun j => False) (.pure 0 (.pure 1 (.pure 2 (.pure 3 (.one 4 (.one 5 (.done))))))) follows (by kernel_rfl) ?_
  have hr := held_refl (fun j => False) w.drew
  simp [go_sem, IntWalk.iteOmega, IntWalk.toNatUp, hr]
  refine callE_of (join_any ws g c w.drew hg hcells hc (by omega) hw) ?_
  rintro _ w1 ⟨rfl, k1⟩
  have h1 : LinesAt w1 base b xs := (h.on (ext_drew w)).on k1
  have o1 : Oth base b w w1 := (Oth.of (ext_drew w) (by omega)).trans (Oth.of k1 (by have := k1.size; simp at this ⊢; omega))
  have hr1 : heldE (fun j => False) w.drew w1 := ⟨k1.size, fun _ h => h.elim⟩
  simp [go_sem, IntWalk.iteOmega, IntWalk.toNatUp, hr1]
  refine callE_of (writeString_any h1 (Lib.join ws [32]) (by omega)) ?_
  rintro _ w2 ⟨h2, o2⟩
  have hr2 : heldE (fun j => False) w.drew w2 := ⟨Nat.le_trans k1.size o2.1.size, fun _ h => h.elim⟩
  simp [go_sem, IntWalk.iteOmega, IntWalk.toNatUp, hr2]
  refine callE_of (writeByte_any h2 10 (by simp; omega)) ?_
  rintro _ w3 ⟨h3, o3⟩
  simp [go_sem, IntWalk.iteOmega, IntWalk.toNatUp]
  exact ⟨by simpa using h3, (o1.trans o2).trans o3⟩
end Go.Proofs.YtjjopoigbonjbaaGreatDoor.Ho
