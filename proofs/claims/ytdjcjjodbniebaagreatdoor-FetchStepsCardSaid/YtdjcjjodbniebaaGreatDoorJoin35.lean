/-
  Texts joined: FTold, FNoneW, FDel.
-/
import Derived.Test.YtdjcjjodbniebaaGreatDoorJoin34
import Derived.ChangeKeysEq
namespace Go.Proofs.YtdjcjjodbniebaaGreatDoor
open Go.RowKit
set_option linter.unusedVariables false
set_option linter.unusedSimpArgs false
set_option maxRecDepth 10000
theorem entersWants (args : Array Value) (w : World) : (callFunc 51 args).run Tryz.prog w = .ok (.enter 51 args) w :=
  enters_of Tryz.func51 (by kernel_rfl) rfl args w
def encI (id : List UInt8) : Array Value := #[.agg (bl id).toArray]
theorem flatI_at : ∀ (xs : List (List UInt8)) (hok : ∀ x ∈ xs, x.length = 32) (i : Nat) (x : List UInt8), xs[i]? = some x → ∀ j v, (bl x)[j]? = some v → (flatI xs)[32 * i + j]? = some v
  | [], _, i, x, h, _, _, _ => by simp at h
  | y :: ys, hok, 0, x, h, j, v, hj => by
    simp at h
    subst h
    show ((bl y) ++ flatI ys)[32 * 0 + j]? = some v
    rw [Nat.mul_zero, Nat.zero_add, List.getElem?_append_left (List.getElem?_eq_some_iff.1 hj).1]
    exact hj
  | y :: ys, hok, i + 1, x, h, j, v, hj => by
    have hl : (bl y).length = 32 := by rw [bl_length]; exact hok y (by simp)
    show ((bl y) ++ flatI ys)[32 * (i + 1) + j]? = some v
    rw [List.getElem?_append_right (by omega), hl, show 32 * (i + 1) + j - 32 = 32 * i + j by omega]
    exact flatI_at ys (fun x hx => hok x (by simp [hx])) i x (by simpa using h) j v hj
set_option maxHeartbeats 1600000 in
theorem wants_seq (xs : List (List UInt8)) (hok : ∀ x ∈ xs, x.length = 32) (A : Option Addr) (cap g : Nat) (w : World) (hlen : xs.length ≤ 100000) (hg : Blk w g 37 #[.slice A xs.length cap]) (hrd : Rd w 32 A xs.length (flatI xs)) :
    Seq Tryz.prog 51 #[.pointer (some ⟨g, 0, none⟩)] encI (fun l => l = xs) (fun j => j = g ∨ atB xs.length A j) w := by
  intro L W O₀ J Jx hkW hN hJ hJx hY h0 hO
  have hg1 := hkW.blk hg (.inl rfl)
  have hgc := hg1.cell
  show callE Tryz.prog 51 #[.func (.yield L) #[] #[], .pointer (some ⟨g, 0, none⟩)] W _
  refine calls_E Tryz.func51 rfl rfl rfl (Nat.le_of_ble_eq_true rfl) ?_
  simp [go_sem, IntWalk.iteOmega, IntWalk.toNatUp, hgc]
  refine W_loop (fun st wr => ∃ (i : Nat) (O : Nat → Prop), i ≤ xs.length ∧ st 0 = .func (.yield L) #[] #[] ∧ st 5 = .slice A xs.length cap ∧ st 6 = .int .i64 xs.length ∧ st 7 = .int .i64 i ∧
    J (xs.take i) O wr ∧ W.heap.size ≤ wr.heap.size ∧ (∀ j, O j → j < wr.heap.size) ∧ (∀ j, j < W.heap.size → O j → O₀ j) ∧ Keeps (fun j => j = g ∨ atB xs.length A j) w wr) (fun st _ => xs.length - (intOf (st 7)).toNat) ?_ ?_
  · exact ⟨0, O₀, by omega, by simp [go_sem], by simp [go_sem], by simp [go_sem], by simp [go_sem], by simpa using h0, Nat.le_refl _, hO, fun _ _ h => h, hkW⟩
  · rintro st wr ⟨i, O, hi, e0, e5, e6, e7, hj, hsz, hOs, hOO, hkp⟩
    by_cases hlt : i < xs.length
    · obtain ⟨b, o, rfl, hb, hc⟩ := hrd.cells (by omega)
      have hbN : (fun j => j = g ∨ atB xs.length (some ⟨b, o, none⟩) j) b := .inr ⟨by omega, b, o, rfl, rfl⟩
      have hx := List.getElem?_eq_getElem hlt
      have hxl := hok _ (List.getElem_mem hlt)
      have hl32 : (bl xs[i]).length = 32 := by rw [bl_length]; exact hxl
      have hcs := flatI_at xs hok i _ hx
      have ra : readCells wr ⟨b, o + i * 32, none⟩ 0 32 = some (bl xs[i]) := readCells_cells 32 0 _ hl32 (fun j v hj => by
        rw [show o + i * 32 + 0 + j = o + (32 * i + j) by omega]
        rw [hkp.cell (p := ⟨b, o + (32 * i + j), none⟩) hb hbN]
        exact hc _ _ (hcs j v hj))
      have hlt' : (i : Int) < xs.length := by omega
      have htk : xs.take (i + 1) = xs.take i ++ [xs[i]] := take_snoc' hlt
      have hyield := fun a ha1 ha2 ha3 => hY (xs.take i) xs[i] O a ⟨_, rfl, by rw [← htk]; exact List.take_prefix _ _⟩ ha1 ha2 ha3 hOO
      rw [← htk] at hyield
      simp only [encI] at hyield
      generalize xs[i] = x at *
      have y2 : ∀ (k : Array Value) (t : TypeId), k.size = 32 → canWrite (wr.alloc (.cells k t)) ⟨wr.heap.size, 0, none⟩ 0 32 = true := fun k t hk => canWrite_all (Blk.self_ rfl) 32 hk
      have y3 : ∀ (k : Array Value) (t : TypeId) (l : List Value), k.size = 32 → l.length = 32 → storeSeg (wr.alloc (.cells k t)) ⟨wr.heap.size, 0, none⟩ 0 l = (wr.alloc (.cells k t)).setRow wr.heap.size l.toArray := fun k t l hk hl => storeSeg_all (Blk.self_ rfl) l (by omega)
      have y4 : ∀ (k : Array Value) (t : TypeId) (l : List Value), l.length = 32 → readCells ((wr.alloc (.cells k t)).setRow wr.heap.size l.toArray) ⟨wr.heap.size, 0, none⟩ 0 32 = some l := fun k t l hl => readCells_all (Blk_setRow (Blk.self_ rfl)) 32 (by simpa using hl)
      simp [go_sem, IntWalk.iteOmega, IntWalk.toNatUp, e0, e5, e6, e7, hlt, hlt', ra, y2, y3, y4, hl32, bl_one]
      rw [← zeroI_lit]
      have kz : Below wr.heap.size wr ((wr.alloc (.cells zeroI.toArray 27)).setRow wr.heap.size (bl x).toArray) := below_setRow (ext_alloc wr _) (Nat.le_refl _) _
      generalize (wr.alloc (.cells zeroI.toArray 27)).setRow wr.heap.size (bl x).toArray = w2 at *
      have hj2 := hJ _ _ _ _ hj (Keeps.of_ext (O := fun j => O j ∨ j < W.heap.size) kz)
      have hs2 : wr.heap.size ≤ w2.heap.size := kz.size
      have hkp2 := hkp.trans (Keeps.of_ext kz)
      refine yieldE_of (hyield w2 hj2 (Nat.le_trans hsz hs2) (fun j h => Nat.lt_of_lt_of_le (hOs j h) hs2)) ?_
      rintro v b2 ⟨O', hm, (⟨rfl, hj3⟩ | ⟨rfl, hj3⟩)⟩
      · have hk3 : Keeps (fun j => j = g ∨ atB xs.length (some ⟨b, o, none⟩) j) w b2 := hkp2.trans (hm.2.2.mono fun j _ hj hOj => by
          have h1 := hN j hj
          exact h1.2 (hOO j (Nat.lt_of_lt_of_le h1.1 hkW.size) hOj))
        have hs3 := Nat.le_trans (Nat.le_trans hsz hs2) hm.2.2.size
        simp [go_sem, IntWalk.iteOmega, IntWalk.toNatUp, e0, e5, e6, e7]
        refine roundEnd.mk ⟨i + 1, O', by omega, by simp [go_sem, e0], by simp [go_sem, e5], by simp [go_sem, e6], by simp [go_sem], hj3, hs3, hm.2.1, fun j hj h => ?_, hk3⟩ ?_
        · rcases hm.1 j h with h | h
          · exact hOO j hj h
          · omega
        · simp [go_sem, intOf]; omega
      · simp [go_sem, IntWalk.iteOmega, IntWalk.toNatUp, e0, e5, e6, e7]
        exact ⟨O', xs.take (i + 1), List.take_prefix _ _, Nat.le_trans (Nat.le_trans hsz hs2) hm.2.2.size, .inr hj3⟩
    · obtain rfl : i = xs.length := by omega
      rw [List.take_of_length_le (Nat.le_refl _)] at hj
      have hlt' : ¬ (xs.length : Int) < xs.length := by omega
      simp [go_sem, IntWalk.iteOmega, IntWalk.toNatUp, e0, e5, e6, e7, hlt']
      exact ⟨O, xs, List.prefix_refl _, hsz, .inl ⟨rfl, hj⟩⟩
theorem run_equalIn_func {P : Program} (d : Nat) {t : TypeId} {D : TypeDesc} (ht : P.underlying t = some D) (hD : ∃ a b c, D = .func a b c) (f : Fn) (l m : Array Value) (w : World) :
    (Op.equalIn (d + 1) t (.func f l m) .nilFunc).run P w = .ok false w := by
  obtain ⟨a, b, c, rfl⟩ := hD
  simp only [Op.equalIn, Sem.run_bind, run_underlying ht, Result.andThen_ok, Sem.run_pure]
theorem run_eql_func {P : Program} {t : TypeId} {D : TypeDesc} (ht : P.underlying t = some D) (hD : ∃ a b c, D = .func a b c) (f : Fn) (l m : Array Value) (w : World) :
    (binOp .eql t (.func f l m) .nilFunc).run P w = .ok (.bool false) w := by
  have h : (Op.equal t (.func f l m) .nilFunc).run P w = .ok false w := run_equalIn_func 9999 ht hD f l m w
  simp only [binOp, Sem.run_bind, h, Result.andThen_ok, Sem.run_pure]
def tKeep (W0 : World) (mb lb : Nat) (most : Int) (xs : List (List UInt8)) (O : Nat → Prop) (a : World) : Prop :=
  ∃ v, O = (fun j => j = lb ∨ v.ownBlock = some j) ∧ Blk a lb 37 #[v] ∧ Blk a mb 3 #[.int .i64 most] ∧ a.ownsRow W0.heap.size 27 32 v xs.length (flatI xs) ∧ Below W0.heap.size W0 a
theorem tKeep_stab {W0 W2 a b : World} {mb lb : Nat} {most : Int} {xs : List (List UInt8)} {O : Nat → Prop} (h : tKeep W0 mb lb most xs O a) (hk : Keeps (fun j => O j ∨ j < W2.heap.size) a b) (hm : mb < W2.heap.size) (hw : W0.heap.size ≤ W2.heap.size) : tKeep W0 mb lb most xs O b := by
  obtain ⟨v, rfl, h1, h2, h3, h4⟩ := h
  exact ⟨v, rfl, hk.blk h1 (.inl (.inl rfl)), hk.blk h2 (.inr hm), row_keeps h3 hk fun j hj => .inl (.inr hj), h4.trans (hk.below h4.size fun k hk' => .inr (by omega))⟩
def toldJ (W0 : World) (most : Nat) (pre : List (List UInt8)) (O : Nat → Prop) (a : World) : Prop := pre.length ≤ most ∧ tKeep W0 W0.heap.size (W0.heap.size + 1) most pre O a
def toldX (W0 : World) (most : Nat) (e : Exit) (pre : List (List UInt8)) (O : Nat → Prop) (a : World) : Prop :=
  e = .exit 0 ∧ ∃ pre0 x, pre = pre0 ++ [x] ∧ pre0.length = most ∧ tKeep W0 W0.heap.size (W0.heap.size + 1) most pre0 O a
set_option maxHeartbeats 3200000 in
theorem told_any (xs : List (List UInt8)) (hok : ∀ x ∈ xs, x.length = 32) (A : Option Addr) (cap g : Nat) (w : World) (hlen : xs.length ≤ 1000) (hg : Blk w g 37 #[.slice A xs.length cap]) (hrd : Rd w 32 A xs.length (flatI xs)) (most : Nat) (hmost : most ≤ 9223372036854775807) (M : Int) (hM : M = most) :
    callE Tryz.prog 14 #[.func (.func 51) #[] #[.pointer (some ⟨g, 0, none⟩)], .int .i64 M] w fun v w' => w'.ownsRow w.heap.size 27 32 v (xs.take most).length (flatI (xs.take most)) ∧ Below w.heap.size w w' := by
  subst hM
  refine calls_M Tryz.func14 rfl rfl rfl (Nat.le_of_ble_eq_true rfl) ?_
  have hfun := fun lb w => run_eql_func (P := Tryz.prog) Tryz.underlying40 ⟨_, _, _, rfl⟩ (.func 51) #[] lb w
  simp [go_sem, IntWalk.iteOmega, IntWalk.toNatUp, hfun]
  have hmb : Blk ((w.alloc (.cells #[.int .i64 most] 3)).alloc (.cells #[.slice none 0 0] 37)) w.heap.size 3 #[.int .i64 most] := (Blk.self_ rfl).more _
  have hlb : Blk ((w.alloc (.cells #[.int .i64 most] 3)).alloc (.cells #[.slice none 0 0] 37)) (w.heap.size + 1) 37 #[.slice none 0 0] := Blk.self_ (by simp)
  have k2 : Below w.heap.size w ((w.alloc (.cells #[.int .i64 most] 3)).alloc (.cells #[.slice none 0 0] 37)) := ext_trans (ext_alloc _ _) (ext_alloc _ _)
  have hs2 : ((w.alloc (.cells #[.int .i64 most] 3)).alloc (.cells #[.slice none 0 0] 37)).heap.size = w.heap.size + 2 := by simp
  generalize (w.alloc (.cells #[.int .i64 most] 3)).alloc (.cells #[.slice none 0 0] 37) = W1 at *
  have hseq := wants_seq xs hok A cap g w (by omega) hg hrd
  have hNw : ∀ j, (j = g ∨ atB xs.length A j) → j < w.heap.size := by
    rintro j (rfl | h)
    · exact hg.lt
    · exact atB_lt hrd h
  refine WM_range (w0 := w) (enc := encI) (S := fun l => l = xs) (by simp [go_sem]) entersWants hseq (Keeps.of_ext k2) (fun _ => rfl) (fun j => j = w.heap.size + 1 ∨ (Value.slice none 0 0).ownBlock = some j) ?_ ?_
    (toldJ w most) (toldX w most) ?_ ?_ ?_ ?_ ?_ ?_
  · intro j hj
    have h1 := hNw j hj
    refine ⟨h1, ?_⟩
    rintro (h | h)
    · omega
    · simp [Value.ownBlock] at h
  · rintro j (h | h)
    · omega
    · simp [Value.ownBlock] at h
  · rintro pre O a b ⟨h1, h2⟩ hk
    exact ⟨h1, tKeep_stab h2 hk (by omega) (by omega)⟩
  · rintro e pre O a b ⟨h1, p0, x, h2, h3, h4⟩ hk
    exact ⟨h1, p0, x, h2, h3, tKeep_stab h4 hk (by omega) (by omega)⟩
  · exact ⟨by simp, _, rfl, hlb, hmb, World.ownsRow_nil _ _ _ _, k2⟩
  · rintro pre x O a b l1 o ⟨ys, hys, hpre⟩ hab hla hOl hsl ⟨r, hr⟩ hbs hsa hOa hOO _ ⟨hle, v, rfl, hlb, hmb, hown, hB⟩
    rw [hys] at hpre
    have hpl : pre.length + 1 ≤ xs.length := by have := hpre.length_le; simpa using this
    have hxm : x ∈ xs := hpre.subset (by simp)
    have hl32 : (bl x).length = 32 := by rw [bl_length]; exact hok x hxm
    obtain ⟨_, A', c', rfl⟩ := own_sl hown
    have y2 : ∀ (k : Array Value) (t : TypeId), k.size = 32 → canWrite (a.alloc (.cells k t)) ⟨a.heap.size, 0, none⟩ 0 32 = true := fun k t hk => canWrite_all (Blk.self_ rfl) 32 hk
    have y3 : ∀ (k : Array Value) (t : TypeId) (l : List Value), k.size = 32 → l.length = 32 → storeSeg (a.alloc (.cells k t)) ⟨a.heap.size, 0, none⟩ 0 l = (a.alloc (.cells k t)).setRow a.heap.size l.toArray := fun k t l hk hl => storeSeg_all (Blk.self_ rfl) l (by omega)
    have hhl : ∀ (k : Array Value) (t : TypeId) (cs : Array Value), ((a.alloc (.cells k t)).setRow a.heap.size cs).heap[l1]? = a.heap[l1]? := fun k t cs => by
      rw [setRow_other _ _ _ _ (by omega)]
      exact (ext_alloc a _).block l1 hla
    have hpo : ∀ (k : Array Value) (t : TypeId) (cs : Array Value), ((a.alloc (.cells k t)).setRow a.heap.size cs).putObj l1 (.loop o) = (b.alloc (.cells k t)).setRow b.heap.size cs := fun k t cs => by
      rw [putObj_setRow (by omega), putObj_alloc hla, hab, hbs]
    have kz : Below b.heap.size b ((b.alloc (.cells zeroI.toArray 27)).setRow b.heap.size (bl x).toArray) := below_setRow (ext_alloc b _) (Nat.le_refl _) _
    have hxb : Blk ((b.alloc (.cells zeroI.toArray 27)).setRow b.heap.size (bl x).toArray) b.heap.size 27 (bl x).toArray := Blk_setRow (Blk.self_ rfl)
    have hlc : ∀ i, ((b.alloc (.cells zeroI.toArray 27)).setRow b.heap.size (bl x).toArray).cell? ⟨w.heap.size + 1, i, none⟩ = #[Value.slice A' pre.length c'][i]? := (hlb.keep kz).cell
    have hmc : ∀ i, ((b.alloc (.cells zeroI.toArray 27)).setRow b.heap.size (bl x).toArray).cell? ⟨w.heap.size, i, none⟩ = #[Value.int .i64 (most : Int)][i]? := (hmb.keep kz).cell
    have x1 : readCells ((b.alloc (.cells zeroI.toArray 27)).setRow b.heap.size (bl x).toArray) ⟨a.heap.size, 0, none⟩ 0 32 = some (bl x) := by rw [← hbs]; exact readCells_all hxb 32 (by simpa using hl32)
    rw [zeroI_lit] at hlc hmc x1
    have hszb : b.heap.size < ((b.alloc (.cells zeroI.toArray 27)).setRow b.heap.size (bl x).toArray).heap.size := hxb.lt
    by_cases hq : most ≤ pre.length
    · have hq' : (most : Int) ≤ pre.length := by omega
      simp [go_sem, IntWalk.iteOmega, IntWalk.toNatUp, encI, y2, y3, hl32, bl_one, hhl, hpo, hlc, hmc, hq']
      rw [← zeroI_lit]
      refine ⟨_, ⟨fun j h => .inl h, fun j h => ?_, Keeps.of_ext kz⟩, rfl, pre, x, rfl, by omega, _, rfl, hlb.keep kz, hmb.keep kz, row_below hown kz, hB.trans (kz.mono hB.size)⟩
      have := hOa j h
      omega
    · have hq' : ¬ (most : Int) ≤ pre.length := by omega
      simp [go_sem, IntWalk.iteOmega, IntWalk.toNatUp, encI, y2, y3, hl32, bl_one, hhl, hpo, hlc, hmc, hq', x1]
      rw [fold_i (bl x) hl32, ← zeroI_lit]
      have hownZ := row_below hown kz
      have hlbZ := hlb.keep kz
      have hmbZ := hmb.keep kz
      have hBZ := hB.trans (kz.mono hB.size)
      have hszZ : ((b.alloc (.cells zeroI.toArray 27)).setRow b.heap.size (bl x).toArray).heap.size = b.heap.size + 1 := by simp [World.setRow]
      generalize (b.alloc (.cells zeroI.toArray 27)).setRow b.heap.size (bl x).toArray = c0 at *
      have kW := ext_alloc c0 (.cells (bl x).toArray 27)
      have hrdW : Rd (c0.alloc (.cells (bl x).toArray 27)) 32 (some ⟨b.heap.size + 1, 0, none⟩) 1 (bl x) := by rw [← hszZ]; exact rd_one (Blk.self_ rfl) hl32
      have hownW := row_below hownZ kW
      have hlbW := hlbZ.keep kW
      have hmbW := hmbZ.keep kW
      have hBW := hBZ.trans (kW.mono hBZ.size)
      have kbW : Below b.heap.size b (c0.alloc (.cells (bl x).toArray 27)) := kz.trans (kW.mono kz.size)
      generalize c0.alloc (.cells (bl x).toArray 27) = wA at *
      refine appendE w.heap.size 27 32 32 Tryz.underlying37 el27 hownW hrdW (bl_one x) (by unfold maxLen; omega) (by omega) hBW.size ?_
      intro v' w7 hr7 hg7 hbk7
      obtain ⟨-, A7, c7, hv7⟩ := own_sl hr7
      have hone : v'.oneCell' = true := by rw [hv7]; rfl
      have ne1 := row_ne hownW hlbW (by decide)
      have ne2 := row_ne hownW hmbW (by decide)
      have hlb7 : Blk w7 (w.heap.size + 1) 37 #[.slice A' pre.length c'] := (hg7.block _ hlbW.lt (fun e => ne1 e.symm)).trans hlbW
      have hmb7 : Blk w7 w.heap.size 3 #[.int .i64 most] := (hg7.block _ hmbW.lt (fun e => ne2 e.symm)).trans hmbW
      have hlc7 := hlb7.cell
      have hlf7 := hlb7.frozen
      have hB7 : Below w.heap.size w w7 := hBW.grown hg7 hBW.size (fun k hk => (hownW.lt k hk).1)
      simp [go_sem, IntWalk.iteOmega, IntWalk.toNatUp, hlc7, hlf7, hone]
      have hfl : flatI pre ++ bl x = flatI (pre ++ [x]) := by simp [flatI]
      rw [hfl] at hr7
      refine ⟨fun j => j = w.heap.size + 1 ∨ v'.ownBlock = some j, ⟨?_, ?_, ?_⟩, ?_, v', rfl, Blk_set hlb7, ?_, ?_, ?_⟩
      · rintro j (h | h)
        · exact .inl (.inl h)
        · rcases hbk7 with e | e
          · exact .inl (.inr (e ▸ h))
          · rw [e] at h; injection h with h; exact .inr (h ▸ kbW.size)
      · rintro j (h | h)
        · rw [sz_set, h]; exact hlb7.lt
        · rw [sz_set]; exact (hr7.lt j h).2
      · exact ((Keeps.of_ext (O := fun j => ¬ (j = w.heap.size + 1 ∨ (Value.slice A' pre.length c').ownBlock = some j)) kbW).trans (Keeps.grown hg7 fun k hk h => h (.inr hk))).trans (Keeps.setCell _ _ _ fun h => h (.inl rfl))
      · rw [List.length_append]; simp; omega
      · exact hmb7.farCell (by omega) _
      · have hne7 := row_ne hr7 hlb7 (by decide)
        rw [List.length_append]
        exact row_keeps hr7 (Keeps.setCell (O := fun j => j ≠ w.heap.size + 1) _ _ _ (fun h => h rfl)) (fun j hj e => hne7 (e ▸ hj))
      · exact hB7.setCell (by simp) _
  · rintro xs0 O b D rfl ⟨hle, v, rfl, hlb, hmb, hown, hB⟩ hOD hD hDb hsb
    have hlc := hlb.cell
    obtain ⟨hsl, A', c', rfl⟩ := own_sl hown
    have htk : xs0.take most = xs0 := List.take_of_length_le hle
    rw [htk]
    simp [go_sem, IntWalk.iteOmega, IntWalk.toNatUp, hlc, hDb]
    refine ⟨row_keeps hown (Keeps.putObj (O := fun j => j ≠ D) _ _ _ (fun h => h rfl)) (fun j hj e => hOD (.inr (e ▸ hj))), hB.trans ((Keeps.putObj (O := fun j => j < w.heap.size) _ _ _ (by omega)).below hB.size fun k hk => hk)⟩
  · rintro e pre xs0 O b D rfl hpre ⟨rfl, p0, x, rfl, hp0, v, rfl, hlb, hmb, hown, hB⟩ hOD hD hDb hsb
    have hlc := hlb.cell
    obtain ⟨hsl, A', c', rfl⟩ := own_sl hown
    have htk : xs0.take most = p0 := by
      obtain ⟨r, hr⟩ := hpre
      rw [← hr, ← hp0]
      simp
    rw [htk]
    simp [go_sem, IntWalk.iteOmega, IntWalk.toNatUp, hlc, hDb]
    refine ⟨row_keeps hown (Keeps.putObj (O := fun j => j ≠ D) _ _ _ (fun h => h rfl)) (fun j hj e => hOD (.inr (e ▸ hj))), hB.trans ((Keeps.putObj (O := fun j => j < w.heap.size) _ _ _ (by omega)).below hB.size fun k hk => hk)⟩
end Go.Proofs.YtdjcjjodbniebaaGreatDoor
namespace Go.Proofs.YtdjcjjodbniebaaGreatDoor
open Go.RowKit
set_option linter.unusedVariables false
set_option linter.unusedSimpArgs false
set_option maxRecDepth 10000
theorem zeroF_lit : zeroF.toArray = #[Value.int IntKind.u8 0, Value.int IntKind.u8 0, Value.int IntKind.u8 0, Value.int IntKind.u8 0, Value.int IntKind.u8 0, Value.int IntKind.u8 0, Value.int IntKind.u8 0, Value.int IntKind.u8 0, Value.int IntKind.u8 0, Value.int IntKind.u8 0, Value.int IntKind.u8 0, Value.int IntKind.u8 0, Value.int IntKind.u8 0, Value.int IntKind.u8 0, Value.int IntKind.u8 0, Value.int IntKind.u8 0, Value.int IntKind.u8 0, Value.int IntKind.u8 0, Value.int IntKind.u8 0, Value.int IntKind.u8 0, Value.int IntKind.u8 0, Value.int IntKind.u8 0, Value.int IntKind.u8 0, Value.int IntKind.u8 0, Value.int IntKind.u8 0, Value.int IntKind.u8 0, Value.int IntKind.u8 0, Value.int IntKind.u8 0, Value.int IntKind.u8 0, Value.int IntKind.u8 0, Value.int IntKind.u8 0, Value.int IntKind.u8 0, Value.int IntKind.i64 0, Value.int IntKind.i64 0, Value.slice none 0 0, Value.map none, Value.map none, Value.map none] := rfl
set_option maxHeartbeats 12800000 in
theorem none_any {w : World} (hC : Cubes w) {id : List UInt8} (hid : id.length = 32) (v : Int) {A : Option Addr} {n c : Nat} :
    callE Tryz.prog 5 #[.agg (bl id).toArray, .int .i64 v, .slice A n c] w fun r w' => r = .bool true ∧ Below w.heap.size w w' := by
  have l32 : (bl id).length = 32 := by rw [bl_length]; exact hid
  have hv : ∃ id' : List UInt8, id'.length = 32 ∧ (Value.agg (bl id).toArray) = .agg (bl id').toArray := ⟨id, hid, rfl⟩
  refine calls_E Tryz.func5 rfl rfl rfl (Nat.le_of_ble_eq_true rfl) ?_
  simp [go_sem, IntWalk.iteOmega, IntWalk.toNatUp]
  rw [← zeroF_lit]
  have hI3 : Blk (((w.alloc (.cells (bl id).toArray 27)).alloc (.cells zeroF.toArray 72)).alloc (.cells #[.pointer none, .pointer (some ⟨w.heap.size + 1, 0, none⟩)] 31)) w.heap.size 27 (bl id).toArray := ((Blk.self_ rfl).more _).more _
  have hf3 : Blk (((w.alloc (.cells (bl id).toArray 27)).alloc (.cells zeroF.toArray 72)).alloc (.cells #[.pointer none, .pointer (some ⟨w.heap.size + 1, 0, none⟩)] 31)) (w.heap.size + 1) 72 zeroF.toArray := (Blk.self_ (by simp)).more _
  have hp3 : Blk (((w.alloc (.cells (bl id).toArray 27)).alloc (.cells zeroF.toArray 72)).alloc (.cells #[.pointer none, .pointer (some ⟨w.heap.size + 1, 0, none⟩)] 31)) (w.heap.size + 2) 31 #[.pointer none, .pointer (some ⟨w.heap.size + 1, 0, none⟩)] := Blk.self_ (by simp)
  have k3 : Below w.heap.size w (((w.alloc (.cells (bl id).toArray 27)).alloc (.cells zeroF.toArray 72)).alloc (.cells #[.pointer none, .pointer (some ⟨w.heap.size + 1, 0, none⟩)] 31)) := (((Below.refl _ _).alloc (Nat.le_refl _) _).alloc (by simp) _).alloc (by simp; omega) _
  generalize (((w.alloc (.cells (bl id).toArray 27)).alloc (.cells zeroF.toArray 72)).alloc (.cells #[.pointer none, .pointer (some ⟨w.heap.size + 1, 0, none⟩)] 31)) = w3 at *
  refine W_loop (fun st wr => ∃ i : Nat, i ≤ 2 ∧ st 1 = .int .i64 v ∧ st 2 = .slice A n c ∧ st 3 = .pointer (some ⟨w.heap.size, 0, none⟩) ∧ st 19 = .slice (some ⟨w.heap.size + 2, 0, none⟩) 2 2 ∧ st 20 = .int .i64 2 ∧ st 21 = .int .i64 i ∧ Below w3.heap.size w3 wr) (fun st _ => 2 - (intOf (st 21)).toNat) ?_ ?_
  · exact ⟨0, by omega, by simp [go_sem], by simp [go_sem], by simp [go_sem], by simp [go_sem], by simp [go_sem], by simp [go_sem], Below.refl _ _⟩
  · rintro st wr ⟨i, hi, d1, d2, d3, d19, d20, d21, hB⟩
    by_cases hlt : i < 2
    · have hlt' : (i : Int) < 2 := by omega
      obtain ⟨pa, hcell, hNo⟩ : ∃ pa : Option Addr, wr.cell? ⟨w.heap.size + 2, i, none⟩ = some (.pointer pa) ∧ NoF wr (.pointer pa) := by
        have hc := (hp3.keep hB).cell i
        match i, hlt, hc with
        | 0, _, hc => exact ⟨none, hc, .inl rfl⟩
        | 1, _, hc => exact ⟨some ⟨w.heap.size + 1, 0, none⟩, hc, .inr ⟨w.heap.size + 1, _, rfl, hf3.keep hB, rfl⟩⟩
      have rI : ∀ W, Below wr.heap.size wr W → readCells W ⟨w.heap.size, 0, none⟩ 0 32 = some (bl id) := fun W hW => readCells_all (((hI3.keep hB).keep hW)) 32 (by simpa using l32)
      have y0 := rI wr (Below.refl _ _)
      simp [go_sem, IntWalk.iteOmega, IntWalk.toNatUp, d1, d2, d3, d19, d20, d21, hlt, hlt', hcell, y0]
      refine callE_of (none_ask hNo _ hv) ?_
      rintro _ w4 ⟨rfl, k4⟩
      have y4 := rI w4 k4
      simp [go_sem, IntWalk.iteOmega, IntWalk.toNatUp, d1, d2, d3, d19, d20, d21, y4]
      have kA := ext_alloc w4 (.cells #[.slice A n c] 22)
      have k4A := k4.trans (kA.mono k4.size)
      refine callE_of (none_got (hNo.keep k4A) _ _ hv) ?_
      rintro _ w5 ⟨rfl, k5⟩
      have k05 := k4A.trans (k5.mono k4A.size)
      have y5 := rI w5 k05
      simp [go_sem, IntWalk.iteOmega, IntWalk.toNatUp, d1, d2, d3, d19, d20, d21, y5]
      refine callE_of (none_state (hNo.keep k05) _ hv) ?_
      rintro _ w6 ⟨rfl, k6⟩
      have k06 := k05.trans (k6.mono k05.size)
      have y6 := rI w6 k06
      simp [go_sem, IntWalk.iteOmega, IntWalk.toNatUp, d1, d2, d3, d19, d20, d21, y6]
      refine callE_of (none_chain (hNo.keep k06)) ?_
      rintro _ w6 ⟨rfl, rfl⟩
      simp [go_sem, IntWalk.iteOmega, IntWalk.toNatUp, d1, d2, d3, d19, d20, d21, y6]
      have kB := ext_alloc w6 (.cells #[.int .i64 v] 3)
      have k6B := k06.trans (kB.mono k06.size)
      refine callE_of (none_target (hNo.keep k6B) _ _ hv) ?_
      rintro _ w7 ⟨rfl, k7⟩
      have k07 := k6B.trans (k7.mono k6B.size)
      have y7 := rI w7 k07
      simp [go_sem, IntWalk.iteOmega, IntWalk.toNatUp, d1, d2, d3, d19, d20, d21, y7]
      refine callE_of (none_fail (hNo.keep k07) _ hv) ?_
      rintro _ w8 ⟨rfl, k8⟩
      have k08 := k07.trans (k8.mono k07.size)
      simp [go_sem, IntWalk.iteOmega, IntWalk.toNatUp, d1, d2, d3, d19, d20, d21]
      refine callE_of (none_wants (hNo.keep k08)) ?_
      rintro _ w9 ⟨rfl, hg9, k9⟩
      have k09 := k08.trans (k9.mono k08.size)
      simp [go_sem, IntWalk.iteOmega, IntWalk.toNatUp, d1, d2, d3, d19, d20, d21]
      refine callE_of (told_any [] (by simp) none 0 (w8.heap.size + 1) w9 (by decide) hg9 (Rd.nil_ _ _ _) 9 (by decide) 9 rfl) ?_
      rintro tv w10 ⟨ht, k10⟩
      have k010 := k09.trans (k10.mono k09.size)
      obtain ⟨-, tA, tc, rfl⟩ := own_sl ht
      simp [go_sem, IntWalk.iteOmega, IntWalk.toNatUp, d1, d2, d3, d19, d20, d21]
      refine callE_of (none_len (hNo.keep k010)) ?_
      rintro _ w10 ⟨rfl, rfl⟩
      simp [go_sem, IntWalk.iteOmega, IntWalk.toNatUp, d1, d2, d3, d19, d20, d21]
      refine callE_of (none_done (hNo.keep k010)) ?_
      rintro _ w10 ⟨rfl, rfl⟩
      simp [go_sem, IntWalk.iteOmega, IntWalk.toNatUp, d1, d2, d3, d19, d20, d21]
      refine callE_of (none_clone (hNo.keep k010)) ?_
      rintro _ w10 ⟨rfl, rfl⟩
      simp [go_sem, IntWalk.iteOmega, IntWalk.toNatUp, d1, d2, d3, d19, d20, d21]
      refine roundEnd.mk ⟨i + 1, by omega, by simp [go_sem, d1], by simp [go_sem, d2], by simp [go_sem, d3], by simp [go_sem, d19], by simp [go_sem, d20], by simp [go_sem], hB.trans (k010.mono hB.size)⟩ ?_
      simp [go_sem, intOf, d21]; omega
    · obtain rfl : i = 2 := by omega
      have k0 := k3.trans (hB.mono k3.size)
      simp [go_sem, IntWalk.iteOmega, IntWalk.toNatUp, d1, d2, d3, d19, d20, d21]
      refine callE_of (begun_any (hC.keep k0)) ?_
      rintro _ w4 ⟨rfl, k4⟩
      simp [go_sem, IntWalk.iteOmega, IntWalk.toNatUp]
      exact k0.trans (k4.mono k0.size)
theorem none_any' {w : World} (hC : Cubes w) {id : List UInt8} (hid : id.length = 32) (v : Int) {u : Value} (hu : ∃ A n c, u = .slice A n c) :
    callE Tryz.prog 5 #[.agg (bl id).toArray, .int .i64 v, u] w fun r w' => r = .bool true ∧ Below w.heap.size w w' := by
  obtain ⟨A, n, c, rfl⟩ := hu
  exact none_any hC hid v
end Go.Proofs.YtdjcjjodbniebaaGreatDoor
namespace Go.Proofs.YtdjcjjodbniebaaGreatDoor
open Go.RowKit
set_option linter.unusedVariables false
set_option linter.unusedSimpArgs false
set_option maxRecDepth 10000
section
variable {w : World} {O : Nat → Prop} {f : Nat} {S : FS} {tv : Value} {rk ra ro : Nat} {vs : List Value} {K : List (List UInt8 × Bk × Value)}
set_option maxHeartbeats 1600000 in
theorem wants1_any (h : FIn w O f S tv rk ra ro vs K) (hok : FOk S) {p : Nat} (hp : Blk w p 31 #[.pointer (some ⟨f, 0, none⟩)]) {id : List UInt8} (hid : id.length = 32) :
    callE Tryz.prog 50 #[.agg (bl id).toArray, .pointer (some ⟨p, 0, none⟩)] w fun r w' => r = .bool (askedB S.asked id) ∧ Below w.heap.size w w' := by
  have l32 : (bl id).length = 32 := by rw [bl_length]; exact hid
  have kA := ext_alloc w (.cells (bl id).toArray 27)
  have hI : Blk (w.alloc (.cells (bl id).toArray 27)) w.heap.size 27 (bl id).toArray := Blk.self_ rfl
  have hFA := h.keep kA
  have hpA := hp.keep kA
  refine calls_E Tryz.func50 rfl rfl rfl (Nat.le_of_ble_eq_true rfl) ?_
  simp [go_sem, IntWalk.iteOmega, IntWalk.toNatUp]
  generalize w.alloc (.cells (bl id).toArray 27) = w2 at *
  refine W_still follows (by kernel_rfl) ?_
  have hpd := hpA.drew.cell
  have hc36 := ((hFA.keep (ext_drew w2)).cells hok.last).2.2.2.2.1
  have x1 := readCells_all hI.drew 32 (by simpa using l32)
  have hlook := (run_lookupI idKey (hFA.ma.keep (ext_drew w2)) Tryz.underlying69 id hid (zero_bool _)).2
  rw [boolsL_at] at hlook
  have hlook' : (Instr.lookup 69 (.map (some ra)) (.agg (bl id).toArray) false).run Tryz.prog w2.drew = .ok (.bool (askedB S.asked id)) w2.drew := hlook
  simp [go_sem, IntWalk.iteOmega, IntWalk.toNatUp, hpd, hc36, x1, hlook']
  exact kA.drew
set_option maxHeartbeats 1600000 in
theorem indexF_any (h : FIn w O f S tv rk ra ro vs K) (hok : FOk S) {p : Nat} (hp : Blk w p 31 #[.pointer (some ⟨f, 0, none⟩)]) {A : Option Addr} {c : Nat} {xs : List (List UInt8)} (hxs : ∀ x ∈ xs, x.length = 32) (hr : Rd w 32 A xs.length (flatI xs)) (hlen : xs.length ≤ 100000) :
    callE Tryz.prog 87 #[.slice A xs.length c, .func (.func 50) #[] #[.pointer (some ⟨p, 0, none⟩)]] w fun r w' => ((∃ k : Nat, ∃ hk : k < xs.length, r = .int .i64 k ∧ askedB S.asked xs[k] = true ∧ ∀ m (hm : m < xs.length), m < k → askedB S.asked xs[m] = false) ∨ (r = .int .i64 (-1) ∧ ∀ m (hm : m < xs.length), askedB S.asked xs[m] = false)) ∧ Below w.heap.size w w' := by
  refine calls_E Tryz.func87 rfl rfl rfl (Nat.le_of_ble_eq_true rfl) ?_
  simp [go_sem, IntWalk.iteOmega, IntWalk.toNatUp]
  refine W_loop (fun st wr => ∃ i : Nat, i ≤ xs.length ∧ st 0 = .slice A xs.length c ∧ st 1 = .func (.func 50) #[] #[.pointer (some ⟨p, 0, none⟩)] ∧ st 7 = .int .i64 xs.length ∧ st 8 = .int .i64 i ∧ (∀ m (hm : m < xs.length), m < i → askedB S.asked xs[m] = false) ∧ Below w.heap.size w wr) (fun st _ => xs.length - (intOf (st 8)).toNat) ?_ ?_
  · exact ⟨0, by omega, by simp [go_sem], by simp [go_sem], by simp [go_sem], by simp [go_sem], fun m hm h => by omega, Below.refl _ _⟩
  · rintro st wr ⟨i, hi, e0, e1, e7, e8, hno, hB⟩
    by_cases hlt : i < xs.length
    · have hlt' : (i : Int) < xs.length := by omega
      obtain ⟨b, o, rfl, hb, hc⟩ := (hr.keep hB).cells (by omega)
      have hx := List.getElem?_eq_getElem hlt
      have hxl := hxs _ (List.getElem_mem hlt)
      have hl32 : (bl xs[i]).length = 32 := by rw [bl_length]; exact hxl
      have ra' : readCells wr ⟨b, o + i * 32, none⟩ 0 32 = some (bl xs[i]) := readCells_cells 32 0 _ hl32 (fun j v hj => by
        rw [show o + i * 32 + 0 + j = o + (32 * i + j) by omega]
        exact hc _ _ (flatI_at xs hxs i _ hx j v hj))
      simp [go_sem, IntWalk.iteOmega, IntWalk.toNatUp, e0, e1, e7, e8, hlt, hlt', ra']
      refine callE_of (wants1_any (h.keep hB) hok (hp.keep hB) hxl) ?_
      rintro _ w3 ⟨rfl, k3⟩
      have hB3 := hB.trans (k3.mono hB.size)
      by_cases hq : askedB S.asked xs[i] = true
      · simp [go_sem, IntWalk.iteOmega, IntWalk.toNatUp, e0, e1, e7, e8, hq]
        exact ⟨⟨i, rfl, ⟨hlt, hq⟩, fun m hm h => hno m hm h⟩, hB3⟩
      · have hq' : askedB S.asked xs[i] = false := by simpa using hq
        simp [go_sem, IntWalk.iteOmega, IntWalk.toNatUp, e0, e1, e7, e8, hq']
        refine roundEnd.mk ⟨i + 1, by omega, by simp [go_sem, e0], by simp [go_sem, e1], by simp [go_sem, e7], by simp [go_sem], fun m hm h => ?_, hB3⟩ ?_
        · by_cases hmi : m = i
          · subst hmi; exact hq'
          · exact hno m hm (by omega)
        · simp [go_sem, intOf, e8]; omega
    · have hlt' : ¬ (i : Int) < xs.length := by omega
      simp [go_sem, IntWalk.iteOmega, IntWalk.toNatUp, e0, e1, e7, e8, hlt']
      exact ⟨fun m hm => hno m hm (by omega), hB⟩
end
end Go.Proofs.YtdjcjjodbniebaaGreatDoor
