/-
  Texts joined: FTold, FDel, FDel2, FDel3.
-/
import Derived.Test.YtdjcjjodbniebaaGreatDoorJoin34
import Derived.ChangeKeysEq
namespace Go.Proofs.YtdjcjjodbniebaaGreatDoor
open Go.RowKit
set_option linter.unusedVariables false
set_option linter.unusedSimpArgs false
set_option maxRecDepth 10000
theorem entersWants (args : Array Value) (w : World) : (callFunc 51 args).run Tryz.prog w = .ok (.enter 51 args) w :=
  enters_of Tryz.func51 (by kernel_rfl) rfl args w
def encI (id : List UInt8) : Array Value := #[.agg (bl id).toArray]
theorem flatI_at : ∀ (xs : List (List UInt8)) (hok : ∀ x ∈ xs, x.length = 32) (i : Nat) (x : List UInt8), xs[i]? = some x → ∀ j v, (bl x)[j]? = some v → (flatI xs)[32 * i + j]? = some v
  | [], _, i, x, h, _, _, _ => by simp at h
  | y :: ys, hok, 0, x, h, j, v, hj => by
    simp at h
    subst h
    show ((bl y) ++ flatI ys)[32 * 0 + j]? = some v
    rw [Nat.mul_zero, Nat.zero_add, List.getElem?_append_left (List.getElem?_eq_some_iff.1 hj).1]
    exact hj
  | y :: ys, hok, i + 1, x, h, j, v, hj => by
    have hl : (bl y).length = 32 := by rw [bl_length]; exact hok y (by simp)
    show ((bl y) ++ flatI ys)[32 * (i + 1) + j]? = some v
    rw [List.getElem?_append_right (by omega), hl, show 32 * (i + 1) + j - 32 = 32 * i + j by omega]
    exact flatI_at ys (fun x hx => hok x (by simp [hx])) i x (by simpa using h) j v hj
set_option maxHeartbeats 1600000 in
theorem wants_seq (xs : List (List UInt8)) (hok : ∀ x ∈ xs, x.length = 32) (A : Option Addr) (cap g : Nat) (w : World) (hlen : xs.length ≤ 100000) (hg : Blk w g 37 #[.slice A xs.length cap]) (hrd : Rd w 32 A xs.length (flatI xs)) :
    Seq Tryz.prog 51 #[.pointer (some ⟨g, 0, none⟩)] encI (fun l => l = xs) (fun j => j = g ∨ atB xs.length A j) w := by
  intro L W O₀ J Jx hkW hN hJ hJx hY h0 hO
  have hg1 := hkW.blk hg (.inl rfl)
  have hgc := hg1.cell
  show callE Tryz.prog 51 #[.func (.yield L) #[] #[], .pointer (some ⟨g, 0, none⟩)] W _
  refine calls_E Tryz.func51 rfl rfl rfl (Nat.le_of_ble_eq_true rfl) ?_
  simp [go_sem, IntWalk.iteOmega, IntWalk.toNatUp, hgc]
  refine W_loop (fun st wr => ∃ (i : Nat) (O : Nat → Prop), i ≤ xs.length ∧ st 0 = .func (.yield L) #[] #[] ∧ st 5 = .slice A xs.length cap ∧ st 6 = .int .i64 xs.length ∧ st 7 = .int .i64 i ∧
    J (xs.take i) O wr ∧ W.heap.size ≤ wr.heap.size ∧ (∀ j, O j → j < wr.heap.size) ∧ (∀ j, j < W.heap.size → O j → O₀ j) ∧ Keeps (fun j => j = g ∨ atB xs.length A j) w wr) (fun st _ => xs.length - (intOf (st 7)).toNat) ?_ ?_
  · exact ⟨0, O₀, by omega, by simp [go_sem], by simp [go_sem], by simp [go_sem], by simp [go_sem], by simpa using h0, Nat.le_refl _, hO, fun _ _ h => h, hkW⟩
  · rintro st wr ⟨i, O, hi, e0, e5, e6, e7, hj, hsz, hOs, hOO, hkp⟩
    by_cases hlt : i < xs.length
    · obtain ⟨b, o, rfl, hb, hc⟩ := hrd.cells (by omega)
      have hbN : (fun j => j = g ∨ atB xs.length (some ⟨b, o, none⟩) j) b := .inr ⟨by omega, b, o, rfl, rfl⟩
      have hx := List.getElem?_eq_getElem hlt
      have hxl := hok _ (List.getElem_mem hlt)
      have hl32 : (bl xs[i]).length = 32 := by rw [bl_length]; exact hxl
      have hcs := flatI_at xs hok i _ hx
      have ra : readCells wr ⟨b, o + i * 32, none⟩ 0 32 = some (bl xs[i]) := readCells_cells 32 0 _ hl32 (fun j v hj => by
        rw [show o + i * 32 + 0 + j = o + (32 * i + j) by omega]
        rw [hkp.cell (p := ⟨b, o + (32 * i + j), none⟩) hb hbN]
        exact hc _ _ (hcs j v hj))
      have hlt' : (i : Int) < xs.length := by omega
      have htk : xs.take (i + 1) = xs.take i ++ [xs[i]] := take_snoc' hlt
      have hyield := fun a ha1 ha2 ha3 => hY (xs.take i) xs[i] O a ⟨_, rfl, by rw [← htk]; exact List.take_prefix _ _⟩ ha1 ha2 ha3 hOO
      rw [← htk] at hyield
      simp only [encI] at hyield
      generalize xs[i] = x at *
      have y2 : ∀ (k : Array Value) (t : TypeId), k.size = 32 → canWrite (wr.alloc (.cells k t)) ⟨wr.heap.size, 0, none⟩ 0 32 = true := fun k t hk => canWrite_all (Blk.self_ rfl) 32 hk
      have y3 : ∀ (k : Array Value) (t : TypeId) (l : List Value), k.size = 32 → l.length = 32 → storeSeg (wr.alloc (.cells k t)) ⟨wr.heap.size, 0, none⟩ 0 l = (wr.alloc (.cells k t)).setRow wr.heap.size l.toArray := fun k t l hk hl => storeSeg_all (Blk.self_ rfl) l (by omega)
      have y4 : ∀ (k : Array Value) (t : TypeId) (l : List Value), l.length = 32 → readCells ((wr.alloc (.cells k t)).setRow wr.heap.size l.toArray) ⟨wr.heap.size, 0, none⟩ 0 32 = some l := fun k t l hl => readCells_all (Blk_setRow (Blk.self_ rfl)) 32 (by simpa using hl)
      simp [go_sem, IntWalk.iteOmega, IntWalk.toNatUp, e0, e5, e6, e7, hlt, hlt', ra, y2, y3, y4, hl32, bl_one]
      rw [← zeroI_lit]
      have kz : Below wr.heap.size wr ((wr.alloc (.cells zeroI.toArray 27)).setRow wr.heap.size (bl x).toArray) := below_setRow (ext_alloc wr _) (Nat.le_refl _) _
      generalize (wr.alloc (.cells zeroI.toArray 27)).setRow wr.heap.size (bl x).toArray = w2 at *
      have hj2 := hJ _ _ _ _ hj (Keeps.of_ext (O := fun j => O j ∨ j < W.heap.size) kz)
      have hs2 : wr.heap.size ≤ w2.heap.size := kz.size
      have hkp2 := hkp.trans (Keeps.of_ext kz)
      refine yieldE_of (hyield w2 hj2 (Nat.le_trans hsz hs2) (fun j h => Nat.lt_of_lt_of_le (hOs j h) hs2)) ?_
      rintro v b2 ⟨O', hm, (⟨rfl, hj3⟩ | ⟨rfl, hj3⟩)⟩
      · have hk3 : Keeps (fun j => j = g ∨ atB xs.length (some ⟨b, o, none⟩) j) w b2 := hkp2.trans (hm.2.2.mono fun j _ hj hOj => by
          have h1 := hN j hj
          exact h1.2 (hOO j (Nat.lt_of_lt_of_le h1.1 hkW.size) hOj))
        have hs3 := Nat.le_trans (Nat.le_trans hsz hs2) hm.2.2.size
        simp [go_sem, IntWalk.iteOmega, IntWalk.toNatUp, e0, e5, e6, e7]
        refine roundEnd.mk ⟨i + 1, O', by omega, by simp [go_sem, e0], by simp [go_sem, e5], by simp [go_sem, e6], by simp [go_sem], hj3, hs3, hm.2.1, fun j hj h => ?_, hk3⟩ ?_
        · rcases hm.1 j h with h | h
          · exact hOO j hj h
          · omega
        · simp [go_sem, intOf]; omega
      · simp [go_sem, IntWalk.iteOmega, IntWalk.toNatUp, e0, e5, e6, e7]
        exact ⟨O', xs.take (i + 1), List.take_prefix _ _, Nat.le_trans (Nat.le_trans hsz hs2) hm.2.2.size, .inr hj3⟩
    · obtain rfl : i = xs.length := by omega
      rw [List.take_of_length_le (Nat.le_refl _)] at hj
      have hlt' : ¬ (xs.length : Int) < xs.length := by omega
      simp [go_sem, IntWalk.iteOmega, IntWalk.toNatUp, e0, e5, e6, e7, hlt']
      exact ⟨O, xs, List.prefix_refl _, hsz, .inl ⟨rfl, hj⟩⟩
theorem run_equalIn_func {P : Program} (d : Nat) {t : TypeId} {D : TypeDesc} (ht : P.underlying t = some D) (hD : ∃ a b c, D = .func a b c) (f : Fn) (l m : Array Value) (w : World) :
    (Op.equalIn (d + 1) t (.func f l m) .nilFunc).run P w = .ok false w := by
  obtain ⟨a, b, c, rfl⟩ := hD
  simp only [Op.equalIn, Sem.run_bind, run_underlying ht, Result.andThen_ok, Sem.run_pure]
theorem run_eql_func {P : Program} {t : TypeId} {D : TypeDesc} (ht : P.underlying t = some D) (hD : ∃ a b c, D = .func a b c) (f : Fn) (l m : Array Value) (w : World) :
    (binOp .eql t (.func f l m) .nilFunc).run P w = .ok (.bool false) w := by
  have h : (Op.equal t (.func f l m) .nilFunc).run P w = .ok false w := run_equalIn_func 9999 ht hD f l m w
  simp only [binOp, Sem.run_bind, h, Result.andThen_ok, Sem.run_pure]
def tKeep (W0 : World) (mb lb : Nat) (most : Int) (xs : List (List UInt8)) (O : Nat → Prop) (a : World) : Prop :=
  ∃ v, O = (fun j => j = lb ∨ v.ownBlock = some j) ∧ Blk a lb 37 #[v] ∧ Blk a mb 3 #[.int .i64 most] ∧ a.ownsRow W0.heap.size 27 32 v xs.length (flatI xs) ∧ Below W0.heap.size W0 a
theorem tKeep_stab {W0 W2 a b : World} {mb lb : Nat} {most : Int} {xs : List (List UInt8)} {O : Nat → Prop} (h : tKeep W0 mb lb most xs O a) (hk : Keeps (fun j => O j ∨ j < W2.heap.size) a b) (hm : mb < W2.heap.size) (hw : W0.heap.size ≤ W2.heap.size) : tKeep W0 mb lb most xs O b := by
  obtain ⟨v, rfl, h1, h2, h3, h4⟩ := h
  exact ⟨v, rfl, hk.blk h1 (.inl (.inl rfl)), hk.blk h2 (.inr hm), row_keeps h3 hk fun j hj => .inl (.inr hj), h4.trans (hk.below h4.size fun k hk' => .inr (by omega))⟩
def toldJ (W0 : World) (most : Nat) (pre : List (List UInt8)) (O : Nat → Prop) (a : World) : Prop := pre.length ≤ most ∧ tKeep W0 W0.heap.size (W0.heap.size + 1) most pre O a
def toldX (W0 : World) (most : Nat) (e : Exit) (pre : List (List UInt8)) (O : Nat → Prop) (a : World) : Prop :=
  e = .exit 0 ∧ ∃ pre0 x, pre = pre0 ++ [x] ∧ pre0.length = most ∧ tKeep W0 W0.heap.size (W0.heap.size + 1) most pre0 O a
set_option maxHeartbeats 3200000 in
theorem told_any (xs : List (List UInt8)) (hok : ∀ x ∈ xs, x.length = 32) (A : Option Addr) (cap g : Nat) (w : World) (hlen : xs.length ≤ 1000) (hg : Blk w g 37 #[.slice A xs.length cap]) (hrd : Rd w 32 A xs.length (flatI xs)) (most : Nat) (hmost : most ≤ 9223372036854775807) (M : Int) (hM : M = most) :
    callE Tryz.prog 14 #[.func (.func 51) #[] #[.pointer (some ⟨g, 0, none⟩)], .int .i64 M] w fun v w' => w'.ownsRow w.heap.size 27 32 v (xs.take most).length (flatI (xs.take most)) ∧ Below w.heap.size w w' := by
  subst hM
  refine calls_M Tryz.func14 rfl rfl rfl (Nat.le_of_ble_eq_true rfl) ?_
  have hfun := fun lb w => run_eql_func (P := Tryz.prog) Tryz.underlying40 ⟨_, _, _, rfl⟩ (.func 51) #[] lb w
  simp [go_sem, IntWalk.iteOmega, IntWalk.toNatUp, hfun]
  have hmb : Blk ((w.alloc (.cells #[.int .i64 most] 3)).alloc (.cells #[.slice none 0 0] 37)) w.heap.size 3 #[.int .i64 most] := (Blk.self_ rfl).more _
  have hlb : Blk ((w.alloc (.cells #[.int .i64 most] 3)).alloc (.cells #[.slice none 0 0] 37)) (w.heap.size + 1) 37 #[.slice none 0 0] := Blk.self_ (by simp)
  have k2 : Below w.heap.size w ((w.alloc (.cells #[.int .i64 most] 3)).alloc (.cells #[.slice none 0 0] 37)) := ext_trans (ext_alloc _ _) (ext_alloc _ _)
  have hs2 : ((w.alloc (.cells #[.int .i64 most] 3)).alloc (.cells #[.slice none 0 0] 37)).heap.size = w.heap.size + 2 := by simp
  generalize (w.alloc (.cells #[.int .i64 most] 3)).alloc (.cells #[.slice none 0 0] 37) = W1 at *
  have hseq := wants_seq xs hok A cap g w (by omega) hg hrd
  have hNw : ∀ j, (j = g ∨ atB xs.length A j) → j < w.heap.size := by
    rintro j (rfl | h)
    · exact hg.lt
    · exact atB_lt hrd h
  refine WM_range (w0 := w) (enc := encI) (S := fun l => l = xs) (by simp [go_sem]) entersWants hseq (Keeps.of_ext k2) (fun _ => rfl) (fun j => j = w.heap.size + 1 ∨ (Value.slice none 0 0).ownBlock = some j) ?_ ?_
    (toldJ w most) (toldX w most) ?_ ?_ ?_ ?_ ?_ ?_
  · intro j hj
    have h1 := hNw j hj
    refine ⟨h1, ?_⟩
    rintro (h | h)
    · omega
    · simp [Value.ownBlock] at h
  · rintro j (h | h)
    · omega
    · simp [Value.ownBlock] at h
  · rintro pre O a b ⟨h1, h2⟩ hk
    exact ⟨h1, tKeep_stab h2 hk (by omega) (by omega)⟩
  · rintro e pre O a b ⟨h1, p0, x, h2, h3, h4⟩ hk
    exact ⟨h1, p0, x, h2, h3, tKeep_stab h4 hk (by omega) (by omega)⟩
  · exact ⟨by simp, _, rfl, hlb, hmb, World.ownsRow_nil _ _ _ _, k2⟩
  · rintro pre x O a b l1 o ⟨ys, hys, hpre⟩ hab hla hOl hsl ⟨r, hr⟩ hbs hsa hOa hOO _ ⟨hle, v, rfl, hlb, hmb, hown, hB⟩
    rw [hys] at hpre
    have hpl : pre.length + 1 ≤ xs.length := by have := hpre.length_le; simpa using this
    have hxm : x ∈ xs := hpre.subset (by simp)
    have hl32 : (bl x).length = 32 := by rw [bl_length]; exact hok x hxm
    obtain ⟨_, A', c', rfl⟩ := own_sl hown
    have y2 : ∀ (k : Array Value) (t : TypeId), k.size = 32 → canWrite (a.alloc (.cells k t)) ⟨a.heap.size, 0, none⟩ 0 32 = true := fun k t hk => canWrite_all (Blk.self_ rfl) 32 hk
    have y3 : ∀ (k : Array Value) (t : TypeId) (l : List Value), k.size = 32 → l.length = 32 → storeSeg (a.alloc (.cells k t)) ⟨a.heap.size, 0, none⟩ 0 l = (a.alloc (.cells k t)).setRow a.heap.size l.toArray := fun k t l hk hl => storeSeg_all (Blk.self_ rfl) l (by omega)
    have hhl : ∀ (k : Array Value) (t : TypeId) (cs : Array Value), ((a.alloc (.cells k t)).setRow a.heap.size cs).heap[l1]? = a.heap[l1]? := fun k t cs => by
      rw [setRow_other _ _ _ _ (by omega)]
      exact (ext_alloc a _).block l1 hla
    have hpo : ∀ (k : Array Value) (t : TypeId) (cs : Array Value), ((a.alloc (.cells k t)).setRow a.heap.size cs).putObj l1 (.loop o) = (b.alloc (.cells k t)).setRow b.heap.size cs := fun k t cs => by
      rw [putObj_setRow (by omega), putObj_alloc hla, hab, hbs]
    have kz : Below b.heap.size b ((b.alloc (.cells zeroI.toArray 27)).setRow b.heap.size (bl x).toArray) := below_setRow (ext_alloc b _) (Nat.le_refl _) _
    have hxb : Blk ((b.alloc (.cells zeroI.toArray 27)).setRow b.heap.size (bl x).toArray) b.heap.size 27 (bl x).toArray := Blk_setRow (Blk.self_ rfl)
    have hlc : ∀ i, ((b.alloc (.cells zeroI.toArray 27)).setRow b.heap.size (bl x).toArray).cell? ⟨w.heap.size + 1, i, none⟩ = #[Value.slice A' pre.length c'][i]? := (hlb.keep kz).cell
    have hmc : ∀ i, ((b.alloc (.cells zeroI.toArray 27)).setRow b.heap.size (bl x).toArray).cell? ⟨w.heap.size, i, none⟩ = #[Value.int .i64 (most : Int)][i]? := (hmb.keep kz).cell
    have x1 : readCells ((b.alloc (.cells zeroI.toArray 27)).setRow b.heap.size (bl x).toArray) ⟨a.heap.size, 0, none⟩ 0 32 = some (bl x) := by rw [← hbs]; exact readCells_all hxb 32 (by simpa using hl32)
    rw [zeroI_lit] at hlc hmc x1
    have hszb : b.heap.size < ((b.alloc (.cells zeroI.toArray 27)).setRow b.heap.size (bl x).toArray).heap.size := hxb.lt
    by_cases hq : most ≤ pre.length
    · have hq' : (most : Int) ≤ pre.length := by omega
      simp [go_sem, IntWalk.iteOmega, IntWalk.toNatUp, encI, y2, y3, hl32, bl_one, hhl, hpo, hlc, hmc, hq']
      rw [← zeroI_lit]
      refine ⟨_, ⟨fun j h => .inl h, fun j h => ?_, Keeps.of_ext kz⟩, rfl, pre, x, rfl, by omega, _, rfl, hlb.keep kz, hmb.keep kz, row_below hown kz, hB.trans (kz.mono hB.size)⟩
      have := hOa j h
      omega
    · have hq' : ¬ (most : Int) ≤ pre.length := by omega
      simp [go_sem, IntWalk.iteOmega, IntWalk.toNatUp, encI, y2, y3, hl32, bl_one, hhl, hpo, hlc, hmc, hq', x1]
      rw [fold_i (bl x) hl32, ← zeroI_lit]
      have hownZ := row_below hown kz
      have hlbZ := hlb.keep kz
      have hmbZ := hmb.keep kz
      have hBZ := hB.trans (kz.mono hB.size)
      have hszZ : ((b.alloc (.cells zeroI.toArray 27)).setRow b.heap.size (bl x).toArray).heap.size = b.heap.size + 1 := by simp [World.setRow]
      generalize (b.alloc (.cells zeroI.toArray 27)).setRow b.heap.size (bl x).toArray = c0 at *
      have kW := ext_alloc c0 (.cells (bl x).toArray 27)
      have hrdW : Rd (c0.alloc (.cells (bl x).toArray 27)) 32 (some ⟨b.heap.size + 1, 0, none⟩) 1 (bl x) := by rw [← hszZ]; exact rd_one (Blk.self_ rfl) hl32
      have hownW := row_below hownZ kW
      have hlbW := hlbZ.keep kW
      have hmbW := hmbZ.keep kW
      have hBW := hBZ.trans (kW.mono hBZ.size)
      have kbW : Below b.heap.size b (c0.alloc (.cells (bl x).toArray 27)) := kz.trans (kW.mono kz.size)
      generalize c0.alloc (.cells (bl x).toArray 27) = wA at *
      refine appendE w.heap.size 27 32 32 Tryz.underlying37 el27 hownW hrdW (bl_one x) (by unfold maxLen; omega) (by omega) hBW.size ?_
      intro v' w7 hr7 hg7 hbk7
      obtain ⟨-, A7, c7, hv7⟩ := own_sl hr7
      have hone : v'.oneCell' = true := by rw [hv7]; rfl
      have ne1 := row_ne hownW hlbW (by decide)
      have ne2 := row_ne hownW hmbW (by decide)
      have hlb7 : Blk w7 (w.heap.size + 1) 37 #[.slice A' pre.length c'] := (hg7.block _ hlbW.lt (fun e => ne1 e.symm)).trans hlbW
      have hmb7 : Blk w7 w.heap.size 3 #[.int .i64 most] := (hg7.block _ hmbW.lt (fun e => ne2 e.symm)).trans hmbW
      have hlc7 := hlb7.cell
      have hlf7 := hlb7.frozen
      have hB7 : Below w.heap.size w w7 := hBW.grown hg7 hBW.size (fun k hk => (hownW.lt k hk).1)
      simp [go_sem, IntWalk.iteOmega, IntWalk.toNatUp, hlc7, hlf7, hone]
      have hfl : flatI pre ++ bl x = flatI (pre ++ [x]) := by simp [flatI]
      rw [hfl] at hr7
      refine ⟨fun j => j = w.heap.size + 1 ∨ v'.ownBlock = some j, ⟨?_, ?_, ?_⟩, ?_, v', rfl, Blk_set hlb7, ?_, ?_, ?_⟩
      · rintro j (h | h)
        · exact .inl (.inl h)
        · rcases hbk7 with e | e
          · exact .inl (.inr (e ▸ h))
          · rw [e] at h; injection h with h; exact .inr (h ▸ kbW.size)
      · rintro j (h | h)
        · rw [sz_set, h]; exact hlb7.lt
        · rw [sz_set]; exact (hr7.lt j h).2
      · exact ((Keeps.of_ext (O := fun j => ¬ (j = w.heap.size + 1 ∨ (Value.slice A' pre.length c').ownBlock = some j)) kbW).trans (Keeps.grown hg7 fun k hk h => h (.inr hk))).trans (Keeps.setCell _ _ _ fun h => h (.inl rfl))
      · rw [List.length_append]; simp; omega
      · exact hmb7.farCell (by omega) _
      · have hne7 := row_ne hr7 hlb7 (by decide)
        rw [List.length_append]
        exact row_keeps hr7 (Keeps.setCell (O := fun j => j ≠ w.heap.size + 1) _ _ _ (fun h => h rfl)) (fun j hj e => hne7 (e ▸ hj))
      · exact hB7.setCell (by simp) _
  · rintro xs0 O b D rfl ⟨hle, v, rfl, hlb, hmb, hown, hB⟩ hOD hD hDb hsb
    have hlc := hlb.cell
    obtain ⟨hsl, A', c', rfl⟩ := own_sl hown
    have htk : xs0.take most = xs0 := List.take_of_length_le hle
    rw [htk]
    simp [go_sem, IntWalk.iteOmega, IntWalk.toNatUp, hlc, hDb]
    refine ⟨row_keeps hown (Keeps.putObj (O := fun j => j ≠ D) _ _ _ (fun h => h rfl)) (fun j hj e => hOD (.inr (e ▸ hj))), hB.trans ((Keeps.putObj (O := fun j => j < w.heap.size) _ _ _ (by omega)).below hB.size fun k hk => hk)⟩
  · rintro e pre xs0 O b D rfl hpre ⟨rfl, p0, x, rfl, hp0, v, rfl, hlb, hmb, hown, hB⟩ hOD hD hDb hsb
    have hlc := hlb.cell
    obtain ⟨hsl, A', c', rfl⟩ := own_sl hown
    have htk : xs0.take most = p0 := by
      obtain ⟨r, hr⟩ := hpre
      rw [← hr, ← hp0]
      simp
    rw [htk]
    simp [go_sem, IntWalk.iteOmega, IntWalk.toNatUp, hlc, hDb]
    refine ⟨row_keeps hown (Keeps.putObj (O := fun j => j ≠ D) _ _ _ (fun h => h rfl)) (fun j hj e => hOD (.inr (e ▸ hj))), hB.trans ((Keeps.putObj (O := fun j => j < w.heap.size) _ _ _ (by omega)).below hB.size fun k hk => hk)⟩
end Go.Proofs.YtdjcjjodbniebaaGreatDoor
namespace Go.Proofs.YtdjcjjodbniebaaGreatDoor
open Go.RowKit
set_option linter.unusedVariables false
set_option linter.unusedSimpArgs false
set_option maxRecDepth 10000
section
variable {w : World} {O : Nat → Prop} {f : Nat} {S : FS} {tv : Value} {rk ra ro : Nat} {vs : List Value} {K : List (List UInt8 × Bk × Value)}
set_option maxHeartbeats 1600000 in
theorem wants1_any (h : FIn w O f S tv rk ra ro vs K) (hok : FOk S) {p : Nat} (hp : Blk w p 31 #[.pointer (some ⟨f, 0, none⟩)]) {id : List UInt8} (hid : id.length = 32) :
    callE Tryz.prog 50 #[.agg (bl id).toArray, .pointer (some ⟨p, 0, none⟩)] w fun r w' => r = .bool (askedB S.asked id) ∧ Below w.heap.size w w' := by
  have l32 : (bl id).length = 32 := by rw [bl_length]; exact hid
  have kA := ext_alloc w (.cells (bl id).toArray 27)
  have hI : Blk (w.alloc (.cells (bl id).toArray 27)) w.heap.size 27 (bl id).toArray := Blk.self_ rfl
  have hFA := h.keep kA
  have hpA := hp.keep kA
  refine calls_E Tryz.func50 rfl rfl rfl (Nat.le_of_ble_eq_true rfl) ?_
  simp [go_sem, IntWalk.iteOmega, IntWalk.toNatUp]
  generalize w.alloc (.cells (bl id).toArray 27) = w2 at *
  refine W_still follows (by kernel_rfl) ?_
  have hpd := hpA.drew.cell
  have hc36 := ((hFA.keep (ext_drew w2)).cells hok.last).2.2.2.2.1
  have x1 := readCells_all hI.drew 32 (by simpa using l32)
  have hlook := (run_lookupI idKey (hFA.ma.keep (ext_drew w2)) Tryz.underlying69 id hid (zero_bool _)).2
  rw [boolsL_at] at hlook
  have hlook' : (Instr.lookup 69 (.map (some ra)) (.agg (bl id).toArray) false).run Tryz.prog w2.drew = .ok (.bool (askedB S.asked id)) w2.drew := hlook
  simp [go_sem, IntWalk.iteOmega, IntWalk.toNatUp, hpd, hc36, x1, hlook']
  exact kA.drew
set_option maxHeartbeats 1600000 in
theorem indexF_any (h : FIn w O f S tv rk ra ro vs K) (hok : FOk S) {p : Nat} (hp : Blk w p 31 #[.pointer (some ⟨f, 0, none⟩)]) {A : Option Addr} {c : Nat} {xs : List (List UInt8)} (hxs : ∀ x ∈ xs, x.length = 32) (hr : Rd w 32 A xs.length (flatI xs)) (hlen : xs.length ≤ 100000) :
    callE Tryz.prog 87 #[.slice A xs.length c, .func (.func 50) #[] #[.pointer (some ⟨p, 0, none⟩)]] w fun r w' => ((∃ k : Nat, ∃ hk : k < xs.length, r = .int .i64 k ∧ askedB S.asked xs[k] = true ∧ ∀ m (hm : m < xs.length), m < k → askedB S.asked xs[m] = false) ∨ (r = .int .i64 (-1) ∧ ∀ m (hm : m < xs.length), askedB S.asked xs[m] = false)) ∧ Below w.heap.size w w' := by
  refine calls_E Tryz.func87 rfl rfl rfl (Nat.le_of_ble_eq_true rfl) ?_
  simp [go_sem, IntWalk.iteOmega, IntWalk.toNatUp]
  refine W_loop (fun st wr => ∃ i : Nat, i ≤ xs.length ∧ st 0 = .slice A xs.length c ∧ st 1 = .func (.func 50) #[] #[.pointer (some ⟨p, 0, none⟩)] ∧ st 7 = .int .i64 xs.length ∧ st 8 = .int .i64 i ∧ (∀ m (hm : m < xs.length), m < i → askedB S.asked xs[m] = false) ∧ Below w.heap.size w wr) (fun st _ => xs.length - (intOf (st 8)).toNat) ?_ ?_
  · exact ⟨0, by omega, by simp [go_sem], by simp [go_sem], by simp [go_sem], by simp [go_sem], fun m hm h => by omega, Below.refl _ _⟩
  · rintro st wr ⟨i, hi, e0, e1, e7, e8, hno, hB⟩
    by_cases hlt : i < xs.length
    · have hlt' : (i : Int) < xs.length := by omega
      obtain ⟨b, o, rfl, hb, hc⟩ := (hr.keep hB).cells (by omega)
      have hx := List.getElem?_eq_getElem hlt
      have hxl := hxs _ (List.getElem_mem hlt)
      have hl32 : (bl xs[i]).length = 32 := by rw [bl_length]; exact hxl
      have ra' : readCells wr ⟨b, o + i * 32, none⟩ 0 32 = some (bl xs[i]) := readCells_cells 32 0 _ hl32 (fun j v hj => by
        rw [show o + i * 32 + 0 + j = o + (32 * i + j) by omega]
        exact hc _ _ (flatI_at xs hxs i _ hx j v hj))
      simp [go_sem, IntWalk.iteOmega, IntWalk.toNatUp, e0, e1, e7, e8, hlt, hlt', ra']
      refine callE_of (wants1_any (h.keep hB) hok (hp.keep hB) hxl) ?_
      rintro _ w3 ⟨rfl, k3⟩
      have hB3 := hB.trans (k3.mono hB.size)
      by_cases hq : askedB S.asked xs[i] = true
      · simp [go_sem, IntWalk.iteOmega, IntWalk.toNatUp, e0, e1, e7, e8, hq]
        exact ⟨⟨i, rfl, ⟨hlt, hq⟩, fun m hm h => hno m hm h⟩, hB3⟩
      · have hq' : askedB S.asked xs[i] = false := by simpa using hq
        simp [go_sem, IntWalk.iteOmega, IntWalk.toNatUp, e0, e1, e7, e8, hq']
        refine roundEnd.mk ⟨i + 1, by omega, by simp [go_sem, e0], by simp [go_sem, e1], by simp [go_sem, e7], by simp [go_sem], fun m hm h => ?_, hB3⟩ ?_
        · by_cases hmi : m = i
          · subst hmi; exact hq'
          · exact hno m hm (by omega)
        · simp [go_sem, intOf, e8]; omega
    · have hlt' : ¬ (i : Int) < xs.length := by omega
      simp [go_sem, IntWalk.iteOmega, IntWalk.toNatUp, e0, e1, e7, e8, hlt']
      exact ⟨fun m hm => hno m hm (by omega), hB⟩
end
end Go.Proofs.YtdjcjjodbniebaaGreatDoor
namespace Go.Proofs.YtdjcjjodbniebaaGreatDoor
open Go.RowKit
set_option linter.unusedVariables false
set_option linter.unusedSimpArgs false
set_option maxRecDepth 10000
theorem seg_row {g o : Nat} {t : TypeId} : ∀ (l : List Value) (i : Nat) (w : World) (cur : Array Value), Blk w g t cur → o + i + l.length ≤ cur.size →
    ∃ cur', Blk (storeSeg w ⟨g, o, none⟩ i l) g t cur' ∧ cur'.size = cur.size ∧ (∀ k, cur'[k]? = if o + i ≤ k ∧ k < o + i + l.length then l[k - (o + i)]? else cur[k]?) ∧ Keeps (fun j => j ≠ g) w (storeSeg w ⟨g, o, none⟩ i l)
  | [], i, w, cur, h, _ => ⟨cur, h, rfl, fun k => by rw [if_neg (by simp only [List.length_nil]; omega)], Keeps.refl _ _⟩
  | v :: l, i, w, cur, h, hs => by
    simp only [List.length_cons] at hs
    obtain ⟨cur', h1, h2, h3, h4⟩ := seg_row (g := g) (o := o) l (i + 1) (w.setCell ⟨g, o + i, none⟩ v) (cur.setIfInBounds (o + i) v) (Blk_set h) (by rw [Array.size_setIfInBounds]; omega)
    have e : storeSeg w ⟨g, o, none⟩ i (v :: l) = storeSeg (w.setCell ⟨g, o + i, none⟩ v) ⟨g, o, none⟩ (i + 1) l := by
      show storeSeg (w.setCell ((⟨g, o, none⟩ : Addr).add i) v) ⟨g, o, none⟩ (i + 1) l = _
      rw [add_none]
    rw [e]
    refine ⟨cur', h1, by rw [h2]; simp, fun k => ?_, (Keeps.setCell w ⟨g, o + i, none⟩ v (by simp)).trans h4⟩
    rw [h3 k]
    by_cases hk : k = o + i
    · subst hk
      rw [if_neg (by omega), if_pos (by simp), Nat.sub_self]
      simp [Array.getElem?_setIfInBounds]
      omega
    · by_cases hk2 : o + (i + 1) ≤ k ∧ k < o + (i + 1) + l.length
      · rw [if_pos hk2, if_pos (by simp only [List.length_cons]; omega), show k - (o + i) = (k - (o + (i + 1))) + 1 by omega]
        rfl
      · rw [if_neg hk2, if_neg (by simp only [List.length_cons]; omega), Array.getElem?_setIfInBounds_ne (by omega)]
/-- a row of names in a block -/
def Names (w : World) (g : Nat) (L : List (List UInt8)) : Prop := ∃ cur, Blk w g 27 cur ∧ L.length * 32 ≤ cur.size ∧ ∀ m (hm : m < L.length) j v, (bl L[m])[j]? = some v → cur[32 * m + j]? = some v
theorem Names.keep {w w' : World} {g : Nat} {L : List (List UInt8)} (h : Names w g L) (hk : Below w.heap.size w w') : Names w' g L := by
  obtain ⟨cur, h1, h2, h3⟩ := h
  exact ⟨cur, h1.keep hk, h2, h3⟩
theorem Names.lt {w : World} {g : Nat} {L : List (List UInt8)} (h : Names w g L) : g < w.heap.size := by
  obtain ⟨cur, h1, _⟩ := h
  exact h1.lt
theorem Names.read {w : World} {g : Nat} {L : List (List UInt8)} (h : Names w g L) (hok : ∀ x ∈ L, x.length = 32) {i : Nat} (hi : i < L.length) : readCells w ⟨g, i * 32, none⟩ 0 32 = some (bl L[i]) := by
  obtain ⟨cur, h1, h2, h3⟩ := h
  refine readCells_cells 32 0 _ (by rw [bl_length]; exact hok _ (List.getElem_mem hi)) fun j v hj => ?_
  rw [h1.cell, show i * 32 + 0 + j = 32 * i + j by omega]
  exact h3 i hi j v hj
theorem Names.set {w : World} {g : Nat} {L : List (List UInt8)} (h : Names w g L) (hok : ∀ x ∈ L, x.length = 32) {i : Nat} (hi : i < L.length) {x : List UInt8} (hx : x.length = 32) :
    Names (storeSeg w ⟨g, i * 32, none⟩ 0 (bl x)) g (L.set i x) ∧ Keeps (fun j => j ≠ g) w (storeSeg w ⟨g, i * 32, none⟩ 0 (bl x)) ∧ canWrite w ⟨g, i * 32, none⟩ 0 32 = true := by
  obtain ⟨cur, h1, h2, h3⟩ := h
  have hl : (bl x).length = 32 := by rw [bl_length]; exact hx
  obtain ⟨cur', g1, g2, g3, g4⟩ := seg_row (bl x) 0 w cur h1 (o := i * 32) (by rw [hl]; omega)
  refine ⟨⟨cur', g1, by rw [g2, List.length_set]; exact h2, fun m hm j v hj => ?_⟩, g4, canWrite_blk h1 32 (i * 32) 0 (by omega)⟩
  rw [g3, hl]
  simp only [List.length_set] at hm
  by_cases hmi : m = i
  · subst hmi
    rw [List.getElem_set_self] at hj
    have hj32 := (List.getElem?_eq_some_iff.1 hj).1
    rw [if_pos (by omega), show 32 * m + j - (m * 32 + 0) = j by omega]
    exact hj
  · rw [List.getElem_set_ne (Ne.symm hmi)] at hj
    have hj32 := (List.getElem?_eq_some_iff.1 hj).1
    rw [bl_length, hok _ (List.getElem_mem hm)] at hj32
    rw [if_neg (by omega)]
    exact h3 m hm j v hj
theorem flatI_inv : ∀ (L : List (List UInt8)) (hok : ∀ x ∈ L, x.length = 32) (q : Nat) (v : Value), (flatI L)[q]? = some v → ∃ m, ∃ hm : m < L.length, ∃ j, q = 32 * m + j ∧ (bl L[m])[j]? = some v
  | [], _, q, v, h => by simp [flatI] at h
  | x :: L, hok, q, v, h => by
    have hl : (bl x).length = 32 := by rw [bl_length]; exact hok x (by simp)
    change ((bl x) ++ flatI L)[q]? = some v at h
    by_cases hq : q < 32
    · rw [List.getElem?_append_left (by omega)] at h
      exact ⟨0, by simp, q, by omega, h⟩
    · rw [List.getElem?_append_right (by omega), hl] at h
      obtain ⟨m, hm, j, h1, h2⟩ := flatI_inv L (fun x hx => hok x (by simp [hx])) (q - 32) v h
      exact ⟨m + 1, by simpa using hm, j, by omega, by simpa using h2⟩
theorem Names.rd {w : World} {g : Nat} {L : List (List UInt8)} (h : Names w g L) (hok : ∀ x ∈ L, x.length = 32) {k : Nat} (hk : k ≤ L.length) : Rd w 32 (some ⟨g, 0, none⟩) k (flatI (L.take k)) := by
  have hok' : ∀ x ∈ L.take k, x.length = 32 := fun x hx => hok x (List.mem_of_mem_take hx)
  have hlt := h.lt
  obtain ⟨cur, h1, h2, h3⟩ := h
  refine ⟨?_, fun _ => ⟨g, 0, rfl, hlt, fun q v hq => ?_⟩⟩
  · have key : ∀ (M : List (List UInt8)), (∀ x ∈ M, x.length = 32) → (flatI M).length = M.length * 32 := by
      intro M
      induction M with
      | nil => intro _; rfl
      | cons x M ih =>
        intro hM
        show (bl x ++ flatI M).length = _
        rw [List.length_append, bl_length, hM x (by simp), ih fun y hy => hM y (by simp [hy]), List.length_cons]
        omega
    rw [key _ hok', List.length_take]
    congr 1
    omega
  · obtain ⟨m, hm, j, rfl, h4⟩ := flatI_inv _ hok' q v hq
    rw [Nat.zero_add, h1.cell]
    have hm' : m < L.length := by simp at hm; omega
    refine h3 m hm' j v ?_
    rw [List.getElem_take] at h4
    exact h4
theorem Names.of_row {w : World} {base n c : Nat} {g : Nat} {L : List (List UInt8)} (h : w.ownsRow base 27 32 (.slice (some ⟨g, 0, none⟩) n c) n (flatI L)) (hok : ∀ x ∈ L, x.length = 32) (hn : L.length = n) : Names w g L := by
  rcases h.2 with ⟨e, _⟩ | ⟨g', cap, cur, e, hb, hg, hnc, hm, hs, ht⟩
  · cases e
  · injection e with e _ e3
    injection e with e
    injection e with e
    subst e
    refine ⟨cur, hg, by rw [hn, hs]; exact Nat.mul_le_mul_right _ hnc, fun m hm j v hj => ?_⟩
    have h1 := flatI_at L hok m _ (List.getElem?_eq_getElem hm) j v hj
    rw [← ht, List.getElem?_take] at h1
    split at h1
    · rw [← Array.getElem?_toList]; exact h1
    · cases h1
end Go.Proofs.YtdjcjjodbniebaaGreatDoor
namespace Go.Proofs.YtdjcjjodbniebaaGreatDoor
open Go.RowKit
set_option linter.unusedVariables false
set_option linter.unusedSimpArgs false
set_option maxRecDepth 10000
theorem zero_id (w : World) : (zeroValue 27).run Tryz.prog w = .ok (.agg zeroI.toArray) w := rfl
theorem zeroCells_one {n : Nat} : ∀ v ∈ (Builtin.zeroCells (Value.agg zeroI.toArray).cells n).toList, v.oneCell' = true := by
  intro v hv
  unfold Builtin.zeroCells at hv
  rw [Array.mem_toList_iff] at hv
  obtain ⟨i, _, rfl⟩ := Array.mem_map.1 hv
  have hz : (Value.agg zeroI.toArray).cells = zeroI.toArray := rfl
  rw [hz]
  have hs : zeroI.toArray.size = 32 := rfl
  have hi : i % zeroI.toArray.size < 32 := by rw [hs]; exact Nat.mod_lt _ (by omega)
  generalize i % zeroI.toArray.size = k at hi
  have : ∀ k, k < 32 → ((zeroI.toArray)[k]!).oneCell' = true := by decide
  exact this k hi
theorem clear_any {w : World} {g : Nat} {L : List (List UInt8)} (h : Names w g L) (hok : ∀ x ∈ L, x.length = 32) {i m c ty : Nat} (hm : i + m = L.length) {A : Option Addr} (hA : 0 < m → A = some ⟨g, i * 32, none⟩) :
    ∃ w', (Builtin.clear_ #[37] ty #[.slice A m c]).run Tryz.prog w = .ok (.tuple #[]) w' ∧ Names w' g (L.take i) ∧ Keeps (fun j => j ≠ g) w w' := by
  obtain ⟨cur, h1, h2, h3⟩ := h
  have hti : (L.take i).length = i := by rw [List.length_take]; omega
  by_cases h0 : m = 0
  · subst h0
    refine ⟨w, ?_, ⟨cur, h1, by rw [hti]; omega, fun q hq j v hj => ?_⟩, Keeps.refl _ _⟩
    · cases A with
      | none => simp [Builtin.clear_, run_underlying Tryz.underlying37]
      | some a => simp [Builtin.clear_, run_underlying Tryz.underlying37]
    · rw [List.getElem_take] at hj
      exact h3 q (by omega) j v hj
  · obtain ⟨m', rfl⟩ : ∃ m', m = m' + 1 := ⟨m - 1, by omega⟩
    rw [hA (by omega)]
    have hzl : (Builtin.zeroCells (Value.agg zeroI.toArray).cells (m' + 1)).toList.length = (m' + 1) * 32 := by simp [Builtin.zeroCells]; rfl
    have hst := run_storeCells_at (P := Tryz.prog) g (i * 32) 27 (Builtin.zeroCells (Value.agg zeroI.toArray).cells (m' + 1)).toList 0 cur w h1 (by rw [hzl]; omega) zeroCells_one
    have hcl : ∀ (zv : Value) (Z : List Value), (∀ w, (zeroValue 27).run Tryz.prog w = .ok zv w) → (Builtin.zeroCells zv.cells (m' + 1)).toList = Z → Z.length = (m' + 1) * 32 → (storeCells ⟨g, i * 32, none⟩ Z 0).run Tryz.prog w = .ok () (w.setRow g (cur.toList.take (i * 32 + 0) ++ Z ++ cur.toList.drop (i * 32 + 0 + Z.length)).toArray) →
        (Builtin.clear_ #[37] ty #[.slice (some ⟨g, i * 32, none⟩) (m' + 1) c]).run Tryz.prog w = .ok (.tuple #[]) (w.setRow g (cur.toList.take (i * 32 + 0) ++ Z ++ cur.toList.drop (i * 32 + 0 + Z.length)).toArray) := by
      intro zv Z hz hZ hZl hs
      simp only [Nat.add_zero, List.append_assoc] at hs ⊢
      simp [Builtin.clear_, run_underlying Tryz.underlying37, hz, hZ, hs]
    refine ⟨_, hcl _ _ zero_id rfl hzl hst, ⟨_, Blk_setRow h1, ?_, fun q hq j v hj => ?_⟩, Keeps.setRow _ _ _ (by simp)⟩
    · rw [hti, List.size_toArray, List.length_append, List.length_append, List.length_take, List.length_drop, hzl, Array.length_toList]
      omega
    · rw [List.getElem_take] at hj
      have hj32 := (List.getElem?_eq_some_iff.1 hj).1
      rw [hti] at hq
      have hx := h3 q (by omega) j v hj
      rw [bl_length, hok _ (List.getElem_mem (show q < L.length by omega))] at hj32
      rw [List.getElem?_toArray, List.append_assoc, List.getElem?_append_left (by rw [List.length_take, Array.length_toList]; omega), List.getElem?_take, if_pos (by omega), Array.getElem?_toList]
      exact hx
end Go.Proofs.YtdjcjjodbniebaaGreatDoor
