/-
  Texts joined: FDel4, FWants, FStepsL.
-/
import Derived.Test.YtdjcjjodbniebaaGreatDoorJoin35
namespace Go.Proofs.YtdjcjjodbniebaaGreatDoor
open Go.RowKit
set_option linter.unusedVariables false
set_option linter.unusedSimpArgs false
set_option maxRecDepth 10000
theorem grown_keeps {w w' : World} {g : Nat} (h : Keeps (fun j => j ≠ g) w w') : w.grownBy w' (some g) := ⟨h.os, h.tape, h.output, h.size, fun k hk hne => h.block k hk fun e => hne (by rw [e])⟩
/-- the names that are not asked for -/
def freeL (S : FS) (ids : List (List UInt8)) : List (List UInt8) := ids.filter fun x => !askedB S.asked x
/-- what slices.DeleteFunc makes of a row of names -/
def DelPost (S : FS) (ids : List (List UInt8)) (v : Value) (w : World) (r : Value) (w' : World) : Prop :=
  ∃ A c, r = .slice A (freeL S ids).length c ∧ Rd w' 32 A (freeL S ids).length (flatI (freeL S ids)) ∧ (∀ j, atB (freeL S ids).length A j → v.ownBlock = some j) ∧ w.grownBy w' v.ownBlock
section
variable {w : World} {O : Nat → Prop} {f : Nat} {S : FS} {tv : Value} {rk ra ro : Nat} {vs : List Value} {K : List (List UInt8 × Bk × Value)}
set_option maxHeartbeats 6400000 in
theorem del_any (h : FIn w O f S tv rk ra ro vs K) (hok : FOk S) {p : Nat} (hp : Blk w p 31 #[.pointer (some ⟨f, 0, none⟩)]) {base : Nat} {v : Value} {ids : List (List UInt8)} (hids : ∀ x ∈ ids, x.length = 32) (hlen : ids.length ≤ 1000) (hown : w.ownsRow base 27 32 v ids.length (flatI ids)) :
    callE Tryz.prog 49 #[v, .func (.func 50) #[] #[.pointer (some ⟨p, 0, none⟩)]] w (DelPost S ids v w) := by
  obtain ⟨-, A, c, rfl⟩ := own_sl hown
  refine calls_E Tryz.func49 rfl rfl rfl (Nat.le_of_ble_eq_true rfl) ?_
  simp [go_sem, IntWalk.iteOmega, IntWalk.toNatUp]
  refine callE_of (indexF_any h hok hp hids (Rd.of_own hown) (by omega)) ?_
  rintro r w1 ⟨hr, k1⟩
  rcases hr with ⟨k, hk, rfl, hka, hno⟩ | ⟨rfl, hno⟩
  · obtain ⟨g, rfl⟩ : ∃ g, A = some ⟨g, 0, none⟩ := by
      rcases hown.2 with ⟨_, h0⟩ | ⟨g, cap, cur, e, _⟩
      · omega
      · injection e with e _ _
        exact ⟨g, e⟩
    have hcap : ids.length ≤ c := by
      rcases hown.2 with ⟨e, _⟩ | ⟨g', cap, cur, e, _, _, hnc, _⟩
      · cases e
      · injection e with _ _ e3
        omega
    have hN0 : Names w g ids := Names.of_row hown hids rfl
    have hpg : p ≠ g := fun e => row_ne hown hp (by decide) (e ▸ rfl)
    have hk1 : (k : Int) ≠ -1 := by omega
    have hk1' : ((k : Int) == -1) = false := by rw [beq_eq_false_iff_ne]; exact hk1
    have hkE : IntKind.i64.wrap ((k : Int) + 1) = (k : Int) + 1 := by rw [wrap_i64_if, if_pos (by omega)]
    simp [go_sem, IntWalk.iteOmega, IntWalk.toNatUp, hk1', hkE]
    have fil : ∀ j (hj : j < ids.length), (freeL S (ids.take (j + 1))) = freeL S (ids.take j) ++ (if askedB S.asked ids[j] = true then [] else [ids[j]]) := fun j hj => by
      unfold freeL
      rw [take_snoc' hj, List.filter_append]
      congr 1
      cases ha : askedB S.asked ids[j] <;> simp [ha]
    have fk : freeL S (ids.take k) = ids.take k := by
      unfold freeL
      rw [List.filter_eq_self]
      intro x hx
      obtain ⟨m, hm, rfl⟩ := List.getElem_of_mem hx
      rw [List.length_take] at hm
      rw [List.getElem_take, hno m (by omega) (by omega)]
      rfl
    refine W_loop (fun st wr => ∃ (i j : Nat) (cur : List (List UInt8)), i < j ∧ j ≤ ids.length ∧ st 0 = .slice (some ⟨g, 0, none⟩) ids.length c ∧ st 1 = .func (.func 50) #[] #[.pointer (some ⟨p, 0, none⟩)] ∧ st 5 = .int .i64 i ∧ st 6 = .int .i64 j ∧ cur.length = ids.length ∧ (∀ x ∈ cur, x.length = 32) ∧ cur.take i = freeL S (ids.take j) ∧ cur.drop j = ids.drop j ∧ Names wr g cur ∧ Keeps (fun j => j ≠ g) w wr) (fun st _ => ids.length - (intOf (st 6)).toNat) ?_ ?_
    · refine ⟨k, k + 1, ids, by omega, by omega, by simp [go_sem], by simp [go_sem], by simp [go_sem], by simp [go_sem], rfl, hids, ?_, rfl, hN0.keep k1, Keeps.of_ext k1⟩
      rw [fil k hk, if_pos hka, List.append_nil, fk]
    · rintro st wr ⟨i, j, cur, hij, hj, e0, e1, e5, e6, hcl, hc32, hci, hcd, hNr, hKr⟩
      have hFr := h.offRow hown (by decide) (by decide) (by decide) (by decide) (grown_keeps hKr)
      have hpr : Blk wr p 31 #[.pointer (some ⟨f, 0, none⟩)] := hKr.blk hp hpg
      by_cases hlt : j < ids.length
      · have hlt' : (j : Int) < ids.length := by omega
        have hjc : j < cur.length := by omega
        have hx : cur[j] = ids[j] := by
          have h1 : cur[j]? = ids[j]? := by
            have := congrArg (fun l => l[0]?) hcd
            simpa [List.getElem?_drop] using this
          rw [List.getElem?_eq_getElem hjc, List.getElem?_eq_getElem hlt] at h1
          exact Option.some.inj h1
        have hxl : (cur[j]).length = 32 := hc32 _ (List.getElem_mem hjc)
        have rx := hNr.read hc32 hjc
        have hfl := fil j hlt
        have hl32 : (bl cur[j]).length = 32 := by rw [bl_length]; exact hxl
        rw [← hx] at hfl
        have hjE : IntKind.i64.wrap ((j : Int) + 1) = (j : Int) + 1 := by rw [wrap_i64_if, if_pos (by omega)]
        have hiE : IntKind.i64.wrap ((i : Int) + 1) = (i : Int) + 1 := by rw [wrap_i64_if, if_pos (by omega)]
        have hcd' : ∀ (cur' : List (List UInt8)), cur'.length = cur.length → cur'.drop (j + 1) = cur.drop (j + 1) → cur'.drop (j + 1) = ids.drop (j + 1) := fun cur' _ he => by
          rw [he]
          have := congrArg (List.drop 1) hcd
          simpa [List.drop_drop] using this
        generalize hxx : cur[j] = x at *
        have y2 : ∀ (k : Array Value) (t : TypeId), k.size = 32 → canWrite (wr.alloc (.cells k t)) ⟨wr.heap.size, 0, none⟩ 0 32 = true := fun k t hk => canWrite_all (Blk.self_ rfl) 32 hk
        have y3 : ∀ (k : Array Value) (t : TypeId) (l : List Value), k.size = 32 → l.length = 32 → storeSeg (wr.alloc (.cells k t)) ⟨wr.heap.size, 0, none⟩ 0 l = (wr.alloc (.cells k t)).setRow wr.heap.size l.toArray := fun k t l hk hl => storeSeg_all (Blk.self_ rfl) l (by omega)
        have y4 : ∀ (k : Array Value) (t : TypeId) (l : List Value), l.length = 32 → readCells ((wr.alloc (.cells k t)).setRow wr.heap.size l.toArray) ⟨wr.heap.size, 0, none⟩ 0 32 = some l := fun k t l hl => readCells_all (Blk_setRow (Blk.self_ rfl)) 32 (by simpa using hl)
        simp [go_sem, IntWalk.iteOmega, IntWalk.toNatUp, e0, e1, e5, e6, hlt, hlt', rx, y2, y3, y4, hl32, bl_one]
        rw [← zeroI_lit]
        have kz : Below wr.heap.size wr ((wr.alloc (.cells zeroI.toArray 27)).setRow wr.heap.size (bl x).toArray) := below_setRow (ext_alloc wr _) (Nat.le_refl _) _
        have hxb : Blk ((wr.alloc (.cells zeroI.toArray 27)).setRow wr.heap.size (bl x).toArray) wr.heap.size 27 (bl x).toArray := Blk_setRow (Blk.self_ rfl)
        generalize (wr.alloc (.cells zeroI.toArray 27)).setRow wr.heap.size (bl x).toArray = w2 at *
        refine callE_of (wants1_any (hFr.keep kz) hok (hpr.keep kz) hxl) ?_
        rintro _ w3 ⟨rfl, k3⟩
        have k23 : Below wr.heap.size wr w3 := kz.trans (k3.mono kz.size)
        have hN3 := hNr.keep k23
        have hK3 := hKr.trans (Keeps.of_ext k23)
        have hx3 := readCells_all (hxb.keep k3) 32 (by simpa using hl32)
        by_cases hq : askedB S.asked x = true
        · rw [if_pos hq, List.append_nil] at hfl
          simp [go_sem, IntWalk.iteOmega, IntWalk.toNatUp, e0, e1, e5, e6, hq, hjE]
          refine roundEnd.mk ⟨i, j + 1, cur, by omega, by omega, by simp [go_sem, e0], by simp [go_sem, e1], by simp [go_sem, e5], by simp [go_sem], hcl, hc32, by rw [hfl]; exact hci, hcd' cur rfl rfl, hN3, hK3⟩ ?_
          simp [go_sem, intOf, e6]; omega
        · rw [if_neg hq] at hfl
          have hq' : askedB S.asked x = false := by simpa using hq
          have hic : i < cur.length := by omega
          have hic' : (i : Int) < ids.length := by omega
          have hin : i < ids.length := by omega
          obtain ⟨hNs, hKs, hcw⟩ := hN3.set hc32 hic hxl
          simp [go_sem, IntWalk.iteOmega, IntWalk.toNatUp, e0, e1, e5, e6, hq', hic', hin, hx3, hcw, hl32, bl_one, hjE, hiE]
          refine roundEnd.mk ⟨i + 1, j + 1, cur.set i x, by omega, by omega, by simp [go_sem, e0], by simp [go_sem, e1], by simp [go_sem], by simp [go_sem], by simpa using hcl, fun y hy => ?_, ?_, hcd' _ (by simp) (by rw [List.drop_set]; rw [if_pos (by omega)]), hNs, hK3.trans hKs⟩ ?_
          · rcases List.mem_or_eq_of_mem_set hy with hy | rfl
            · exact hc32 y hy
            · exact hxl
          · rw [hfl, ← hci]
            have hsi : i < (cur.set i x).length := by simpa using hic
            rw [take_snoc' hsi, List.getElem_set_self, List.take_set_of_le (by omega)]
          · simp [go_sem, intOf, e6]; omega
      · obtain rfl : j = ids.length := by omega
        have hlt' : ¬ (ids.length : Int) < ids.length := by omega
        rw [List.take_of_length_le (Nat.le_refl _)] at hci
        have hfi : (freeL S ids).length = i := by rw [← hci, List.length_take]; omega
        have hi1 : (i : Int) ≤ ids.length := by omega
        have hi2 : (i : Int) ≤ c := by omega
        obtain ⟨w4, hrun, hN4, hK4⟩ := clear_any (ty := 0) (c := c - i) hNr hc32 (i := i) (m := ids.length - i) (by omega) (A := some ⟨g, i * 32, none⟩) (fun _ => rfl)
        have hc4 : ∀ x ∈ cur.take i, x.length = 32 := fun x hx => hc32 x (List.mem_of_mem_take hx)
        have hrd := hN4.rd hc4 (k := i) (by rw [List.length_take]; omega)
        rw [List.take_take, Nat.min_self, hci] at hrd
        have hK := hKr.trans hK4
        simp [go_sem, IntWalk.iteOmega, IntWalk.toNatUp, e0, e1, e5, e6, hlt', hi1, hi2, hrun]
        refine ⟨some ⟨g, 0, none⟩, c, by rw [hfi], ?_, fun j hj => ?_, grown_keeps hK⟩
        · rw [hfi]; exact hrd
        · obtain ⟨_, b, o, e, rfl⟩ := hj
          injection e with e
          injection e with e
          subst e
          rfl
  · have hf : freeL S ids = ids := by
      unfold freeL
      rw [List.filter_eq_self]
      intro x hx
      obtain ⟨m, hm, rfl⟩ := List.getElem_of_mem hx
      rw [hno m hm]
      rfl
    simp [go_sem, IntWalk.iteOmega, IntWalk.toNatUp]
    unfold DelPost
    rw [hf]
    exact ⟨A, c, rfl, Rd.keep (Rd.of_own hown) k1, fun j hj => atB_row hown hj, ⟨k1.os, k1.tape, k1.output, k1.size, fun q hq _ => k1.block q hq⟩⟩
end
end Go.Proofs.YtdjcjjodbniebaaGreatDoor
namespace Go.Proofs.YtdjcjjodbniebaaGreatDoor
open Go.RowKit
set_option linter.unusedVariables false
set_option linter.unusedSimpArgs false
set_option maxRecDepth 10000
/-- the names that a fetch wants -/
noncomputable def wantsF (S : FS) : List (List UInt8) := freeL S ((missL S).map Prod.fst)
/-- a fetch's wants, as a function that can be gone through -/
def WantsAt (w : World) (r : Value) (L : List (List UInt8)) : Prop := ∃ g A c, r = .func (.func 51) #[] #[.pointer (some ⟨g, 0, none⟩)] ∧ Blk w g 37 #[.slice A L.length c] ∧ Rd w 32 A L.length (flatI L) ∧ (∀ x ∈ L, x.length = 32) ∧ L.length ≤ 32
section
variable {w : World} {O : Nat → Prop} {f : Nat} {S : FS} {tv : Value} {rk ra ro : Nat} {vs : List Value} {K : List (List UInt8 × Bk × Value)}
set_option maxHeartbeats 1600000 in
theorem fwants_any (h : FIn w O f S tv rk ra ro vs K) (hok : FOk S) (hC : Cubes w) :
    callE Tryz.prog 15 #[.pointer (some ⟨f, 0, none⟩)] w fun r w' => WantsAt w' r (wantsF S) ∧ Below w.heap.size w w' := by
  have k2 : Below w.heap.size w ((w.alloc (.cells #[.pointer (some ⟨f, 0, none⟩)] 31)).alloc (.cells #[.slice none 0 0] 37)) := ext_trans (ext_alloc _ _) (ext_alloc _ _)
  have hp : Blk ((w.alloc (.cells #[.pointer (some ⟨f, 0, none⟩)] 31)).alloc (.cells #[.slice none 0 0] 37)) w.heap.size 31 #[.pointer (some ⟨f, 0, none⟩)] := (Blk.self_ rfl).more _
  have hg : Blk ((w.alloc (.cells #[.pointer (some ⟨f, 0, none⟩)] 31)).alloc (.cells #[.slice none 0 0] 37)) (w.heap.size + 1) 37 #[.slice none 0 0] := Blk.self_ (by simp)
  have hsz : ((w.alloc (.cells #[.pointer (some ⟨f, 0, none⟩)] 31)).alloc (.cells #[.slice none 0 0] 37)).heap.size = w.heap.size + 2 := by simp
  refine calls_E Tryz.func15 rfl rfl rfl (Nat.le_of_ble_eq_true rfl) ?_
  simp [go_sem, IntWalk.iteOmega, IntWalk.toNatUp]
  generalize (w.alloc (.cells #[.pointer (some ⟨f, 0, none⟩)] 31)).alloc (.cells #[.slice none 0 0] 37) = w2 at *
  have hF2 := h.keep k2
  have hpc := hp.cell
  have r0 := fun k => callE_eq noinit_fnone (fnone_made hF2.blk (FIn.c35 hok.last)) k
  simp [go_sem, IntWalk.iteOmega, IntWalk.toNatUp, hpc, r0]
  refine callE_of (fmissed_any hF2 hok (hC.keep k2)) ?_
  rintro _ w3 ⟨ov, us, rfl, hov, hM, hR, hW, k3⟩
  have hids : ∀ x ∈ (missL S).map Prod.fst, x.length = 32 := fun x hx => by
    obtain ⟨y, hy, rfl⟩ := List.mem_map.1 hx
    exact (hW.2 y hy).1
  have hln : ((missL S).map Prod.fst).length = (missL S).length := List.length_map ..
  have hov' : w3.ownsRow w2.heap.size 27 32 ov ((missL S).map Prod.fst).length (flatI ((missL S).map Prod.fst)) := by rw [hln]; exact hov
  have hl32 : ((missL S).map Prod.fst).length ≤ 32 := by rw [hln]; exact hW.1
  have hwd : wantsF S = freeL S ((missL S).map Prod.fst) := rfl
  rw [hwd]
  generalize (missL S).map Prod.fst = ids at *
  obtain ⟨-, oA, oc, rfl⟩ := own_sl hov'
  have hp3 := hp.keep k3
  have hg3 := hg.keep k3
  have kC : Below w2.heap.size w2 (w3.setCell ⟨w.heap.size + 1, 0, none⟩ (.slice oA ids.length oc)) → True := fun _ => trivial
  have hlt3 := k3.size
  have hovb : ∀ j, (Value.slice oA ids.length oc).ownBlock = some j → w.heap.size + 2 ≤ j := fun j hj => by have := (hov'.lt j hj).1; omega
  have kS : Keeps (fun j => j ≠ w.heap.size + 1) w3 (w3.setCell ⟨w.heap.size + 1, 0, none⟩ (.slice oA ids.length oc)) := Keeps.setCell _ _ _ (by simp)
  have hp4 : Blk (w3.setCell ⟨w.heap.size + 1, 0, none⟩ (.slice oA ids.length oc)) w.heap.size 31 #[.pointer (some ⟨f, 0, none⟩)] := kS.blk hp3 (by omega)
  have hg4 : Blk (w3.setCell ⟨w.heap.size + 1, 0, none⟩ (.slice oA ids.length oc)) (w.heap.size + 1) 37 #[.slice oA ids.length oc] := Blk_set hg3
  have hov4 := row_keeps hov' kS (fun j hj => by have := hovb j hj; omega)
  have kB4 : Below w.heap.size w (w3.setCell ⟨w.heap.size + 1, 0, none⟩ (.slice oA ids.length oc)) := (k2.trans (k3.mono (by omega))).trans (kS.below (by omega) fun k hk => by omega)
  have hgc := hg3.cell
  have hgf := hg3.frozen
  simp [go_sem, IntWalk.iteOmega, IntWalk.toNatUp, hgc, hgf]
  have hg4c := hg4.cell
  have hsz4 : (w3.setCell ⟨w.heap.size + 1, 0, none⟩ (.slice oA ids.length oc)).heap.size = w3.heap.size := sz_set _ _ _
  generalize w3.setCell ⟨w.heap.size + 1, 0, none⟩ (.slice oA ids.length oc) = w4 at *
  refine callE_of (del_any (h.keep kB4) hok hp4 hids (by omega) hov4) ?_
  rintro _ w5 ⟨A, c, rfl, hrd, hat, hgr⟩
  have kG := Keeps.grown (O := fun j => (Value.slice oA ids.length oc).ownBlock ≠ some j) hgr fun k hk h => h hk
  have hg5 := kG.blk hg4 fun e => by have := hovb _ e; omega
  have hg5c := hg5.cell
  have hg5f := hg5.frozen
  simp [go_sem, IntWalk.iteOmega, IntWalk.toNatUp, hg5c, hg5f]
  have kS5 : Keeps (fun j => j ≠ w.heap.size + 1) w5 (w5.setCell ⟨w.heap.size + 1, 0, none⟩ (.slice A (freeL S ids).length c)) := Keeps.setCell _ _ _ (by simp)
  refine ⟨⟨w.heap.size + 1, A, c, rfl, Blk_set hg5, Rd_on hrd kS5 fun j hj => ?_, fun x hx => hids x (List.mem_filter.1 hx).1, Nat.le_trans (List.length_filter_le _ _) hl32⟩, ?_⟩
  · have := hovb j (hat j hj)
    omega
  · refine kB4.trans ((kG.below (by omega) fun k hk e => ?_).trans (kS5.below ?_ fun k hk => by omega))
    · have := hovb k e; omega
    · have := kG.size; omega
end
section
variable {w : World} {O : Nat → Prop} {f : Nat} {S : FS}
theorem WantsAt.keep {w w' : World} {r : Value} {L : List (List UInt8)} (h : WantsAt w r L) (hk : Below w.heap.size w w') : WantsAt w' r L := by
  obtain ⟨g, A, c, h1, h2, h3, h4⟩ := h
  exact ⟨g, A, c, h1, h2.keep hk, h3.keep hk, h4⟩
theorem fat_wants (h : FAt w O f S) (hok : FOk S) (hC : Cubes w) :
    callE Tryz.prog 15 #[.pointer (some ⟨f, 0, none⟩)] w fun r w' => WantsAt w' r (wantsF S) ∧ Below w.heap.size w w' := by
  obtain ⟨tv, rk, ra, ro, vs, K, h⟩ := h
  exact fwants_any h hok hC
/-- its first names, told -/
theorem told_wants {r : Value} {L : List (List UInt8)} (h : WantsAt w r L) (most : Nat) (hmost : most ≤ 9223372036854775807) (M : Int) (hM : M = most) :
    callE Tryz.prog 14 #[r, .int .i64 M] w fun v w' => w'.ownsRow w.heap.size 27 32 v (L.take most).length (flatI (L.take most)) ∧ Below w.heap.size w w' := by
  obtain ⟨g, A, c, rfl, h1, h2, h3, h4⟩ := h
  exact told_any L h3 A c g w (by omega) h1 h2 most hmost M hM
end
end Go.Proofs.YtdjcjjodbniebaaGreatDoor
namespace Go.Proofs.YtdjcjjodbniebaaGreatDoor
open Go.RowKit
set_option linter.unusedVariables false
set_option linter.unusedSimpArgs false
set_option maxRecDepth 10000
/-- the name of a row's block -/
def nq (q : Nat → Bk) (i : Nat) : List UInt8 := sha (bytesB (q i))
/-- a row of children, with names unlike -/
structure QRow (q : Nat → Bk) (m : Nat) : Prop where
  ok : ∀ i, i ≤ m → BkOk (q i) ∧ checkB (q i) = 0 ∧ (q i).height = i
  linked : ∀ i, i < m → linkedB (q (i + 1)) (q i) = 0 ∧ (q (i + 1)).parent = nq q i
  inj : ∀ i j, i ≤ m → j ≤ m → nq q i = nq q j → i = j
/-- the topmost ones, from the top down -/
def topL {α : Type} (g : Nat → α) (m k : Nat) : List α := (List.range k).map fun i => g (m - i)
theorem topL_succ {α : Type} (g : Nat → α) (m k : Nat) : topL g m (k + 1) = topL g m k ++ [g (m - k)] := by simp [topL, List.range_succ]
theorem topL_len {α : Type} (g : Nat → α) (m k : Nat) : (topL g m k).length = k := by simp [topL]
def ST (q : Nat → Bk) (r m k : Nat) (asked : List (List UInt8 × Bool)) (often : List (List UInt8 × Int)) : FS := ⟨nq q r, r, 100, [(nq q m, [0, 3, 5])], topL (fun j => (nq q j, q j)) m k, asked, often⟩
theorem atL_snoc {α : Type} (a : List UInt8) (x : List UInt8 × α) : ∀ L : List (List UInt8 × α), atL a (L ++ [x]) = match atL a L with | some y => some y | none => if a = x.1 then some x.2 else none
  | [] => by simp [atL_cons, atL_nil]
  | y :: L => by
    rw [List.cons_append, atL_cons, atL_cons, atL_snoc a x L]
    split <;> simp
section
variable {q : Nat → Bk} {m : Nat}
theorem keptQ_none (hq : QRow q m) {j k : Nat} (hk : k ≤ m) (hj : j + k ≤ m) : atL (nq q j) (topL (fun j => (nq q j, q j)) m k) = none := by
  induction k with
  | zero => rfl
  | succ k ih =>
    rw [topL_succ, atL_snoc, ih (by omega) (by omega)]
    dsimp only
    rw [if_neg (fun e => by have := hq.inj _ _ (by omega) (by omega) e; omega)]
theorem keptQ_some (hq : QRow q m) {j k : Nat} (hk : k ≤ m) (hj : j ≤ m) (hjk : m < j + k) : atL (nq q j) (topL (fun j => (nq q j, q j)) m k) = some (q j) := by
  induction k with
  | zero => omega
  | succ k ih =>
    rw [topL_succ, atL_snoc]
    by_cases h : m < j + k
    · rw [ih (by omega) h]
    · rw [keptQ_none hq (by omega) (by omega)]
      obtain rfl : j = m - k := by omega
      dsimp only
      rw [if_pos rfl]
theorem way_go (hq : QRow q m) {r k : Nat} (hr : r ≤ m) (hk : k ≤ m - r) {asked : List (List UInt8 × Bool)} {often : List (List UInt8 × Int)} (n : Nat) : ∀ d i, i + d = k → wayL (ST q r m k asked often) (d + n) (topL q m i) (nq q (m - i)) = wayL (ST q r m k asked often) n (topL q m k) (nq q (m - k))
  | 0, i, h => by obtain rfl : i = k := by omega
                  rw [Nat.zero_add]
  | d + 1, i, h => by
    obtain ⟨b1, b2, b3⟩ := hq.ok (m - i) (by omega)
    have hl := hq.linked (m - i - 1) (by omega)
    rw [show m - i - 1 + 1 = m - i by omega] at hl
    rw [show d + 1 + n = (d + n) + 1 by omega, wayL_next (b := q (m - i))]
    · rw [← topL_succ, hl.2, show m - i - 1 = m - (i + 1) by omega]
      exact way_go hq hr hk n d (i + 1) (by omega)
    · intro e
      have := hq.inj _ _ (by omega) hr e
      omega
    · exact keptQ_some hq (by omega) (by omega) (by omega)
    · refine way_good ?_ ?_ ?_
      · show (r : Int) < _
        rw [b3]; omega
      · show (q (m - i)).height - 1 = (r : Int) ↔ (q (m - i)).parent = nq q r
        rw [b3, hl.2]
        constructor
        · intro e
          rw [show m - i - 1 = r by omega]
        · intro e
          have := hq.inj _ _ (by omega) hr e
          omega
      · intro c hc
        cases i with
        | zero => simp [topL] at hc
        | succ i =>
          rw [topL_succ, List.getLast?_append] at hc
          simp at hc
          subst hc
          have := (hq.linked (m - (i + 1)) (by omega)).1
          rwa [show m - (i + 1) + 1 = m - i by omega] at this
theorem way_ST (hq : QRow q m) {r k : Nat} (hr : r ≤ m) (hk : k ≤ m - r) (asked : List (List UInt8 × Bool)) (often : List (List UInt8 × Int)) : wayF (ST q r m k asked often) (nq q m) = (topL q m k, if k = m - r then 1 else 0, nq q (m - k)) := by
  have h := way_go hq hr hk (asked := asked) (often := often) 1 k 0 (by omega)
  have e : wayF (ST q r m k asked often) (nq q m) = wayL (ST q r m k asked often) (k + 1) (topL q m 0) (nq q (m - 0)) := by
    unfold wayF
    rw [show (ST q r m k asked often).kept.length = k from topL_len (fun j => (nq q j, q j)) m k]
    rfl
  rw [e, h]
  by_cases hkr : k = m - r
  · rw [if_pos hkr, show m - k = r by omega]
    exact wayL_last _ _ _
  · rw [if_neg hkr]
    refine wayL_missing ?_ (keptQ_none hq (by omega) (by omega))
    intro e
    have := hq.inj _ _ (by omega) hr e
    omega
theorem miss_ST (hq : QRow q m) {r k : Nat} (hr : r ≤ m) (hk : k ≤ m - r) (asked : List (List UInt8 × Bool)) (often : List (List UInt8 × Int)) : missL (ST q r m k asked often) = if k = m - r then [] else [(nq q (m - k), [0, 3, 5])] := by
  have h := way_ST hq hr hk asked often
  split
  · rename_i hkr
    rw [if_pos hkr] at h
    exact miss_none rfl h
  · rename_i hkr
    rw [if_neg hkr] at h
    rw [miss_one rfl h]
    simp [putL]
theorem wants_ST (hq : QRow q m) {r k : Nat} (hr : r ≤ m) (hk : k < m - r) (often : List (List UInt8 × Int)) : wantsF (ST q r m k [] often) = [nq q (m - k)] := by
  unfold wantsF
  rw [miss_ST hq hr (by omega), if_neg (by omega)]
  simp [freeL, askedB, ST]
theorem ask_ST (hq : QRow q m) {r k : Nat} (hr : r ≤ m) (hk : k < m - r) (often : List (List UInt8 × Int)) : ∃ v often', askF (ST q r m k [] often) (nq q (m - k)) = ((v, 0), ST q r m k [(nq q (m - k), true)] often') := by
  have h := miss_ST hq hr (Nat.le_of_lt hk) [] often
  rw [if_neg (by omega)] at h
  exact ⟨_, _, ask_one h (by simp) (by simp [askedB, ST])⟩
theorem chain_ST (hq : QRow q m) {r : Nat} (hr : r < m) (asked : List (List UInt8 × Bool)) (often : List (List UInt8 × Int)) : chainF (ST q r m (m - r) asked often) = ((topL q m (m - r)).reverse, 0) := by
  have h := way_ST hq (Nat.le_of_lt hr) (Nat.le_refl _) asked often
  rw [if_pos rfl] at h
  unfold chainF
  rw [if_neg (by rw [miss_none rfl h]; simp)]
  have hb : bestF (ST q r m (m - r) asked often) = (topL q m (m - r), nq q m) := by
    show bestStep _ ([], zeroId) (nq q m, [0, 3, 5]) = _
    unfold bestStep
    rw [h, if_neg (by
      rintro (h | h)
      · exact h rfl
      · have := congrArg List.length h
        rw [topL_len] at this
        simp at this
        omega), if_pos (.inl rfl)]
  rw [hb]
theorem got_go (hq : QRow q m) {r : Nat} (hr : r ≤ m) (hm : m ≤ 40) {k : Nat} (hk : k < m - r) {often : List (List UInt8 × Int)} : ∀ d i, i ≤ m - r - k → i + d ≤ m - k + 1 →
    gotL (nq q (m - k)) ((List.range d).map fun j => bytesB (q (m - k - i - j))) (ST q r m (k + i) [] often) (topL q (m - k) i) = (ST q r m (k + min (i + d) (m - r - k)) [] often, topL q (m - k) (min (i + d) (m - r - k)), false)
  | 0, i, hi, _ => by
    rw [Nat.add_zero, Nat.min_eq_left hi]
    rfl
  | d + 1, i, hi, hd => by
    rw [List.range_succ_eq_map, List.map_cons, List.map_map, Nat.sub_zero]
    by_cases hir : i = m - r - k
    · rw [got_last (by rw [show m - k - i = r by omega]; rfl), Nat.min_eq_right (by omega), hir]
    · obtain ⟨b1, b2, b3⟩ := hq.ok (m - k - i) (by omega)
      rw [got_add (parse_bytes b1 b2) rfl (nm := nq q (m - k - i))]
      · have e1 : ({ ST q r m (k + i) [] often with kept := (ST q r m (k + i) [] often).kept ++ [(nq q (m - k - i), q (m - k - i))] } : FS) = ST q r m (k + (i + 1)) [] often := by
          unfold ST
          congr 1
          rw [← Nat.add_assoc, topL_succ, show m - (k + i) = m - k - i by omega]
        have e2 : ((fun j => bytesB (q (m - k - i - j))) ∘ Nat.succ) = fun j => bytesB (q (m - k - (i + 1) - j)) := by
          funext j
          show bytesB (q (m - k - i - (j + 1))) = _
          rw [show m - k - i - (j + 1) = m - k - (i + 1) - j by omega]
        rw [e1, e2, ← topL_succ, got_go hq hr hm hk d (i + 1) (by omega) (by omega), show i + 1 + d = i + (d + 1) by omega]
      · rintro ⟨h1, h2⟩
        cases i with
        | zero => exact h1 rfl
        | succ i =>
          rcases h2 with h2 | ⟨c, h2, h3⟩
          · have := congrArg List.length h2
            rw [topL_len] at this
            simp at this
          · rw [topL_succ, List.getLast?_append] at h2
            simp at h2
            subst h2
            have := (hq.linked (m - k - (i + 1)) (by omega)).1
            rw [show m - k - (i + 1) + 1 = m - k - i by omega] at this
            exact h3 this
      · exact keptQ_none hq (by omega) (by omega)
      · intro e
        have := hq.inj _ _ (by omega) hr e
        omega
      · show ¬ (100 : Int) ≤ (topL (fun j => (nq q j, q j)) m (k + i)).length
        rw [topL_len]
        omega
theorem got_ST (hq : QRow q m) {r k t : Nat} (hr : r ≤ m) (hm : m ≤ 40) (hk : k < m - r) (ht : 1 ≤ t) (ht2 : t ≤ 16) (often : List (List UInt8 × Int)) :
    ∃ v, gotF (ST q r m k [(nq q (m - k), true)] often) (nq q (m - k)) ((List.range (min t (m - k + 1))).map fun j => bytesB (q (m - k - j))) = ((v, 0), ST q r m (min (k + t) (m - r)) [] often) := by
  rw [got_open (by simp [askedB, ST])]
  rw [List.take_of_length_le (by simp; omega)]
  have h := got_go hq hr hm hk (often := often) (min t (m - k + 1)) 0 (by omega) (by omega)
  have e1 : ({ ST q r m k [(nq q (m - k), true)] often with asked := delB (nq q (m - k)) (ST q r m k [(nq q (m - k), true)] often).asked } : FS) = ST q r m (k + 0) [] often := by
    simp [ST, delB]
  have e2 : k + min (0 + min t (m - k + 1)) (m - r - k) = min (k + t) (m - r) := by omega
  rw [e2] at h
  rw [e1]
  have h' : gotL (nq q (m - k)) ((List.range (min t (m - k + 1))).map fun j => bytesB (q (m - k - j))) (ST q r m (k + 0) [] often) [] = _ := h
  rw [h']
  refine ⟨((topL q (m - k) (min (0 + min t (m - k + 1)) (m - r - k))).length : Nat), ?_⟩
  congr 1
  unfold gotE
  rw [if_pos]
  intro e
  have := congrArg List.length e
  simp [topL_len] at this
  omega
theorem ok_ST (hq : QRow q m) {r k : Nat} (hr : r ≤ m) (hm : m ≤ 40) (hk : k ≤ m) (asked : List (List UInt8 × Bool)) (often : List (List UInt8 × Int)) : FOk (ST q r m k asked often) :=
  ⟨sha_length _, by show (0 : Int) ≤ r; omega, by show (r : Int) ≤ _; omega, by show (1 : Int) ≤ 100 ∧ (100 : Int) ≤ 4096; decide, by show (1 : Nat) ≤ 32; decide, fun t ht => by
    obtain rfl : t = (nq q m, [0, 3, 5]) := by simpa [ST] using ht
    exact ⟨sha_length _, by show [(0:Int), 3, 5].Pairwise _; decide, by show ∀ v ∈ [(0:Int), 3, 5], _; decide⟩, by show (topL (fun j => (nq q j, q j)) m k).length ≤ 4096; rw [topL_len]; omega, fun x hx => by
    obtain ⟨i, _, rfl⟩ := List.mem_map.1 (show x ∈ topL (fun j => (nq q j, q j)) m k from hx)
    exact ⟨(hq.ok (m - i) (by omega)).1, (hq.ok (m - i) (by omega)).2.1⟩⟩
end
theorem fail_ST {q : Nat → Bk} {m r k : Nat} (often : List (List UInt8 × Int)) : failF (ST q r m k [(nq q (m - k), true)] often) (nq q (m - k)) = (0, ST q r m k [] often) := by
  simp [failF, askedB, ST, delB]
theorem target_ST {q : Nat → Bk} {m r : Nat} : targetF ⟨nq q r, r, 100, [], [], [], []⟩ (nq q m) [0, 3, 5] = (0, ST q r m 0 [] []) := by
  unfold targetF
  rw [if_neg (by decide), if_neg (by rintro ⟨_, h⟩; simp at h)]
  simp [ST, atL_nil, putAt, putL, topL]
end Go.Proofs.YtdjcjjodbniebaaGreatDoor
