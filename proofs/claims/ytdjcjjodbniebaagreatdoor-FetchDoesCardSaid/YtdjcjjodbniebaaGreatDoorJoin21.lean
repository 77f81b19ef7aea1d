/-
  Texts joined: FMissed.
-/
import Derived.Test.YtdjcjjodbniebaaGreatDoorJoin20
namespace Go.Proofs.YtdjcjjodbniebaaGreatDoor
open Go.RowKit
set_option linter.unusedVariables false
set_option linter.unusedSimpArgs false
set_option maxRecDepth 10000
def flatI (xs : List (List UInt8)) : List Value := xs.flatMap bl
theorem tcell_one (a : List UInt8) (A : Option Addr) (n c : Nat) : allOne (tcell (a, .slice A n c)) = true := allOne_of (by
  intro v hv
  simp only [tcell, bl, List.mem_append, List.mem_map, List.mem_cons, List.not_mem_nil, or_false] at hv
  rcases hv with ⟨x, _, rfl⟩ | rfl <;> rfl)
def zeroT : List Value := bl zeroId ++ [.slice none 0 0]
theorem zeroT_lit : zeroT.toArray = #[Value.int IntKind.u8 0, Value.int IntKind.u8 0, Value.int IntKind.u8 0, Value.int IntKind.u8 0, Value.int IntKind.u8 0, Value.int IntKind.u8 0, Value.int IntKind.u8 0, Value.int IntKind.u8 0, Value.int IntKind.u8 0, Value.int IntKind.u8 0, Value.int IntKind.u8 0, Value.int IntKind.u8 0, Value.int IntKind.u8 0, Value.int IntKind.u8 0, Value.int IntKind.u8 0, Value.int IntKind.u8 0, Value.int IntKind.u8 0, Value.int IntKind.u8 0, Value.int IntKind.u8 0, Value.int IntKind.u8 0, Value.int IntKind.u8 0, Value.int IntKind.u8 0, Value.int IntKind.u8 0, Value.int IntKind.u8 0, Value.int IntKind.u8 0, Value.int IntKind.u8 0, Value.int IntKind.u8 0, Value.int IntKind.u8 0, Value.int IntKind.u8 0, Value.int IntKind.u8 0, Value.int IntKind.u8 0, Value.int IntKind.u8 0, Value.slice none 0 0] := rfl
theorem zeroI_lit : zeroI.toArray = #[Value.int IntKind.u8 0, Value.int IntKind.u8 0, Value.int IntKind.u8 0, Value.int IntKind.u8 0, Value.int IntKind.u8 0, Value.int IntKind.u8 0, Value.int IntKind.u8 0, Value.int IntKind.u8 0, Value.int IntKind.u8 0, Value.int IntKind.u8 0, Value.int IntKind.u8 0, Value.int IntKind.u8 0, Value.int IntKind.u8 0, Value.int IntKind.u8 0, Value.int IntKind.u8 0, Value.int IntKind.u8 0, Value.int IntKind.u8 0, Value.int IntKind.u8 0, Value.int IntKind.u8 0, Value.int IntKind.u8 0, Value.int IntKind.u8 0, Value.int IntKind.u8 0, Value.int IntKind.u8 0, Value.int IntKind.u8 0, Value.int IntKind.u8 0, Value.int IntKind.u8 0, Value.int IntKind.u8 0, Value.int IntKind.u8 0, Value.int IntKind.u8 0, Value.int IntKind.u8 0, Value.int IntKind.u8 0, Value.int IntKind.u8 0] := rfl
theorem fold_i (x : List Value) (hx : x.length = 32) : List.foldl (fun (cs : Array Value) (x : Value × Nat) => cs.setIfInBounds x.snd x.fst) #[Value.int IntKind.u8 0, Value.int IntKind.u8 0, Value.int IntKind.u8 0, Value.int IntKind.u8 0, Value.int IntKind.u8 0, Value.int IntKind.u8 0, Value.int IntKind.u8 0, Value.int IntKind.u8 0, Value.int IntKind.u8 0, Value.int IntKind.u8 0, Value.int IntKind.u8 0, Value.int IntKind.u8 0, Value.int IntKind.u8 0, Value.int IntKind.u8 0, Value.int IntKind.u8 0, Value.int IntKind.u8 0, Value.int IntKind.u8 0, Value.int IntKind.u8 0, Value.int IntKind.u8 0, Value.int IntKind.u8 0, Value.int IntKind.u8 0, Value.int IntKind.u8 0, Value.int IntKind.u8 0, Value.int IntKind.u8 0, Value.int IntKind.u8 0, Value.int IntKind.u8 0, Value.int IntKind.u8 0, Value.int IntKind.u8 0, Value.int IntKind.u8 0, Value.int IntKind.u8 0, Value.int IntKind.u8 0, Value.int IntKind.u8 0] x.zipIdx = x.toArray := by
  rw [foldl_set x 0 _ (by rw [hx]; decide), hx]
  simp
theorem set_same {α : Type} {l : List α} {k : Nat} {x : α} (h : l[k]? = some x) : l.set k x = l := by
  obtain ⟨hk, rfl⟩ := List.getElem?_eq_some_iff.1 h
  exact List.set_getElem_self hk
theorem row_map {w : World} {B e size n r : Nat} {v : Value} {xs : List Value} {L : List (List UInt8 × Value)} (h : w.ownsRow B e size v n xs) (hm : MpI w r L) : v.ownBlock ≠ some r := by
  obtain ⟨es, c, h1, _⟩ := hm
  rcases h.2 with ⟨rfl, _⟩ | ⟨k, cap, cur, rfl, _, hk, _⟩
  · simp [Value.ownBlock]
  · intro h2
    simp only [Value.ownBlock, Option.some.injEq] at h2
    subst h2
    rw [h1] at hk
    injection hk with hk
    cases hk
theorem zero_row (w : World) : (zeroValue 50).run Tryz.prog w = .ok (.slice none 0 0) w := rfl
theorem take_fold {α β : Type} (g : β → α → β) (z : β) {l : List α} {i : Nat} (h : i < l.length) : (l.take (i + 1)).foldl g z = g ((l.take i).foldl g z) l[i] := by
  rw [take_snoc' h, List.foldl_append]; rfl
set_option maxHeartbeats 3200000 in
theorem fmissed_any {w : World} {O : Nat → Prop} {f : Nat} {S : FS} {tv : Value} {rk ra ro : Nat} {vs : List Value} {K : List (List UInt8 × Bk × Value)} (h : FIn w O f S tv rk ra ro vs K) (hok : FOk S) (hC : Cubes w) :
    callE Tryz.prog 48 #[.pointer (some ⟨f, 0, none⟩)] w fun r w' => ∃ ov us, r = .tuple #[ov, .map (some w.heap.size)] ∧ w'.ownsRow w.heap.size 27 32 ov (missL S).length (flatI ((missL S).map Prod.fst)) ∧ MpI w' w.heap.size (((missL S).map Prod.fst).zip us) ∧ RowsI w' (fun j => w.heap.size ≤ j) us ((missL S).map Prod.snd) ∧ WhoOk 32 (missL S) ∧ Below w.heap.size w w' := by
  obtain ⟨-, tA, tc, rfl⟩ := own_sl h.row
  have hc34 := ((h.keep (ext_alloc w (.map #[] 0))).cells hok.last).2.2.1
  have kM := ext_alloc w (.map #[] 0)
  have hm0 := MpI_made w
  refine calls_E Tryz.func48 rfl rfl rfl (Nat.le_of_ble_eq_true rfl) ?_
  simp [go_sem, IntWalk.iteOmega, IntWalk.toNatUp, hc34]
  generalize w.alloc (.map #[] 0) = w1 at *
  refine W_loop (fun st wr => ∃ i L ov us, i ≤ S.ts.length ∧ st 0 = .pointer (some ⟨f, 0, none⟩) ∧ st 4 = ov ∧ st 5 = .map (some w.heap.size) ∧ st 20 = .slice tA S.ts.length tc ∧ st 21 = .int .i64 S.ts.length ∧ st 22 = .int .i64 i ∧ (S.ts.take i).foldl (missStep S) [] = L ∧ WhoOk i L ∧ wr.ownsRow w.heap.size 27 32 ov L.length (flatI (L.map Prod.fst)) ∧ MpI wr w.heap.size ((L.map Prod.fst).zip us) ∧ RowsI wr (fun j => w.heap.size ≤ j) us (L.map Prod.snd) ∧ Below w.heap.size w wr) (fun st _ => S.ts.length - (intOf (st 22)).toNat) ?_ ?_
  · exact ⟨0, [], .slice none 0 0, [], by omega, by simp [go_sem], by simp [go_sem], by simp [go_sem], by simp [go_sem], by simp [go_sem], by simp [go_sem], rfl, ⟨by simp, by simp⟩, World.ownsRow_nil _ _ _ _, hm0, RowsI.nil _ _, kM⟩
  · rintro st wr ⟨i, L, ov, us, hi, e0, e4, e5, e20, e21, e22, hL, hW, hov, hM, hR, hB⟩
    by_cases hlt : i < S.ts.length
    · have hlt' : (i : Int) < S.ts.length := by omega
      have hn32 := hok.tsn
      have hF := h.keep hB
      have hx : S.ts[i]? = some S.ts[i] := List.getElem?_eq_getElem hlt
      obtain ⟨ht1, ht2, ht3⟩ := hok.ts _ (List.getElem_mem hlt)
      have hL1 := take_fold (missStep S) [] hlt
      rw [hL] at hL1
      generalize S.ts[i] = t at *
      obtain ⟨tb, to_, rfl, htb, htc⟩ := (Rd.of_own hF.row).cells (by omega)
      have hvl : vs.length = S.ts.length := by have := h.rows.len; simpa using this
      obtain ⟨fv, hfv⟩ : ∃ fv, vs[i]? = some fv := ⟨_, List.getElem?_eq_getElem (by omega)⟩
      have hz : ((S.ts.map Prod.fst).zip vs)[i]? = some (t.1, fv) := by
        rw [List.getElem?_zip_eq_some]
        exact ⟨by simp [hx], hfv⟩
      have hzl : ∀ x ∈ (S.ts.map Prod.fst).zip vs, x.1.length = 32 := fun x hx => by
        obtain ⟨y, hy, e⟩ := List.mem_map.1 (List.of_mem_zip hx).1
        rw [← e]
        exact (hok.ts _ hy).1
      have hcell := flatT_at _ hzl i _ hz
      have l33 : (tcell (t.1, fv)).length = 33 := tcell_len ht1
      have rt : readCells wr ⟨tb, to_ + i * 33, none⟩ 0 33 = some (tcell (t.1, fv)) := readCells_cells 33 0 _ l33 (fun j v hj => by rw [show to_ + i * 33 + 0 + j = to_ + (33 * i + j) by omega]; exact htc _ _ (hcell j v hj))
      obtain ⟨hro, hrO⟩ := hF.rows.at_ i fv t.2 hfv (by simp [hx])
      obtain ⟨-, fA, fc, rfl⟩ := own_sl hro
      have y2 : ∀ (k : Array Value) (t : TypeId), k.size = 33 → canWrite (wr.alloc (.cells k t)) ⟨wr.heap.size, 0, none⟩ 0 33 = true := fun k t hk => canWrite_all (Blk.self_ rfl) 33 hk
      have y3 : ∀ (k : Array Value) (t : TypeId) (l : List Value), k.size = 33 → l.length = 33 → storeSeg (wr.alloc (.cells k t)) ⟨wr.heap.size, 0, none⟩ 0 l = (wr.alloc (.cells k t)).setRow wr.heap.size l.toArray := fun k t l hk hl => storeSeg_all (Blk.self_ rfl) l (by omega)
      simp [go_sem, IntWalk.iteOmega, IntWalk.toNatUp, e0, e4, e5, e20, e21, e22, hlt', hlt, rt, y2, y3, l33, tcell_one]
      rw [← zeroT_lit]
      have kA : Below wr.heap.size wr ((wr.alloc (.cells zeroT.toArray 97)).setRow wr.heap.size (tcell (t.1, .slice fA t.2.length fc)).toArray) := below_setRow (ext_alloc wr _) (Nat.le_refl _) _
      have hT : Blk ((wr.alloc (.cells zeroT.toArray 97)).setRow wr.heap.size (tcell (t.1, .slice fA t.2.length fc)).toArray) wr.heap.size 97 (tcell (t.1, .slice fA t.2.length fc)).toArray := Blk_setRow (Blk.self_ rfl)
      generalize (wr.alloc (.cells zeroT.toArray 97)).setRow wr.heap.size (tcell (t.1, .slice fA t.2.length fc)).toArray = w2 at *
      have r1 := readCells_blk hT 32 0 0 (bl t.1) (by simp [bl, ht1]) (fun j v hj => by
        have : (tcell (t.1, .slice fA t.2.length fc))[j]? = some v := by unfold tcell; rw [List.getElem?_append_left (List.getElem?_eq_some_iff.1 hj).1]; exact hj
        simpa using this)
      simp [go_sem, IntWalk.iteOmega, IntWalk.toNatUp, e0, e4, e5, e20, e21, e22, r1]
      have hF2 := hF.keep kA
      have hB2 := hB.trans (kA.mono hB.size)
      refine callE_of (fway_any hF2 hok (hC.keep hB2) ht1) ?_
      rintro _ w3 ⟨wv, xs, rfl, hxs, hwr, hxK, hWI, hat, k3⟩
      have z2 : ∀ (k : Array Value) (t : TypeId), k.size = 32 → canWrite (w3.alloc (.cells k t)) ⟨w3.heap.size, 0, none⟩ 0 32 = true := fun k t hk => canWrite_all (Blk.self_ rfl) 32 hk
      have z3 : ∀ (k : Array Value) (t : TypeId) (l : List Value), k.size = 32 → l.length = 32 → storeSeg (w3.alloc (.cells k t)) ⟨w3.heap.size, 0, none⟩ 0 l = (w3.alloc (.cells k t)).setRow w3.heap.size l.toArray := fun k t l hk hl => storeSeg_all (Blk.self_ rfl) l (by omega)
      have hms : missStep S L t = if (wayF S t.1).2.1 = 0 then putAt (wayF S t.1).2.2 (t.2.foldl putL ((atL (wayF S t.1).2.2 L).getD [])) L else L := rfl
      rw [hms] at hL1
      generalize (wayF S t.1).2.2 = a at *
      generalize (wayF S t.1).2.1 = how at *
      have la : (bl a).length = 32 := by rw [bl_length]; exact hat
      have kB := kA.trans (k3.mono kA.size)
      have kC : Below wr.heap.size wr ((w3.alloc (.cells zeroI.toArray 27)).setRow w3.heap.size (bl a).toArray) := below_setRow (kB.alloc kB.size _) kB.size _
      have hA : Blk ((w3.alloc (.cells zeroI.toArray 27)).setRow w3.heap.size (bl a).toArray) w3.heap.size 27 (bl a).toArray := Blk_setRow (Blk.self_ rfl)
      have hT3 := hT.keep k3
      have hT4 : Blk ((w3.alloc (.cells zeroI.toArray 27)).setRow w3.heap.size (bl a).toArray) wr.heap.size 97 (tcell (t.1, .slice fA t.2.length fc)).toArray := Blk.farRow (hT3.more _) (by have := hT3.lt; omega) _
      by_cases hh : how = 0
      · subst hh
        rw [if_pos rfl] at hL1
        simp [go_sem, IntWalk.iteOmega, IntWalk.toNatUp, e0, e4, e5, e20, e21, e22, z2, z3, la, bl_one]
        rw [← zeroI_lit]
        generalize (w3.alloc (.cells zeroI.toArray 27)).setRow w3.heap.size (bl a).toArray = w4 at *
        have hovC := row_below hov kC
        have hMC := hM.keep kC
        have hRC := hR.keeps (Keeps.of_ext kC)
        have hBC := hB.trans (kC.mono hB.size)
        have hroC := row_below hro kC
        have r2 := readCells_all hA 32 (by simpa using la)
        have hl1 : (Instr.lookup 99 (.map (some w.heap.size)) (.agg (bl a).toArray) true).run Tryz.prog w4 = .ok (.tuple #[(atId a ((L.map Prod.fst).zip us)).getD (.slice none 0 0), .bool (atId a ((L.map Prod.fst).zip us)).isSome]) w4 := (run_lookupI idKey hMC Tryz.underlying99 a hat (zero_row w4)).1
        have hul : us.length = L.length := by have := hR.len; simpa using this
        cases hx0 : atL a L with
        | none =>
          obtain ⟨z4, z5⟩ := zip_none hul hx0 (.slice none 0 0)
          have hfd := fold_i (bl a) la
          have r3 : ∀ W : World, Below w4.heap.size w4 W → W.cell? ⟨wr.heap.size, 32, none⟩ = some (.slice fA t.2.length fc) := fun W hb => by
            rw [(hT4.keep hb).cell, List.getElem?_toArray]
            unfold tcell
            rw [List.getElem?_append_right (by simp [bl, ht1])]
            simp [bl, ht1]
          have hrlt : ∀ j, (Value.slice fA t.2.length fc).ownBlock = some j → j < w.heap.size := fun j hj => h.lt j (hrO j hj)
          simp [go_sem, IntWalk.iteOmega, IntWalk.toNatUp, e0, e4, e5, e20, e21, e22, r2, hl1, z4, hfd]
          have hrd : Rd (w4.alloc (.cells (bl a).toArray 27)) 32 (some ⟨w4.heap.size, 0, none⟩) 1 (bl a) := rd_one (Blk.self_ rfl) la
          have kI := ext_alloc w4 (.cells (bl a).toArray 27)
          have hwI : w4.heap.size < (w4.alloc (.cells (bl a).toArray 27)).heap.size := by simp
          generalize w4.alloc (.cells (bl a).toArray 27) = wI at *
          have hovI := row_below hovC kI
          have hBI := hBC.trans (kI.mono hBC.size)
          have hW1 := hW.1
          refine appendE w.heap.size 27 32 32 Tryz.underlying37 el27 hovI hrd (bl_one a) (by unfold maxLen; omega) (by omega) hBI.size ?_
          intro ov5 w5 hov5 hg5 hbk5
          have kO : Keeps (fun j => ov.ownBlock ≠ some j) wI w5 := Keeps.grown hg5 fun k hk h => h hk
          have hA5 : Blk w5 w3.heap.size 27 (bl a).toArray := kO.blk (hA.keep kI) (fun e => by have := (hov.lt _ e).2; have := kB.size; omega)
          have hM5 := (hMC.keep kI).keeps kO (fun e => row_map hovI (hMC.keep kI) e)
          have hro5 := row_keeps (row_below hroC kI) kO (fun j hj e => rows_ne hovI (row_below hroC kI) (by decide) j e hj)
          have hT5 : Blk w5 wr.heap.size 97 (tcell (t.1, .slice fA t.2.length fc)).toArray := kO.blk (hT4.keep kI) (fun e => row_ne hovI (hT4.keep kI) (by decide) e)
          have hR50 : RowsI w5 (fun j => w.heap.size ≤ j) us (L.map Prod.snd) := ⟨hR.len, fun x u m h1 h2 => ⟨row_keeps (row_below (hRC.at_ x u m h1 h2).1 kI) kO (fun j hj e => rows_ne hovI (row_below (hRC.at_ x u m h1 h2).1 kI) (by decide) j e hj), (hRC.at_ x u m h1 h2).2⟩, hR.apart⟩
          have hR5 := hR50.more
          have hB5 := hBI.grown hg5 hBI.size (fun k hk => (hovI.lt k hk).1)
          have r2' := readCells_all hA5 32 (by simpa using la)
          have r3' : w5.cell? ⟨wr.heap.size, 32, none⟩ = some (.slice fA t.2.length fc) := by
            rw [hT5.cell, List.getElem?_toArray]
            unfold tcell
            rw [List.getElem?_append_right (by simp [bl, ht1])]
            simp [bl, ht1]
          have hl2 : (Instr.lookup 99 (.map (some w.heap.size)) (.agg (bl a).toArray) false).run Tryz.prog w5 = .ok ((atId a ((L.map Prod.fst).zip us)).getD (.slice none 0 0)) w5 := (run_lookupI idKey hM5 Tryz.underlying99 a hat (zero_row w5)).2
          simp [go_sem, IntWalk.iteOmega, IntWalk.toNatUp, e0, e4, e5, e20, e21, e22, r2', r3', hl2, z4]
          have hids : flatI (L.map Prod.fst) ++ bl a = flatI (L.map Prod.fst ++ [a]) := by simp [flatI]
          rw [hids, show L.length + 1 = (L.map Prod.fst ++ [a]).length by simp] at hov5
          have hput : ∀ r, putId a r ((L.map Prod.fst).zip us) = (L.map Prod.fst ++ [a]).zip ((us ++ [Value.slice none 0 0]).set us.length r) := fun r => by rw [(zip_none hul hx0 r).2]; simp
          have hputA : ∀ l', (putAt a l' L).map Prod.fst = L.map Prod.fst ++ [a] ∧ (putAt a l' L).map Prod.snd = (L.map Prod.snd ++ [[]]).set us.length l' := fun l' => by rw [putAt_new hx0, hul]; simp
          have hk : (us ++ [Value.slice none 0 0])[us.length]? = some (.slice none 0 0) := by simp
          have hlk : (L.map Prod.snd ++ [([] : List Int)])[us.length]? = some [] := by rw [hul]; simp
          have hl0 := Places.nil
          have hl0e : (none : Option (List Int)).getD [] = [] := rfl
          generalize hids0 : L.map Prod.fst ++ [a] = ids0 at *
          generalize hus0 : us ++ [Value.slice none 0 0] = us0 at *
          generalize hls0 : L.map Prod.snd ++ [([] : List Int)] = ls0 at *
          generalize hk0 : us.length = k at *
          generalize hv0 : Value.slice none 0 0 = v0 at *
          generalize hl00 : ([] : List Int) = l0 at *
          have hn5 : t.2.length ≤ 32 := Places.len ⟨ht2, ht3⟩
          refine W_loop (fun st wi => ∃ j lv l, j ≤ t.2.length ∧ st 0 = .pointer (some ⟨f, 0, none⟩) ∧ st 4 = ov5 ∧ st 5 = .map (some w.heap.size) ∧ st 10 = .pointer (some ⟨w3.heap.size, 0, none⟩) ∧ st 20 = .slice (some ⟨tb, to_, none⟩) S.ts.length tc ∧ st 21 = .int .i64 S.ts.length ∧ st 22 = .int .i64 i ∧ st 13 = lv ∧ st 52 = .slice fA t.2.length fc ∧ st 53 = .int .i64 t.2.length ∧ st 54 = .int .i64 j ∧ (t.2.take j).foldl putL l0 = l ∧ Places l ∧ RowsI wi (fun j => w.heap.size ≤ j) (us0.set k lv) (ls0.set k l) ∧ wi.ownsRow w.heap.size 27 32 ov5 ids0.length (flatI ids0) ∧ MpI wi w.heap.size ((L.map Prod.fst).zip us) ∧ wi.ownsRow 0 3 1 (.slice fA t.2.length fc) t.2.length (intsK .i64 t.2) ∧ Blk wi w3.heap.size 27 (bl a).toArray ∧ Below w.heap.size w wi) (fun st _ => t.2.length - (intOf (st 54)).toNat) ?_ ?_
          · exact ⟨0, v0, l0, by omega, by simp [go_sem, e0], by simp [go_sem, e4], by simp [go_sem, e5], by simp [go_sem], by simp [go_sem, e20], by simp [go_sem, e21], by simp [go_sem, e22], by simp [go_sem], by simp [go_sem], by simp [go_sem], by simp [go_sem], rfl, hl0, by rw [set_same hk, set_same hlk]; exact hR5, hov5, hM5, hro5, hA5, hB5⟩
          · rintro si wi ⟨j, lv, l, hj, d0, d4, d5, d10, d20, d21, d22, d13, d52, d53, d54, hfold, hpl, hRi, hovi, hMi, hroi, hAi, hBi⟩
            have hkv : (us0.set k lv)[k]? = some lv := List.getElem?_set_self (List.getElem?_eq_some_iff.1 hk).1
            have hkl : (ls0.set k l)[k]? = some l := List.getElem?_set_self (List.getElem?_eq_some_iff.1 hlk).1
            obtain ⟨hlo, hlO⟩ := hRi.at_ k lv l hkv hkl
            by_cases hjl : j < t.2.length
            · have hjl' : (j : Int) < t.2.length := by omega
              obtain ⟨gb, go, eA, hgb, hgc⟩ := (Rd.of_own hroi).cells (by omega)
              have x0 := hgc j (.int .i64 t.2[j]) (by simp [intsK, hjl])
              have hxv := ht3 _ (List.getElem_mem hjl)
              have hf1 := take_fold putL l0 hjl
              rw [hfold] at hf1
              simp [go_sem, IntWalk.iteOmega, IntWalk.toNatUp, d0, d4, d5, d10, d20, d21, d22, d13, d52, d53, d54, hjl', hjl, eA, x0]
              have hll := hpl.len
              refine callE_of (fput_any l t.2[j] w.heap.size lv wi hpl.1 (by omega) (own_mono0 hlo hlO) hBi.size) ?_
              rintro r w6 ⟨hr6, hg6, hbk6⟩
              have hr60 := own_mono (base' := 0) hr6 (Nat.zero_le _)
              have hRo : ∀ j, r.ownBlock = some j → w.heap.size ≤ j := fun j hj => (hr6.lt j hj).1
              have hR6 := hRi.put hkv hkl hg6 hr60 hRo hbk6
              rw [List.set_set, List.set_set] at hR6
              have hB6 := hBi.grown hg6 hBi.size hlO
              have hov6 := row_keeps (O := fun j => lv.ownBlock ≠ some j) hovi (Keeps.grown hg6 fun k hk h => h hk) (fun j hj e => rows_ne hlo hovi (by decide) j e hj)
              have hM6 : MpI w6 w.heap.size ((L.map Prod.fst).zip us) := hMi.far (hg6.block _ hMi.lt (fun e => row_map hlo hMi e.symm))
              have hA6 : Blk w6 w3.heap.size 27 (bl a).toArray := (hg6.block _ hAi.lt (fun e => row_ne hlo hAi (by decide) e.symm)).trans hAi
              have hro6 := row_keeps (O := fun j => j < w.heap.size) hroi (Keeps.grown hg6 fun k hk h => by have := hlO k hk; omega) (fun j hj => hrlt j hj)
              simp [go_sem, IntWalk.iteOmega, IntWalk.toNatUp, d0, d4, d5, d10, d20, d21, d22, d13, d52, d53, d54]
              refine roundEnd.mk ⟨j + 1, r, putL l t.2[j], by omega, by simp [go_sem, d0], by simp [go_sem, d4], by simp [go_sem, d5], by simp [go_sem, d10], by simp [go_sem, d20], by simp [go_sem, d21], by simp [go_sem, d22], by simp [go_sem], by simp [go_sem, d52], by simp [go_sem, d53], by simp [go_sem], hf1, hpl.put hxv, hR6, hov6, hM6, hro6, hA6, hB6⟩ ?_
              simp [go_sem, intOf, d54]; omega
            · obtain rfl : j = t.2.length := by omega
              have hjl' : ¬ (t.2.length : Int) < t.2.length := by omega
              rw [List.take_of_length_le (Nat.le_refl _)] at hfold
              have x2 := readCells_all hAi 32 (by simpa using la)
              obtain ⟨w7, hup, hM7, ht7⟩ := run_mapUpdateI idKey hMi Tryz.underlying99 a hat lv
              have hup' : (Instr.mapUpdate 99 (.map (some w.heap.size)) (.agg (bl a).toArray) lv).run Tryz.prog wi = .ok () w7 := hup
              simp [go_sem, IntWalk.iteOmega, IntWalk.toNatUp, d0, d4, d5, d10, d20, d21, d22, d13, d52, d53, d54, hjl', x2, hup']
              rw [hput lv] at hM7
              obtain ⟨p1, p2⟩ := hputA l
              rw [hx0, hl0e, hfold] at hL1
              have hWl : WhoOk (i + 1) (putAt a l L) := hW.put hat hpl
              have hlen7 : ids0.length = (putAt a l L).length := by rw [← p1]; simp
              have kT : Keeps (fun j => j ≠ w.heap.size) wi w7 := ⟨ht7.os, ht7.tape, ht7.output, Nat.le_of_eq ht7.size.symm, fun g _ hg => ht7.far g hg⟩
              have hB7 : Below w.heap.size w w7 := ht7.below hBi (Nat.le_refl _)
              refine roundEnd.mk ⟨i + 1, putAt a l L, ov5, us0.set k lv, by omega, by simp [go_sem, d0], by simp [go_sem, d4], by simp [go_sem, d5], by simp [go_sem, d20], by simp [go_sem, d21], by simp [go_sem], hL1, hWl, ?_, ?_, ?_, hB7⟩ ?_
              · rw [p1, ← hlen7]
                exact row_keeps hovi kT (fun j hj e => row_map hovi hMi (e ▸ hj))
              · rw [p1]; exact hM7
              · rw [p2]
                exact ⟨hRi.len, fun x u m h1 h2 => ⟨row_keeps (hRi.at_ x u m h1 h2).1 kT (fun j hj e => row_map (hRi.at_ x u m h1 h2).1 hMi (e ▸ hj)), (hRi.at_ x u m h1 h2).2⟩, hRi.apart⟩
              · simp [go_sem, intOf, d22]; omega
        | some l0 =>
          obtain ⟨k, q1, q2, q3⟩ := zip_some hx0
          obtain ⟨v0, hk, q5, hput⟩ := q3 us hul
          have hl2 : (Instr.lookup 99 (.map (some w.heap.size)) (.agg (bl a).toArray) false).run Tryz.prog w4 = .ok ((atId a ((L.map Prod.fst).zip us)).getD (.slice none 0 0)) w4 := (run_lookupI idKey hMC Tryz.underlying99 a hat (zero_row w4)).2
          have r3 : ∀ W : World, Below w4.heap.size w4 W → W.cell? ⟨wr.heap.size, 32, none⟩ = some (.slice fA t.2.length fc) := fun W hb => by
            rw [(hT4.keep hb).cell, List.getElem?_toArray]
            unfold tcell
            rw [List.getElem?_append_right (by simp [bl, ht1])]
            simp [bl, ht1]
          have hrlt : ∀ j, (Value.slice fA t.2.length fc).ownBlock = some j → j < w.heap.size := fun j hj => h.lt j (hrO j hj)
          have r3' := r3 w4 (Below.refl _ _)
          simp [go_sem, IntWalk.iteOmega, IntWalk.toNatUp, e0, e4, e5, e20, e21, e22, r2, hl1, hl2, q5, r3']
          have hputA : ∀ l', (putAt a l' L).map Prod.fst = L.map Prod.fst ∧ (putAt a l' L).map Prod.snd = (L.map Prod.snd).set k l' := fun l' => by
            rw [q2 l', List.map_set, List.map_set]
            exact ⟨set_same (by simp [q1]), rfl⟩
          have hlk : (L.map Prod.snd)[k]? = some l0 := by simp [q1]
          have hl0 : Places l0 := by have := hW.at_ a; rw [hx0] at this; exact this
          have hl0e : (some l0).getD [] = l0 := rfl
          have hov5 : w4.ownsRow w.heap.size 27 32 ov (L.map Prod.fst).length (flatI (L.map Prod.fst)) := by rw [List.length_map]; exact hovC
          have hR5 := hRC
          have hM5 := hMC
          have hro5 := hroC
          have hA5 := hA
          have hB5 := hBC
          generalize hids0 : L.map Prod.fst = ids0 at hov5 hputA
          generalize hls0 : L.map Prod.snd = ls0 at *
          have hput : ∀ r, putId a r ((L.map Prod.fst).zip us) = ids0.zip (us.set k r) := fun r => by rw [hput r, hids0]
          have hn5 : t.2.length ≤ 32 := Places.len ⟨ht2, ht3⟩
          refine W_loop (fun st wi => ∃ j lv l, j ≤ t.2.length ∧ st 0 = .pointer (some ⟨f, 0, none⟩) ∧ st 4 = ov ∧ st 5 = .map (some w.heap.size) ∧ st 10 = .pointer (some ⟨w3.heap.size, 0, none⟩) ∧ st 20 = .slice (some ⟨tb, to_, none⟩) S.ts.length tc ∧ st 21 = .int .i64 S.ts.length ∧ st 22 = .int .i64 i ∧ st 13 = lv ∧ st 52 = .slice fA t.2.length fc ∧ st 53 = .int .i64 t.2.length ∧ st 54 = .int .i64 j ∧ (t.2.take j).foldl putL l0 = l ∧ Places l ∧ RowsI wi (fun j => w.heap.size ≤ j) (us.set k lv) (ls0.set k l) ∧ wi.ownsRow w.heap.size 27 32 ov ids0.length (flatI ids0) ∧ MpI wi w.heap.size ((L.map Prod.fst).zip us) ∧ wi.ownsRow 0 3 1 (.slice fA t.2.length fc) t.2.length (intsK .i64 t.2) ∧ Blk wi w3.heap.size 27 (bl a).toArray ∧ Below w.heap.size w wi) (fun st _ => t.2.length - (intOf (st 54)).toNat) ?_ ?_
          · exact ⟨0, v0, l0, by omega, by simp [go_sem, e0], by simp [go_sem, e4], by simp [go_sem, e5], by simp [go_sem], by simp [go_sem, e20], by simp [go_sem, e21], by simp [go_sem, e22], by simp [go_sem], by simp [go_sem], by simp [go_sem], by simp [go_sem], rfl, hl0, by rw [set_same hk, set_same hlk]; exact hR5, hov5, hM5, hro5, hA5, hB5⟩
          · rintro si wi ⟨j, lv, l, hj, d0, d4, d5, d10, d20, d21, d22, d13, d52, d53, d54, hfold, hpl, hRi, hovi, hMi, hroi, hAi, hBi⟩
            have hkv : (us.set k lv)[k]? = some lv := List.getElem?_set_self (List.getElem?_eq_some_iff.1 hk).1
            have hkl : (ls0.set k l)[k]? = some l := List.getElem?_set_self (List.getElem?_eq_some_iff.1 hlk).1
            obtain ⟨hlo, hlO⟩ := hRi.at_ k lv l hkv hkl
            by_cases hjl : j < t.2.length
            · have hjl' : (j : Int) < t.2.length := by omega
              obtain ⟨gb, go, eA, hgb, hgc⟩ := (Rd.of_own hroi).cells (by omega)
              have x0 := hgc j (.int .i64 t.2[j]) (by simp [intsK, hjl])
              have hxv := ht3 _ (List.getElem_mem hjl)
              have hf1 := take_fold putL l0 hjl
              rw [hfold] at hf1
              simp [go_sem, IntWalk.iteOmega, IntWalk.toNatUp, d0, d4, d5, d10, d20, d21, d22, d13, d52, d53, d54, hjl', hjl, eA, x0]
              have hll := hpl.len
              refine callE_of (fput_any l t.2[j] w.heap.size lv wi hpl.1 (by omega) (own_mono0 hlo hlO) hBi.size) ?_
              rintro r w6 ⟨hr6, hg6, hbk6⟩
              have hr60 := own_mono (base' := 0) hr6 (Nat.zero_le _)
              have hRo : ∀ j, r.ownBlock = some j → w.heap.size ≤ j := fun j hj => (hr6.lt j hj).1
              have hR6 := hRi.put hkv hkl hg6 hr60 hRo hbk6
              rw [List.set_set, List.set_set] at hR6
              have hB6 := hBi.grown hg6 hBi.size hlO
              have hov6 := row_keeps (O := fun j => lv.ownBlock ≠ some j) hovi (Keeps.grown hg6 fun k hk h => h hk) (fun j hj e => rows_ne hlo hovi (by decide) j e hj)
              have hM6 : MpI w6 w.heap.size ((L.map Prod.fst).zip us) := hMi.far (hg6.block _ hMi.lt (fun e => row_map hlo hMi e.symm))
              have hA6 : Blk w6 w3.heap.size 27 (bl a).toArray := (hg6.block _ hAi.lt (fun e => row_ne hlo hAi (by decide) e.symm)).trans hAi
              have hro6 := row_keeps (O := fun j => j < w.heap.size) hroi (Keeps.grown hg6 fun k hk h => by have := hlO k hk; omega) (fun j hj => hrlt j hj)
              simp [go_sem, IntWalk.iteOmega, IntWalk.toNatUp, d0, d4, d5, d10, d20, d21, d22, d13, d52, d53, d54]
              refine roundEnd.mk ⟨j + 1, r, putL l t.2[j], by omega, by simp [go_sem, d0], by simp [go_sem, d4], by simp [go_sem, d5], by simp [go_sem, d10], by simp [go_sem, d20], by simp [go_sem, d21], by simp [go_sem, d22], by simp [go_sem], by simp [go_sem, d52], by simp [go_sem, d53], by simp [go_sem], hf1, hpl.put hxv, hR6, hov6, hM6, hro6, hA6, hB6⟩ ?_
              simp [go_sem, intOf, d54]; omega
            · obtain rfl : j = t.2.length := by omega
              have hjl' : ¬ (t.2.length : Int) < t.2.length := by omega
              rw [List.take_of_length_le (Nat.le_refl _)] at hfold
              have x2 := readCells_all hAi 32 (by simpa using la)
              obtain ⟨w7, hup, hM7, ht7⟩ := run_mapUpdateI idKey hMi Tryz.underlying99 a hat lv
              have hup' : (Instr.mapUpdate 99 (.map (some w.heap.size)) (.agg (bl a).toArray) lv).run Tryz.prog wi = .ok () w7 := hup
              simp [go_sem, IntWalk.iteOmega, IntWalk.toNatUp, d0, d4, d5, d10, d20, d21, d22, d13, d52, d53, d54, hjl', x2, hup']
              rw [hput lv] at hM7
              obtain ⟨p1, p2⟩ := hputA l
              rw [hx0, hl0e, hfold] at hL1
              have hWl : WhoOk (i + 1) (putAt a l L) := hW.put hat hpl
              have hlen7 : ids0.length = (putAt a l L).length := by rw [← p1]; simp
              have kT : Keeps (fun j => j ≠ w.heap.size) wi w7 := ⟨ht7.os, ht7.tape, ht7.output, Nat.le_of_eq ht7.size.symm, fun g _ hg => ht7.far g hg⟩
              have hB7 : Below w.heap.size w w7 := ht7.below hBi (Nat.le_refl _)
              refine roundEnd.mk ⟨i + 1, putAt a l L, ov, us.set k lv, by omega, by simp [go_sem, d0], by simp [go_sem, d4], by simp [go_sem, d5], by simp [go_sem, d20], by simp [go_sem, d21], by simp [go_sem], hL1, hWl, ?_, ?_, ?_, hB7⟩ ?_
              · rw [p1, ← hlen7]
                exact row_keeps hovi kT (fun j hj e => row_map hovi hMi (e ▸ hj))
              · rw [p1]; exact hM7
              · rw [p2]
                exact ⟨hRi.len, fun x u m h1 h2 => ⟨row_keeps (hRi.at_ x u m h1 h2).1 kT (fun j hj e => row_map (hRi.at_ x u m h1 h2).1 hMi (e ▸ hj)), (hRi.at_ x u m h1 h2).2⟩, hRi.apart⟩
              · simp [go_sem, intOf, d22]; omega
      · rw [if_neg hh] at hL1
        have hh' : (how != 0) = true := by simpa using hh
        simp [go_sem, IntWalk.iteOmega, IntWalk.toNatUp, e0, e4, e5, e20, e21, e22, z2, z3, la, bl_one, hh']
        have hBC := hB.trans (kC.mono hB.size)
        refine roundEnd.mk ⟨i + 1, L, ov, us, by omega, by simp [go_sem, e0], by simp [go_sem, e4], by simp [go_sem, e5], by simp [go_sem, e20], by simp [go_sem, e21], by simp [go_sem], hL1, hW.more (by omega), row_below hov kC, hM.keep kC, hR.keeps (Keeps.of_ext kC), hBC⟩ ?_
        simp [go_sem, intOf, e22]; omega
    · obtain rfl : i = S.ts.length := by omega
      have hlt' : ¬ (S.ts.length : Int) < S.ts.length := by omega
      rw [List.take_of_length_le (Nat.le_refl _)] at hL
      have hL' : missL S = L := hL
      simp [go_sem, IntWalk.iteOmega, IntWalk.toNatUp, e0, e4, e5, e20, e21, e22, hlt', hL']
      exact ⟨hov, us, hM, hR, hW.more hok.tsn, hB⟩
end Go.Proofs.YtdjcjjodbniebaaGreatDoor
