/-
  Texts joined: FWay.
-/
import Derived.Test.YtdjcjjodbniebaaGreatDoorJoin18
namespace Go.Proofs.YtdjcjjodbniebaaGreatDoor
open Go.RowKit
set_option linter.unusedVariables false
set_option linter.unusedSimpArgs false
set_option maxRecDepth 10000
theorem rd_one {w : World} {g : Nat} {t : TypeId} {l : List Value} {n : Nat} (h : Blk w g t l.toArray) (hl : l.length = n) : Rd w n (some ⟨g, 0, none⟩) 1 l :=
  ⟨by omega, fun _ => ⟨g, 0, rfl, h.lt, fun j v hj => by rw [Nat.zero_add, h.cell, List.getElem?_toArray]; exact hj⟩⟩
theorem fold_bk (x : List Value) (hx : x.length = 34) : List.foldl (fun (cs : Array Value) (x : Value × Nat) => cs.setIfInBounds x.snd x.fst) #[Value.int IntKind.u8 0, Value.int IntKind.u8 0, Value.int IntKind.u8 0, Value.int IntKind.u8 0, Value.int IntKind.u8 0, Value.int IntKind.u8 0, Value.int IntKind.u8 0, Value.int IntKind.u8 0, Value.int IntKind.u8 0, Value.int IntKind.u8 0, Value.int IntKind.u8 0, Value.int IntKind.u8 0, Value.int IntKind.u8 0, Value.int IntKind.u8 0, Value.int IntKind.u8 0, Value.int IntKind.u8 0, Value.int IntKind.u8 0, Value.int IntKind.u8 0, Value.int IntKind.u8 0, Value.int IntKind.u8 0, Value.int IntKind.u8 0, Value.int IntKind.u8 0, Value.int IntKind.u8 0, Value.int IntKind.u8 0, Value.int IntKind.u8 0, Value.int IntKind.u8 0, Value.int IntKind.u8 0, Value.int IntKind.u8 0, Value.int IntKind.u8 0, Value.int IntKind.u8 0, Value.int IntKind.u8 0, Value.int IntKind.u8 0, Value.int IntKind.i64 0, Value.slice none 0 0] x.zipIdx = x.toArray := by
  rw [foldl_set x 0 _ (by rw [hx]; decide), hx]
  simp
theorem zero_block (w : World) : (zeroValue 29).run Tryz.prog w = .ok (.agg zeroB.toArray) w := rfl
set_option maxHeartbeats 3200000 in
theorem fway_any {w : World} {O : Nat → Prop} {f : Nat} {S : FS} {tv : Value} {rk ra ro : Nat} {vs : List Value} {K : List (List UInt8 × Bk × Value)} (h : FIn w O f S tv rk ra ro vs K) (hok : FOk S) (hC : Cubes w) {id : List UInt8} (hid : id.length = 32) :
    callE Tryz.prog 55 #[.pointer (some ⟨f, 0, none⟩), .agg (bl id).toArray] w fun r w' => ∃ v xs, r = .tuple #[v, .int .i64 (wayF S id).2.1, .agg (bl (wayF S id).2.2).toArray] ∧ xs.map Prod.fst = (wayF S id).1 ∧ w'.ownsRow w.heap.size 29 34 v (wayF S id).1.length (flat xs) ∧ (∀ x ∈ xs, ∃ a, (a, x) ∈ K) ∧ WayI S (wayF S id).1 ∧ (wayF S id).2.2.length = 32 ∧ Below w.heap.size w w' := by
  have l32 : (bl id).length = 32 := by rw [bl_length]; exact hid
  have y2 : ∀ (W : World) (k : Array Value) (t : TypeId) (g : Nat), k.size = 32 → W.heap.size = g → canWrite (W.alloc (.cells k t)) ⟨g, 0, none⟩ 0 32 = true := fun W k t g hk hg => canWrite_all (Blk.self_ hg.symm) 32 hk
  have y3 : ∀ (W : World) (k : Array Value) (t : TypeId) (g : Nat) (l : List Value), k.size = l.length → W.heap.size = g → storeSeg (W.alloc (.cells k t)) ⟨g, 0, none⟩ 0 l = (W.alloc (.cells k t)).setRow g l.toArray := fun W k t g l hk hg => storeSeg_all (Blk.self_ hg.symm) l hk.symm
  have x1 : ∀ (k : Array Value) (t : TypeId), readCells ((w.alloc (.cells (bl id).toArray 27)).alloc (.cells k t)) ⟨w.heap.size, 0, none⟩ 0 32 = some (bl id) := fun k t => readCells_all (cs := (bl id).toArray) ((Blk.self_ rfl).more _) 32 (by simpa using l32)
  refine calls_E Tryz.func55 rfl rfl rfl (Nat.le_of_ble_eq_true rfl) ?_
  simp [go_sem, IntWalk.iteOmega, IntWalk.toNatUp, l32, x1, y2, y3, bl_one]
  have kW : Below w.heap.size w ((((w.alloc (.cells (bl id).toArray 27)).alloc (.cells zeroI.toArray 27)).alloc (.cells zeroI.toArray 27)).setRow (w.heap.size + 1 + 1) (bl id).toArray) := below_setRow ((((Below.refl _ _).alloc (Nat.le_refl _) _).alloc (by simp) _).alloc (by simp; omega) _) (by omega) _
  have h6 : Blk ((((w.alloc (.cells (bl id).toArray 27)).alloc (.cells zeroI.toArray 27)).alloc (.cells zeroI.toArray 27)).setRow (w.heap.size + 1 + 1) (bl id).toArray) (w.heap.size + 1) 27 zeroI.toArray := Blk.farRow ((Blk.self_ (by simp)).more _) (by omega) _
  have h8 : Blk ((((w.alloc (.cells (bl id).toArray 27)).alloc (.cells zeroI.toArray 27)).alloc (.cells zeroI.toArray 27)).setRow (w.heap.size + 1 + 1) (bl id).toArray) (w.heap.size + 1 + 1) 27 (bl id).toArray := Blk_setRow (Blk.self_ (by simp))
  change W _ _ _ _ ((((w.alloc (.cells (bl id).toArray 27)).alloc (.cells zeroI.toArray 27)).alloc (.cells zeroI.toArray 27)).setRow (w.heap.size + 1 + 1) (bl id).toArray) _
  generalize ((((w.alloc (.cells (bl id).toArray 27)).alloc (.cells zeroI.toArray 27)).alloc (.cells zeroI.toArray 27)).setRow (w.heap.size + 1 + 1) (bl id).toArray) = w2 at *
  refine W_loop (fun st wr => ∃ out xs a p ov, st 0 = .pointer (some ⟨f, 0, none⟩) ∧ st 6 = .pointer (some ⟨w.heap.size + 1, 0, none⟩) ∧ st 7 = ov ∧ st 8 = .pointer (some ⟨p, 0, none⟩) ∧ Blk wr (w.heap.size + 1) 27 zeroI.toArray ∧ Blk wr p 27 (bl a).toArray ∧ w.heap.size + 1 < p ∧ a.length = 32 ∧ wr.ownsRow w.heap.size 29 34 ov out.length (flat xs) ∧ xs.map Prod.fst = out ∧ (∀ x ∈ xs, ∃ a, (a, x) ∈ K) ∧ WayI S out ∧ wayL S (S.kept.length + 1 - out.length) out a = wayF S id ∧ Below w.heap.size w wr) (fun st _ => 4097 - sliceLen (st 7)) ?_ ?_
  · exact ⟨[], [], id, w.heap.size + 1 + 1, .slice none 0 0, by simp [go_sem], by simp [go_sem], by simp [go_sem], by simp [go_sem], h6, h8, by omega, hid, World.ownsRow_nil _ _ _ _, rfl, by simp, ⟨by simp, by simp⟩, rfl, kW⟩
  · rintro st wr ⟨out, xs, a, p, ov, e0, e6, e7, e8, h6, h8, hp, ha, hov, hxs, hxk, hI, hL, hB⟩
    obtain ⟨-, A, cc, rfl⟩ := own_sl hov
    have hF := h.keep hB
    have la : (bl a).length = 32 := by rw [bl_length]; exact ha
    have hn : out.length ≤ 4096 := Nat.le_trans hI.len hok.keptn
    simp [go_sem, IntWalk.iteOmega, IntWalk.toNatUp, e0, e6, e7, e8]
    refine W_still follows (by kernel_rfl) ?_
    have x0 := readCells_all h8.drew 32 (by simpa using la)
    have x1 := (hF.keep (ext_drew wr)).idcells hok.last
    have hq := fun W => id_eq a S.last ha hok.last W
    have hfl : S.kept.length + 1 - out.length = (S.kept.length - out.length) + 1 := by have := hI.len; omega
    rw [hfl] at hL
    unfold wayL at hL
    have h6l := h6.lt
    have fin : ∀ (k : Int), (out, k, a) = wayF S id → ∀ W : World, Below w.heap.size w W → W.ownsRow w.heap.size 29 34 (.slice A out.length cc) out.length (flat xs) → ∃ v, (Value.slice A out.length cc = v ∧ k = (wayF S id).2.1 ∧ bl a = bl (wayF S id).2.2) ∧ ∃ x, x.map Prod.fst = (wayF S id).1 ∧ W.ownsRow w.heap.size 29 34 v (wayF S id).1.length (flat x) ∧ (∀ (b : Bk) (u : Value), (b, u) ∈ x → ∃ a, (a, b, u) ∈ K) ∧ WayI S (wayF S id).1 ∧ (wayF S id).2.2.length = 32 ∧ Below w.heap.size w W := by
      intro k e W kW ho
      rw [← e]
      exact ⟨_, ⟨rfl, rfl, rfl⟩, xs, hxs, ho, fun b u hx => hxk _ hx, hI, ha, kW⟩
    have hrow : ∀ cs, (wr.drew.drew.setRow (w.heap.size + 1) cs).ownsRow w.heap.size 29 34 (.slice A out.length cc) out.length (flat xs) := fun cs => row_keeps (O := fun j => j ≠ w.heap.size + 1) (a := wr.drew.drew) hov (Keeps.setRow _ _ _ (by simp)) (fun j hj e => row_ne hov h6 (by decide) (e ▸ hj))
    by_cases hl : a = S.last
    · rw [if_pos hl] at hL
      have hl' : (a == S.last) = true := by simpa using hl
      simp [go_sem, IntWalk.iteOmega, IntWalk.toNatUp, e0, e6, e7, e8, x0, x1, hq, hl']
      refine W_flow (fun g => g ≠ w.heap.size + 1) (.pure 0 (.pure 1 (.pure 2 (.pure 3 (.one 4 (.done)))))) follows (by kernel_rfl) ?_
      have hr := held_refl (fun g => g ≠ w.heap.size + 1) wr.drew.drew
      have hpl := h8.lt
      have hpn : p ≠ w.heap.size + 1 := by omega
      have z0 := readCells_all h8.drew.drew 32 (by simpa using la)
      have z1 := canWrite_all h6.drew.drew 32 rfl
      have z2 := storeSeg_all h6.drew.drew (bl a) (by rw [la]; rfl)
      have z4 := readCells_all (Blk_setRow h6.drew.drew (cs' := (bl a).toArray)) 32 (by simpa using la)
      simp [go_sem, IntWalk.iteOmega, IntWalk.toNatUp, e0, e6, e7, e8, hr, hpl, hpn, z0, z1, z2, z4, la, bl_one]
      exact ⟨hr.row _ (by simp), fin 1 hL _ (below_setRow (hB.drew.drew) (by omega) _) (hrow _)⟩
    · rw [if_neg hl] at hL
      have hl' : (a == S.last) = false := by simpa using hl
      have hlk : ∀ (W : World) (hm : MpI W rk (keptL K)), (Instr.lookup 68 (.map (some rk)) (.agg (bl a).toArray) true).run Tryz.prog W = .ok (.tuple #[(atId a (keptL K)).getD (.agg zeroB.toArray), .bool (atId a (keptL K)).isSome]) W := fun W hm => (run_lookupI idKey hm Tryz.underlying68 a ha (zero_block W)).1
      have hlook := hF.look a
      have hc35 := ((hF.keep (ext_drew wr)).cells hok.last).2.2.2.1
      simp [go_sem, IntWalk.iteOmega, IntWalk.toNatUp, e0, e6, e7, e8, x0, x1, hq, hl']
      refine W_flow (fun _ => True) (.pure 0 (.pure 1 (.pure 2 (.pure 3 (.pure 4 (.two 5 (.pure 6 (.pure 7 (.pure 8 (.one 9 (.one 10 (.pure 11 (.done))))))) 9 (.one 5 (.pure 6 (.pure 7 (.pure 8 (.one 10 (.pure 11 (.done))))))))))))) follows (by kernel_rfl) ?_
      have hr := held_refl (fun _ => True) wr.drew.drew
      have hpl := h8.lt
      have z0 := readCells_all h8.drew.drew 32 (by simpa using la)
      have hflt := hF.blk.lt
      have hl1 := hlk wr.drew.drew ((hF.mpk.keep (ext_drew wr)).keep (ext_drew _))
      have hl2 := fun (k : Array Value) (t : TypeId) => hlk (wr.alloc (.cells k t)).drew.drew (((hF.mpk.keep (ext_alloc wr _)).keep (ext_drew _)).keep (ext_drew _))
      have u2 : ∀ (k : Array Value) (t : TypeId), k.size = 34 → canWrite (wr.alloc (.cells k t)).drew.drew ⟨wr.heap.size, 0, none⟩ 0 34 = true := fun k t hk => canWrite_all (Blk.self_ rfl) 34 hk
      have u3 : ∀ (k : Array Value) (t : TypeId) (l : List Value), k.size = 34 → l.length = 34 → storeSeg (wr.alloc (.cells k t)).drew.drew ⟨wr.heap.size, 0, none⟩ 0 l = (wr.alloc (.cells k t)).drew.drew.setRow wr.heap.size l.toArray := fun k t l hk hl => storeSeg_all (w := (wr.alloc (.cells k t)).drew.drew) (Blk.drew (Blk.drew (Blk.self_ rfl))) l (by rw [hk, hl])
      have hz34 : zeroB.length = 34 := rfl
      have hz1 : allOne zeroB = true := rfl
      have hA : ∀ (k : Array Value) (t : TypeId), heldE (fun _ => True) wr.drew.drew (wr.alloc (.cells k t)).drew.drew := fun k t => hr.alloc _
      have kA : ∀ (k : Array Value) (t : TypeId) (l : Array Value), Below wr.heap.size wr ((wr.alloc (.cells k t)).drew.drew.setRow wr.heap.size l) := fun k t l => below_setRow ((ext_alloc wr _).drew.drew) (Nat.le_refl _) _
      have hA2 : ∀ (k : Array Value) (t : TypeId) (l : Array Value), heldE (fun _ => True) wr.drew.drew ((wr.alloc (.cells k t)).drew.drew.setRow wr.heap.size l) := fun k t l => ⟨(kA k t l).size, fun g _ hg => (kA k t l).block g hg⟩
      cases hb : keptOf S a with
      | none =>
        rw [hb] at hL hlook
        have hat : atId a (keptL K) = none := hlook
        simp [go_sem, IntWalk.iteOmega, IntWalk.toNatUp, e0, e6, e7, e8, hr, hpl, hflt, hc35, z0, hl1, hl2, u2, u3, hz34, hz1, hat, hA, hA2]
        have k3 := kA zeroB.toArray 29 zeroB.toArray
        change W _ _ _ _ ((wr.alloc (.cells zeroB.toArray 29)).drew.drew.setRow wr.heap.size zeroB.toArray) _ ∧ W _ _ _ _ ((wr.alloc (.cells zeroB.toArray 29)).drew.drew.setRow wr.heap.size zeroB.toArray) _
        generalize (wr.alloc (.cells zeroB.toArray 29)).drew.drew.setRow wr.heap.size zeroB.toArray = w3 at *
        have h63 := h6.keep k3
        have h83 := h8.keep k3
        have hov3 := row_below hov k3
        have hB3 := hB.trans (k3.mono hB.size)
        refine ⟨?_, ?_⟩ <;>
        · refine W_flow (fun g => g ≠ w.heap.size + 1) (.pure 0 (.pure 1 (.pure 2 (.pure 3 (.one 4 (.done)))))) follows (by kernel_rfl) ?_
          have hr3 := held_refl (fun g => g ≠ w.heap.size + 1) w3.drew
          have hpl3 := h83.lt
          have h6l3 := h63.lt
          have hpn : p ≠ w.heap.size + 1 := by omega
          have z0 := readCells_all h83.drew 32 (by simpa using la)
          have z1 := canWrite_all h63.drew 32 rfl
          have z2 := storeSeg_all h63.drew (bl a) (by rw [la]; rfl)
          have z4 := readCells_all (Blk_setRow h63.drew (cs' := (bl a).toArray)) 32 (by simpa using la)
          simp [go_sem, IntWalk.iteOmega, IntWalk.toNatUp, e0, e6, e7, e8, hr3, hpl3, hpn, z0, z1, z2, z4, la, bl_one]
          exact ⟨hr3.row _ (by simp), fin 0 hL _ (below_setRow (hB3.drew) (by omega) _) (row_keeps (O := fun j => j ≠ w.heap.size + 1) (a := w3.drew) hov3 (Keeps.setRow _ _ _ (by simp)) (fun j hj e => row_ne hov3 h63 (by decide) (e ▸ hj)))⟩
      | some b =>
        rw [hb] at hL hlook
        obtain ⟨dv, hmem, hat⟩ := hlook
        dsimp only at hL
        have hbo : BkOk b := (hF.dat _ hmem).1
        have hbd : wr.ownsRow 0 5 1 dv b.data.length (bl b.data) := (hF.dat _ hmem).2.1
        have l34 := bkv_len (dv := dv) hbo.len
        obtain ⟨-, dA, dc, rfl⟩ := own_sl hbd
        have hb1 := bkv_one b dA b.data.length dc
        simp [go_sem, IntWalk.iteOmega, IntWalk.toNatUp, e0, e6, e7, e8, hr, hpl, hflt, hc35, z0, hl1, hl2, u2, u3, l34, hat, hb1, hA, hA2]
        have k3 := kA zeroB.toArray 29 (bkv b (.slice dA b.data.length dc)).toArray
        have h9 : Blk ((wr.alloc (.cells zeroB.toArray 29)).drew.drew.setRow wr.heap.size (bkv b (.slice dA b.data.length dc)).toArray) wr.heap.size 29 (bkv b (.slice dA b.data.length dc)).toArray := Blk_setRow (Blk.drew (Blk.drew (Blk.self_ rfl)))
        change W _ _ _ _ ((wr.alloc (.cells zeroB.toArray 29)).drew.drew.setRow wr.heap.size (bkv b (.slice dA b.data.length dc)).toArray) _ ∧ W _ _ _ _ ((wr.alloc (.cells zeroB.toArray 29)).drew.drew.setRow wr.heap.size (bkv b (.slice dA b.data.length dc)).toArray) _
        generalize (wr.alloc (.cells zeroB.toArray 29)).drew.drew.setRow wr.heap.size (bkv b (.slice dA b.data.length dc)).toArray = w3 at *
        have h63 := h6.keep k3
        have h83 := h8.keep k3
        have hov3 := row_below hov k3
        have hB3 := hB.trans (k3.mono hB.size)
        have hF3 := hF.keep k3
        have hx9 : BkAt w3 wr.heap.size b (.slice dA b.data.length dc) := ⟨h9, hbo, own_rdB (row_below hbd k3)⟩
        refine ⟨?_, ?_⟩ <;>
        · refine W_still follows (by kernel_rfl) ?_
          have hc32 := ((hF3.keep (ext_drew w3)).cells hok.last).1
          have x1 := (hF3.keep (ext_drew w3)).idcells hok.last
          have x2 := (hx9.keep (ext_drew w3)).height
          have x3 := (hx9.keep (ext_drew w3)).id
          have hq := fun W => id_eq b.parent S.last hbo.len hok.last W
          by_cases c1 : b.height ≤ S.height
          · rw [if_pos (show wayBad S out b from .inl c1)] at hL
            simp [go_sem, IntWalk.iteOmega, IntWalk.toNatUp, e0, e6, e7, e8, hc32, x1, x2, x3, c1]
            refine W_flow (fun g => g ≠ w.heap.size + 1) (.pure 0 (.pure 1 (.pure 2 (.pure 3 (.one 4 (.done)))))) follows (by kernel_rfl) ?_
            have hr9 := held_refl (fun g => g ≠ w.heap.size + 1) w3.drew.drew
            have hpl9 := h83.lt
            have h6l9 := h63.lt
            have hpn9 : p ≠ w.heap.size + 1 := by omega
            have t0 := readCells_all h83.drew.drew 32 (by simpa using la)
            have t1 := canWrite_all h63.drew.drew 32 rfl
            have t2 := storeSeg_all h63.drew.drew (bl a) (by rw [la]; rfl)
            have t4 := readCells_all (Blk_setRow h63.drew.drew (cs' := (bl a).toArray)) 32 (by simpa using la)
            simp [go_sem, IntWalk.iteOmega, IntWalk.toNatUp, e0, e6, e7, e8, hr9, hpl9, hpn9, t0, t1, t2, t4, la, bl_one]
            exact ⟨hr9.row _ (by simp), fin 2 hL _ (below_setRow (hB3.drew.drew) (by omega) _) (row_keeps (O := fun j => j ≠ w.heap.size + 1) (a := w3.drew.drew) hov3 (Keeps.setRow _ _ _ (by simp)) (fun j hj e => row_ne hov3 h63 (by decide) (e ▸ hj)))⟩
          · have hsub : IntKind.i64.wrap (b.height - 1) = b.height - 1 := by rw [wrap_i64_if, if_pos (by have := hbo.hi; have := hok.hlo; omega)]
            have q1 : (b.height - 1 == S.height) = decide (b.height - 1 = S.height) := by rw [Bool.eq_iff_iff]; simp
            have q2 : (b.parent == S.last) = decide (b.parent = S.last) := by rw [Bool.eq_iff_iff]; simp
            by_cases c2 : decide (b.height - 1 = S.height) = decide (b.parent = S.last)
            · have c2' : ((b.height - 1 == S.height) == (b.parent == S.last)) = true := by rw [q1, q2, c2]; simp
              simp [go_sem, IntWalk.iteOmega, IntWalk.toNatUp, e0, e6, e7, e8, hc32, x1, x2, x3, c1, hq, hsub, c2']
              have hbd' := row_below hbd k3
              have hx9d := hx9.keep (ext_drew w3)
              by_cases hm : 0 < out.length
              · have hmi : (0 : Int) < out.length := by omega
                obtain ⟨m, hm1⟩ : ∃ m, out.length = m + 1 := ⟨out.length - 1, by omega⟩
                have hml : m < out.length := by omega
                have hmi' : (m : Int) < out.length := by omega
                have hE : IntKind.i64.wrap ((out.length : Int) - 1) = (m : Int) := by rw [wrap_i64_if, if_pos (by omega)]; omega
                have hgl : out.getLast? = some out[m] := by rw [List.getLast?_eq_getElem?, hm1]; simp
                obtain ⟨ab, ao, rfl, hab, hac⟩ := (Rd.of_own hov3).cells (by omega)
                obtain ⟨adv, hao, had, hacs⟩ := rd_block hxs (fun x hx => by
                  obtain ⟨y, hy⟩ := hxk x hx
                  exact ⟨(hF3.dat _ hy).1, own_rdB (hF3.dat _ hy).2.1⟩) hac hml
                have ra : readCells w3.drew.drew ⟨ab, ao + m * 34, none⟩ 0 34 = some (bkv out[m] adv) := readCells_cells 34 0 _ (bkv_len hao.len) (fun j v hj => by rw [show ao + m * 34 + 0 + j = ao + (34 * m + j) by omega]; exact hacs j v hj)
                have hr4 := held_refl (fun _ => True) w3.drew.drew
                have h9l := hx9.blk.lt
                have x4 := (hx9d.keep (ext_drew _)).all
                refine W_flow (fun _ => True) (.pure 0 (.pure 1 (.pure 2 (.pure 3 (.pure 4 (.pure 5 (.pure 6 (.pure 7 (.pure 8 (.one 9 (.pure 10 (.pure 11 (.done))))))))))))) follows (by kernel_rfl) ?_
                simp [go_sem, IntWalk.iteOmega, IntWalk.toNatUp, e0, e6, e7, e8, hmi, hmi', hE, hr4, hab, h9l, ra, x4]
                refine callE_of (blinked_any hao ((had.keep (ext_drew w3)).keep (ext_drew _)) hbo (own_rdB (row_below (row_below hbd' (ext_drew w3)) (ext_drew w3.drew))) (((hC.keep hB3).keep (ext_drew w3)).keep (ext_drew _))) ?_
                rintro _ w4 ⟨rfl, k4⟩
                have kk4 : Below w3.heap.size w3 w4 := (Below.refl w3.heap.size w3).drew.drew.trans k4
                have hov4 := row_below hov3 kk4
                have h64 := h63.keep kk4
                have h84 := h83.keep kk4
                have hx94 := hx9.keep kk4
                have hB4 := hB3.trans (kk4.mono hB3.size)
                have hbd4 := row_below hbd' kk4
                have hr44 := hr4.below k4
                by_cases c3 : linkedB out[m] b = 0
                · have hbad : ¬ wayBad S out b := by
                    rintro (h | h | ⟨c, h, h'⟩)
                    · exact c1 h
                    · exact h c2
                    · rw [hgl] at h
                      injection h with h
                      subst h
                      exact h' c3
                  have x5 := hx94.all
                  have hfb := fold_bk _ l34
                  simp [go_sem, IntWalk.iteOmega, IntWalk.toNatUp, e0, e6, e7, e8, hr44, c3, x5, hfb, hm]
                  rw [if_neg hbad] at hL
                  have hI' := hI.snoc hb hbad
                  have hn' := hI'.len
                  rw [List.length_append] at hn'
                  simp only [List.length_cons, List.length_nil] at hn'
                  have hw4 : wr.heap.size < w4.heap.size := hx94.blk.lt
                  have kA : Below w4.heap.size w4 (w4.alloc (.cells (bkv b (.slice dA b.data.length dc)).toArray 29)) := ext_alloc w4 _
                  have hovA := row_below hov4 kA
                  have h6A := h64.keep kA
                  have h8A := h84.keep kA
                  have hxA := hx94.keep kA
                  have hBA := hB4.trans (kA.mono hB4.size)
                  have hrd : Rd ((w4.alloc (.cells (bkv b (.slice dA b.data.length dc)).toArray 29))) 34 (some ⟨w4.heap.size, 0, none⟩) 1 (bkv b (.slice dA b.data.length dc)) := rd_one (Blk.self_ rfl) l34
                  have hwA : w4.heap.size < ((w4.alloc (.cells (bkv b (.slice dA b.data.length dc)).toArray 29))).heap.size := by simp
                  generalize hWA : (w4.alloc (.cells (bkv b (.slice dA b.data.length dc)).toArray 29)) = wA at *
                  refine appendE w.heap.size 29 34 64 Tryz.underlying24 el29 hovA hrd hb1 (by unfold maxLen; omega) (by omega) hBA.size ?_
                  intro v' w6 hr6 hg6 hbk6
                  have hne9 : (Value.slice (some ⟨ab, ao, none⟩) out.length cc).ownBlock ≠ some wr.heap.size := fun e => by have := (hov.lt _ e).2; omega
                  have hx6 : BkAt w6 wr.heap.size b (.slice dA b.data.length dc) := ⟨(hg6.block _ hxA.blk.lt (fun e => hne9 e.symm)).trans hxA.blk, hbo, own_rdB (row_keeps (row_below hbd4 kA) (Keeps.grown (O := fun j => (Value.slice (some ⟨ab, ao, none⟩) out.length cc).ownBlock ≠ some j) hg6 fun k hk h => h hk) (fun j hj e => rows_ne hovA (row_below hbd4 kA) (by decide) j e hj))⟩
                  have h66 : Blk w6 (w.heap.size + 1) 27 zeroI.toArray := (hg6.block _ h6A.lt (fun e => row_ne hovA h6A (by decide) e.symm)).trans h6A
                  have h86 : Blk w6 p 27 (bl a).toArray := (hg6.block _ h8A.lt (fun e => row_ne hovA h8A (by decide) e.symm)).trans h8A
                  have hB6 := hBA.grown hg6 hBA.size (fun k hk => (hovA.lt k hk).1)
                  have x6 := hx6.id
                  have lp : (bl b.parent).length = 32 := by rw [bl_length]; exact hbo.len
                  have x7 := canWrite_all h86 32 (by simpa using la)
                  have x8 := storeSeg_all h86 (bl b.parent) (by rw [lp]; simpa using la.symm)
                  have x9 := readCells_all (Blk_setRow h86 (cs' := (bl b.parent).toArray)) 32 (by simpa using lp)
                  simp [go_sem, IntWalk.iteOmega, IntWalk.toNatUp, e0, e6, e7, e8, x6, x7, x8, x9, y2, y3, lp, bl_one]
                  have hB7 := below_setRow hB6 (g := p) (by omega) (bl b.parent).toArray
                  have h67 : Blk (w6.setRow p (bl b.parent).toArray) (w.heap.size + 1) 27 zeroI.toArray := h66.farRow (by omega) _
                  have hr7 := row_keeps (O := fun j => j ≠ p) hr6 (Keeps.setRow w6 p (bl b.parent).toArray (by simp)) (fun j hj e => row_ne hr6 h86 (by decide) (e ▸ hj))
                  have hsz7 : (w6.setRow p (bl b.parent).toArray).heap.size = w6.heap.size := by simp [World.setRow]
                  have hp6 := h86.lt
                  refine roundEnd.mk ⟨out ++ [b], xs ++ [(b, .slice dA b.data.length dc)], b.parent, w6.heap.size, v', by simp [go_sem, e0], by simp [go_sem, e6], by simp [go_sem], by simp [go_sem], ?_, ?_, by omega, hbo.len, ?_, by simp [hxs], fun x hx => ?_, hI', by simpa using hL, ?_⟩ ?_
                  · exact Blk.farRow (h67.more _) (by omega) _
                  · exact Blk_setRow (Blk.self_ hsz7.symm)
                  · have h0 : xs.flatMap (fun x => bkv x.1 x.2) ++ bkv b (.slice dA b.data.length dc) = flat (xs ++ [(b, .slice dA b.data.length dc)]) := by simp [flat]
                    have h1 := row_below hr7 (ext_alloc _ (.cells zeroI.toArray 27))
                    rw [show flat xs = xs.flatMap (fun x => bkv x.1 x.2) from rfl, h0] at h1
                    rw [List.length_append]
                    exact row_keeps (O := fun j => j ≠ w6.heap.size) h1 (Keeps.setRow _ _ _ (by simp)) (fun j hj e => by have := (hr7.lt j hj).2; omega)
                  · rcases List.mem_append.1 hx with hx | hx
                    · exact hxk x hx
                    · obtain rfl : x = _ := by simpa using hx
                      exact ⟨a, hmem⟩
                  · exact below_setRow (hB7.alloc hB7.size _) (by omega) _
                  · obtain ⟨-, A', c', rfl⟩ := own_sl hr6
                    simp [go_sem, sliceLen, e7]
                    omega
                · rw [if_pos (show wayBad S out b from .inr (.inr ⟨_, hgl, c3⟩))] at hL
                  have c3' : (linkedB out[m] b != 0) = true := by simpa using c3
                  simp [go_sem, IntWalk.iteOmega, IntWalk.toNatUp, e0, e6, e7, e8, hr44, c3', hm]
                  refine W_flow (fun g => g ≠ w.heap.size + 1) (.pure 0 (.pure 1 (.pure 2 (.pure 3 (.one 4 (.done)))))) follows (by kernel_rfl) ?_
                  have hr9 := held_refl (fun g => g ≠ w.heap.size + 1) w4.drew
                  have hpl9 := h84.lt
                  have h6l9 := h64.lt
                  have hpn9 : p ≠ w.heap.size + 1 := by omega
                  have t0 := readCells_all h84.drew 32 (by simpa using la)
                  have t1 := canWrite_all h64.drew 32 rfl
                  have t2 := storeSeg_all h64.drew (bl a) (by rw [la]; rfl)
                  have t4 := readCells_all (Blk_setRow h64.drew (cs' := (bl a).toArray)) 32 (by simpa using la)
                  simp [go_sem, IntWalk.iteOmega, IntWalk.toNatUp, e0, e6, e7, e8, hr9, hpl9, hpn9, t0, t1, t2, t4, la, bl_one]
                  exact ⟨hr9.row _ (by simp), fin 2 hL _ (below_setRow (hB4.drew) (by omega) _) (row_keeps (O := fun j => j ≠ w.heap.size + 1) (a := w4.drew) hov4 (Keeps.setRow _ _ _ (by simp)) (fun j hj e => row_ne hov4 h64 (by decide) (e ▸ hj)))⟩
              · have hm0 : ¬ (0 : Int) < out.length := by omega
                have hbad : ¬ wayBad S out b := by
                  rintro (h | h | ⟨c, h, _⟩)
                  · exact c1 h
                  · exact h c2
                  · have : out = [] := List.length_eq_zero_iff.1 (by omega)
                    subst this
                    simp at h
                refine W_flow (fun _ => True) (.pure 0 (.pure 1 (.pure 2 (.pure 3 (.pure 4 (.pure 5 (.pure 6 (.pure 7 (.pure 8 (.one 9 (.pure 10 (.pure 11 (.done))))))))))))) follows (by kernel_rfl) ?_
                have hov4 := hov3
                have h64 := h63
                have h84 := h83
                have hx94 := hx9
                have hB4 := hB3
                have hbd4 := hbd'
                have x5 := ((hx9.keep (ext_drew w3)).keep (ext_drew _)).all
                have hfb := fold_bk _ l34
                simp [go_sem, IntWalk.iteOmega, IntWalk.toNatUp, e0, e6, e7, e8, hm0, x5, hfb]
                rw [if_neg hbad] at hL
                have hI' := hI.snoc hb hbad
                have hn' := hI'.len
                rw [List.length_append] at hn'
                simp only [List.length_cons, List.length_nil] at hn'
                have hw4 : wr.heap.size < w3.heap.size := hx94.blk.lt
                have kA : Below w3.heap.size w3 (w3.alloc (.cells (bkv b (.slice dA b.data.length dc)).toArray 29)).drew.drew := (ext_alloc w3 _).drew.drew
                have hovA := row_below hov4 kA
                have h6A := h64.keep kA
                have h8A := h84.keep kA
                have hxA := hx94.keep kA
                have hBA := hB4.trans (kA.mono hB4.size)
                have hrd : Rd ((w3.alloc (.cells (bkv b (.slice dA b.data.length dc)).toArray 29)).drew.drew) 34 (some ⟨w3.heap.size, 0, none⟩) 1 (bkv b (.slice dA b.data.length dc)) := rd_one (Blk.drew (Blk.drew (Blk.self_ rfl))) l34
                have hwA : w3.heap.size < ((w3.alloc (.cells (bkv b (.slice dA b.data.length dc)).toArray 29)).drew.drew).heap.size := by simp
                generalize hWA : (w3.alloc (.cells (bkv b (.slice dA b.data.length dc)).toArray 29)).drew.drew = wA at *
                refine appendE w.heap.size 29 34 64 Tryz.underlying24 el29 hovA hrd hb1 (by unfold maxLen; omega) (by omega) hBA.size ?_
                intro v' w6 hr6 hg6 hbk6
                have hne9 : (Value.slice A out.length cc).ownBlock ≠ some wr.heap.size := fun e => by have := (hov.lt _ e).2; omega
                have hx6 : BkAt w6 wr.heap.size b (.slice dA b.data.length dc) := ⟨(hg6.block _ hxA.blk.lt (fun e => hne9 e.symm)).trans hxA.blk, hbo, own_rdB (row_keeps (row_below hbd4 kA) (Keeps.grown (O := fun j => (Value.slice A out.length cc).ownBlock ≠ some j) hg6 fun k hk h => h hk) (fun j hj e => rows_ne hovA (row_below hbd4 kA) (by decide) j e hj))⟩
                have h66 : Blk w6 (w.heap.size + 1) 27 zeroI.toArray := (hg6.block _ h6A.lt (fun e => row_ne hovA h6A (by decide) e.symm)).trans h6A
                have h86 : Blk w6 p 27 (bl a).toArray := (hg6.block _ h8A.lt (fun e => row_ne hovA h8A (by decide) e.symm)).trans h8A
                have hB6 := hBA.grown hg6 hBA.size (fun k hk => (hovA.lt k hk).1)
                have x6 := hx6.id
                have lp : (bl b.parent).length = 32 := by rw [bl_length]; exact hbo.len
                have x7 := canWrite_all h86 32 (by simpa using la)
                have x8 := storeSeg_all h86 (bl b.parent) (by rw [lp]; simpa using la.symm)
                have x9 := readCells_all (Blk_setRow h86 (cs' := (bl b.parent).toArray)) 32 (by simpa using lp)
                simp [go_sem, IntWalk.iteOmega, IntWalk.toNatUp, e0, e6, e7, e8, x6, x7, x8, x9, y2, y3, lp, bl_one]
                have hB7 := below_setRow hB6 (g := p) (by omega) (bl b.parent).toArray
                have h67 : Blk (w6.setRow p (bl b.parent).toArray) (w.heap.size + 1) 27 zeroI.toArray := h66.farRow (by omega) _
                have hr7 := row_keeps (O := fun j => j ≠ p) hr6 (Keeps.setRow w6 p (bl b.parent).toArray (by simp)) (fun j hj e => row_ne hr6 h86 (by decide) (e ▸ hj))
                have hsz7 : (w6.setRow p (bl b.parent).toArray).heap.size = w6.heap.size := by simp [World.setRow]
                have hp6 := h86.lt
                refine roundEnd.mk ⟨out ++ [b], xs ++ [(b, .slice dA b.data.length dc)], b.parent, w6.heap.size, v', by simp [go_sem, e0], by simp [go_sem, e6], by simp [go_sem], by simp [go_sem], ?_, ?_, by omega, hbo.len, ?_, by simp [hxs], fun x hx => ?_, hI', by simpa using hL, ?_⟩ ?_
                · exact Blk.farRow (h67.more _) (by omega) _
                · exact Blk_setRow (Blk.self_ hsz7.symm)
                · have h0 : xs.flatMap (fun x => bkv x.1 x.2) ++ bkv b (.slice dA b.data.length dc) = flat (xs ++ [(b, .slice dA b.data.length dc)]) := by simp [flat]
                  have h1 := row_below hr7 (ext_alloc _ (.cells zeroI.toArray 27))
                  rw [show flat xs = xs.flatMap (fun x => bkv x.1 x.2) from rfl, h0] at h1
                  rw [List.length_append]
                  exact row_keeps (O := fun j => j ≠ w6.heap.size) h1 (Keeps.setRow _ _ _ (by simp)) (fun j hj e => by have := (hr7.lt j hj).2; omega)
                · rcases List.mem_append.1 hx with hx | hx
                  · exact hxk x hx
                  · obtain rfl : x = _ := by simpa using hx
                    exact ⟨a, hmem⟩
                · exact below_setRow (hB7.alloc hB7.size _) (by omega) _
                · obtain ⟨-, A', c', rfl⟩ := own_sl hr6
                  simp [go_sem, sliceLen, e7]
                  omega
            · rw [if_pos (show wayBad S out b from .inr (.inl c2))] at hL
              have c2' : ((b.height - 1 == S.height) == (b.parent == S.last)) = false := by rw [q1, q2]; simpa using c2
              simp [go_sem, IntWalk.iteOmega, IntWalk.toNatUp, e0, e6, e7, e8, hc32, x1, x2, x3, c1, hq, hsub, c2']
              refine W_flow (fun g => g ≠ w.heap.size + 1) (.pure 0 (.pure 1 (.pure 2 (.pure 3 (.one 4 (.done)))))) follows (by kernel_rfl) ?_
              have hr9 := held_refl (fun g => g ≠ w.heap.size + 1) w3.drew.drew
              have hpl9 := h83.lt
              have h6l9 := h63.lt
              have hpn9 : p ≠ w.heap.size + 1 := by omega
              have t0 := readCells_all h83.drew.drew 32 (by simpa using la)
              have t1 := canWrite_all h63.drew.drew 32 rfl
              have t2 := storeSeg_all h63.drew.drew (bl a) (by rw [la]; rfl)
              have t4 := readCells_all (Blk_setRow h63.drew.drew (cs' := (bl a).toArray)) 32 (by simpa using la)
              simp [go_sem, IntWalk.iteOmega, IntWalk.toNatUp, e0, e6, e7, e8, hr9, hpl9, hpn9, t0, t1, t2, t4, la, bl_one]
              exact ⟨hr9.row _ (by simp), fin 2 hL _ (below_setRow (hB3.drew.drew) (by omega) _) (row_keeps (O := fun j => j ≠ w.heap.size + 1) (a := w3.drew.drew) hov3 (Keeps.setRow _ _ _ (by simp)) (fun j hj e => row_ne hov3 h63 (by decide) (e ▸ hj)))⟩
end Go.Proofs.YtdjcjjodbniebaaGreatDoor
