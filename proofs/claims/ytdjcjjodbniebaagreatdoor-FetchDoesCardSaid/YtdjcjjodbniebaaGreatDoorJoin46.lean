/-
  Texts joined: FCopy.
-/
import Derived.Test.YtdjcjjodbniebaaGreatDoorJoin45
namespace Go.Proofs.YtdjcjjodbniebaaGreatDoor
open Go.RowKit
set_option linter.unusedVariables false
set_option linter.unusedSimpArgs false
set_option maxRecDepth 10000
set_option maxHeartbeats 1600000 in
theorem cloneI_any {w : World} {v : Value} {l : List Int} (h : Sl w 1 v l.length (intsK .i64 l)) (hlen : l.length ≤ 100000) :
    callE Tryz.prog 65 #[v] w fun r w' => w'.ownsRow w.heap.size 3 1 r l.length (intsK .i64 l) ∧ Below w.heap.size w w' := by
  obtain ⟨A, cap, rfl, hrd, hA, hc1, hc2⟩ := id h
  refine calls_E Tryz.func65 rfl rfl rfl (Nat.le_of_ble_eq_true rfl) ?_
  rcases A with _ | a
  · have hn := (hA rfl).1
    obtain rfl : l = [] := List.length_eq_zero_iff.1 hn
    have hE := run_eql_nil (P := Tryz.prog) Tryz.underlying50 none 0 cap w
    simp [go_sem, IntWalk.iteOmega, IntWalk.toNatUp, hE]
    exact ⟨World.ownsRow_nil _ _ _ _, Below.refl _ _⟩
  · have hE := run_eql_nil (P := Tryz.prog) Tryz.underlying50 (some a) l.length cap w
    simp [go_sem, IntWalk.iteOmega, IntWalk.toNatUp, hE]
    have kB := ext_alloc w (.cells #[] 3)
    have hxb3 : Blk (w.alloc (.cells #[] 3)) w.heap.size 3 #[] := Blk.self_ rfl
    have hrd2 := hrd.keep kB
    have hrow : (w.alloc (.cells #[] 3)).ownsRow w.heap.size 3 1 (.slice (some ⟨w.heap.size, 0, none⟩) 0 0) 0 [] := ⟨rfl, .inr ⟨w.heap.size, 0, #[], rfl, Nat.le_refl _, hxb3, Nat.le_refl _, by unfold maxLen; omega, rfl, rfl⟩⟩
    have h1 : allOne (intsK .i64 l) = true := allOne_of fun v hv => by
      obtain ⟨x, _, rfl⟩ := List.mem_map.1 hv; rfl
    refine appendE w.heap.size 3 1 8 Tryz.underlying50 el3 hrow hrd2 h1 (by unfold maxLen; omega) (by omega) kB.size ?_
    intro out' w6 hout6 hgr6 hblk6
    have hb6 := kB.grown hgr6 kB.size (fun k hk => by
      have : w.heap.size = k := Option.some.inj hk
      omega)
    rw [Nat.zero_add, List.nil_append] at hout6
    simp [go_sem, IntWalk.iteOmega, IntWalk.toNatUp]
    exact ⟨hout6, hb6⟩
theorem run_mcloneI {w : World} {r : Nat} {es : Array MapEntry} {clock : Nat} {t : TypeId} (hb : w.heap[r]? = some (.map es clock)) : (Extern.MapsClone.clone #[.iface t (.map (some r))]).run Tryz.prog w = .ok (.iface t (.map (some w.heap.size))) (w.alloc (.map es clock)) := by
  have e : Extern.MapsClone.clone #[.iface t (.map (some r))] = (getObj r >>= fun o => match o with
      | .map entries clock => (newObj (.map entries clock) >>= fun n => pure (.iface t (.map (some n))))
      | _ => stuck "maps.clone: a map expected") := rfl
  rw [e]
  simp [MapKept.run_getObj_map hb, Result.andThen]
theorem call_mcloneI {w : World} {r : Nat} {es : Array MapEntry} {clock : Nat} {t : TypeId} (hb : w.heap[r]? = some (.map es clock)) : (callFunc 103 #[.iface t (.map (some r))]).run Tryz.prog w = .ok (.value (.iface t (.map (some w.heap.size)))) (w.alloc (.map es clock)) := by
  rw [run_callFunc_extern Tryz.func103 (by kernel_rfl) (by kernel_rfl) (by kernel_rfl) (e := Extern.MapsClone.clone) (by kernel_rfl)]
  rw [run_mcloneI hb]; rfl
theorem massertB (v : Value) (w : World) : (Instr.typeAssert (.iface 68 v) 20 68 false).run Tryz.prog w = .ok v w := by
  unfold Instr.typeAssert
  simp [run_underlying Tryz.underlying68, Result.andThen]
theorem massertO (v : Value) (w : World) : (Instr.typeAssert (.iface 69 v) 20 69 false).run Tryz.prog w = .ok v w := by
  unfold Instr.typeAssert
  simp [run_underlying Tryz.underlying69, Result.andThen]
theorem massertN (v : Value) (w : World) : (Instr.typeAssert (.iface 70 v) 20 70 false).run Tryz.prog w = .ok v w := by
  unfold Instr.typeAssert
  simp [run_underlying Tryz.underlying70, Result.andThen]
theorem mcloneB_any {w : World} {m : Nat} {L : List (List UInt8 × Value)} (h : MpI w m L) :
    callE Tryz.prog 62 #[.map (some m)] w fun v w' => v = .map (some w.heap.size) ∧ MpI w' w.heap.size L ∧ Below w.heap.size w w' := by
  obtain ⟨es, ck, h1, h2, h3⟩ := h
  have hcall := call_mcloneI (t := 68) h1
  refine calls_E Tryz.func62 rfl rfl rfl (Nat.le_of_ble_eq_true rfl) ?_
  have q := run_eql_map_nil (P := Tryz.prog) w 68 27 29 (some m) Tryz.underlying68
  simp [go_sem, IntWalk.iteOmega, IntWalk.toNatUp, q, hcall, massertB]
  exact ⟨⟨es, ck, heap_alloc_new w _, h2, h3⟩, ext_alloc _ _⟩
theorem mcloneO_any {w : World} {m : Nat} {L : List (List UInt8 × Value)} (h : MpI w m L) :
    callE Tryz.prog 63 #[.map (some m)] w fun v w' => v = .map (some w.heap.size) ∧ MpI w' w.heap.size L ∧ Below w.heap.size w w' := by
  obtain ⟨es, ck, h1, h2, h3⟩ := h
  have hcall := call_mcloneI (t := 69) h1
  refine calls_E Tryz.func63 rfl rfl rfl (Nat.le_of_ble_eq_true rfl) ?_
  have q := run_eql_map_nil (P := Tryz.prog) w 69 27 4 (some m) Tryz.underlying69
  simp [go_sem, IntWalk.iteOmega, IntWalk.toNatUp, q, hcall, massertO]
  exact ⟨⟨es, ck, heap_alloc_new w _, h2, h3⟩, ext_alloc _ _⟩
theorem mcloneN_any {w : World} {m : Nat} {L : List (List UInt8 × Value)} (h : MpI w m L) :
    callE Tryz.prog 64 #[.map (some m)] w fun v w' => v = .map (some w.heap.size) ∧ MpI w' w.heap.size L ∧ Below w.heap.size w w' := by
  obtain ⟨es, ck, h1, h2, h3⟩ := h
  have hcall := call_mcloneI (t := 70) h1
  refine calls_E Tryz.func64 rfl rfl rfl (Nat.le_of_ble_eq_true rfl) ?_
  have q := run_eql_map_nil (P := Tryz.prog) w 70 27 3 (some m) Tryz.underlying70
  simp [go_sem, IntWalk.iteOmega, IntWalk.toNatUp, q, hcall, massertN]
  exact ⟨⟨es, ck, heap_alloc_new w _, h2, h3⟩, ext_alloc _ _⟩
theorem fcells_maps {last : List UInt8} {height room : Int} {tv : Value} {rk ra ro a b c : Nat} (hl : last.length = 32) : ((((fcells last height room tv rk ra ro).toArray.setIfInBounds 35 (.map (some a))).setIfInBounds 36 (.map (some b))).setIfInBounds 37 (.map (some c))).setIfInBounds 34 (.slice none 0 0) = (fcells last height room (.slice none 0 0) a b c).toArray := by
  have l32 : (bl last).length = 32 := by rw [bl_length, hl]
  unfold fcells
  simp only [List.setIfInBounds_toArray]
  rw [List.set_append_right _ _ (by omega), List.set_append_right _ _ (by omega), List.set_append_right _ _ (by omega), List.set_append_right _ _ (by omega), l32]
  rfl
theorem fcells_tv {last : List UInt8} {height room : Int} {tv u : Value} {rk ra ro : Nat} (hl : last.length = 32) : (fcells last height room tv rk ra ro).toArray.setIfInBounds 34 u = (fcells last height room u rk ra ro).toArray := by
  have l32 : (bl last).length = 32 := by rw [bl_length, hl]
  unfold fcells
  simp only [List.setIfInBounds_toArray]
  rw [List.set_append_right _ _ (by omega), l32]
  rfl
theorem zeroF_lit2 : zeroF.toArray = #[Value.int IntKind.u8 0, Value.int IntKind.u8 0, Value.int IntKind.u8 0, Value.int IntKind.u8 0, Value.int IntKind.u8 0, Value.int IntKind.u8 0, Value.int IntKind.u8 0, Value.int IntKind.u8 0, Value.int IntKind.u8 0, Value.int IntKind.u8 0, Value.int IntKind.u8 0, Value.int IntKind.u8 0, Value.int IntKind.u8 0, Value.int IntKind.u8 0, Value.int IntKind.u8 0, Value.int IntKind.u8 0, Value.int IntKind.u8 0, Value.int IntKind.u8 0, Value.int IntKind.u8 0, Value.int IntKind.u8 0, Value.int IntKind.u8 0, Value.int IntKind.u8 0, Value.int IntKind.u8 0, Value.int IntKind.u8 0, Value.int IntKind.u8 0, Value.int IntKind.u8 0, Value.int IntKind.u8 0, Value.int IntKind.u8 0, Value.int IntKind.u8 0, Value.int IntKind.u8 0, Value.int IntKind.u8 0, Value.int IntKind.u8 0, Value.int IntKind.i64 0, Value.int IntKind.i64 0, Value.slice none 0 0, Value.map none, Value.map none, Value.map none] := rfl
def CopyO (w w' : World) (K : List (List UInt8 × Bk × Value)) : Nat → Prop := fun j => (w.heap.size ≤ j ∧ j < w'.heap.size) ∨ ∃ y ∈ K, y.2.2.ownBlock = some j
def CopyR (w wr : World) (vs : List Value) (ls : List (List Int)) : Prop := (∀ (i : Nat) (v : Value) (l : List Int), vs[i]? = some v → ls[i]? = some l → wr.ownsRow w.heap.size 3 1 v l.length (intsK .i64 l)) ∧ (∀ (i k : Nat) (v u : Value), vs[i]? = some v → vs[k]? = some u → i ≠ k → ∀ j, v.ownBlock = some j → u.ownBlock ≠ some j)
theorem CopyR.keeps {N : Nat → Prop} {w wr wz : World} {vs : List Value} {ls : List (List Int)} (h : CopyR w wr vs ls) (hk : Keeps N wr wz) (hN : ∀ (v : Value) (n : Nat) (xs : List Value), wr.ownsRow w.heap.size 3 1 v n xs → ∀ j, v.ownBlock = some j → N j) : CopyR w wz vs ls :=
  ⟨fun i v l h1 h2 => row_keeps (h.1 i v l h1 h2) hk (hN v _ _ (h.1 i v l h1 h2)), h.2⟩
theorem CopyR.below {w wr wz : World} {vs : List Value} {ls : List (List Int)} (h : CopyR w wr vs ls) (hk : Below wr.heap.size wr wz) : CopyR w wz vs ls := ⟨fun i v l h1 h2 => row_below (h.1 i v l h1 h2) hk, h.2⟩
theorem CopyR.add {w wr : World} {vs : List Value} {ls : List (List Int)} {v : Value} {l : List Int} {B : Nat} (h : CopyR w wr vs ls) (hn : vs.length < ls.length) (hl : ls[vs.length]? = some l) (hv : wr.ownsRow w.heap.size 3 1 v l.length (intsK .i64 l)) (hb : ∀ j, v.ownBlock = some j → B ≤ j) (ho : ∀ u ∈ vs, ∀ j, u.ownBlock = some j → j < B) : CopyR w wr (vs ++ [v]) ls := by
  have hlast : ∀ {i : Nat} {u : Value}, (vs ++ [v])[i]? = some u → (i < vs.length ∧ vs[i]? = some u) ∨ (i = vs.length ∧ u = v) := fun {i u} h1 => by
    by_cases hi : i < vs.length
    · rw [List.getElem?_append_left hi] at h1
      exact .inl ⟨hi, h1⟩
    · have hi1 := (List.getElem?_eq_some_iff.1 h1).1
      rw [List.length_append] at hi1
      have hi2 : i < vs.length + 1 := hi1
      obtain rfl : i = vs.length := by omega
      rw [List.getElem?_append_right (Nat.le_refl _), Nat.sub_self] at h1
      exact .inr ⟨rfl, (by simpa using h1 : v = u).symm⟩
  refine ⟨fun i u m h1 h2 => ?_, fun i k u z h1 h2 hik j hj => ?_⟩
  · rcases hlast h1 with ⟨_, h1⟩ | ⟨rfl, rfl⟩
    · exact h.1 i u m h1 h2
    · rw [hl] at h2
      obtain rfl := Option.some.inj h2
      exact hv
  · rcases hlast h1 with ⟨_, h1'⟩ | ⟨e1, e2⟩
    · rcases hlast h2 with ⟨_, h2'⟩ | ⟨e3, e4⟩
      · exact h.2 i k u z h1' h2' hik j hj
      · intro e
        rw [e4] at e
        have := hb j e
        have := ho u (List.mem_of_getElem? h1') j hj
        omega
    · rcases hlast h2 with ⟨_, h2'⟩ | ⟨e3, e4⟩
      · intro e
        rw [e2] at hj
        have := hb j hj
        have := ho z (List.mem_of_getElem? h2') j e
        omega
      · exact absurd (e1.trans e3.symm) hik
set_option maxHeartbeats 12800000 in
theorem fcopy_any {w : World} {O : Nat → Prop} {f : Nat} {S : FS} {tv : Value} {rk ra ro : Nat} {vs : List Value} {K : List (List UInt8 × Bk × Value)} (h : FIn w O f S tv rk ra ro vs K) (hok : FOk S) :
    callE Tryz.prog 32 #[.pointer (some ⟨f, 0, none⟩)] w fun r w' => ∃ x tv' r1 r2 r3 vs', r = .pointer (some ⟨x, 0, none⟩) ∧ FIn w' (CopyO w w' K) x S tv' r1 r2 r3 vs' K ∧ Below w.heap.size w w' := by
  have r0 := fun k => callE_eq noinit_fnone (fnone_made h.blk (FIn.c35 hok.last)) k
  have htsn := hok.tsn
  have hpos : 0 < w.heap.size := by have := h.blk.lt; omega
  obtain ⟨-, tA, tc, rfl⟩ := own_sl h.row
  have l38 := fcells_len (height := S.height) (room := S.room) (tv := .slice tA S.ts.length tc) (rk := rk) (ra := ra) (ro := ro) hok.last
  have x0 := readCells_all h.blk 38 (by simpa using l38)
  have hone : allOne (fcells S.last S.height S.room (.slice tA S.ts.length tc) rk ra ro) = true := allOne_of fun v hv => by
    unfold fcells at hv
    rcases List.mem_append.1 hv with hv | hv
    · exact allOne_mem (bl_one _) v hv
    · simp at hv
      rcases hv with rfl | rfl | rfl | rfl | rfl | rfl <;> rfl
  have y2 : ∀ (k : Array Value) (t : TypeId), k.size = 38 → canWrite (w.alloc (.cells k t)) ⟨w.heap.size, 0, none⟩ 0 38 = true := fun k t hk => canWrite_all (Blk.self_ rfl) 38 hk
  have y3 : ∀ (k : Array Value) (t : TypeId) (l : List Value), k.size = 38 → l.length = 38 → storeSeg (w.alloc (.cells k t)) ⟨w.heap.size, 0, none⟩ 0 l = (w.alloc (.cells k t)).setRow w.heap.size l.toArray := fun k t l hk hl => storeSeg_all (Blk.self_ rfl) l (by omega)
  have x0a : ∀ (k : Array Value) (t : TypeId), readCells (w.alloc (.cells k t)) ⟨f, 0, none⟩ 0 38 = some (fcells S.last S.height S.room (.slice tA S.ts.length tc) rk ra ro) := fun k t => readCells_all (h.blk.more _) 38 (by simpa using l38)
  refine calls_E Tryz.func32 rfl rfl rfl (Nat.le_of_ble_eq_true rfl) ?_
  simp [go_sem, IntWalk.iteOmega, IntWalk.toNatUp, r0, x0, x0a, y2, y3, l38, hone]
  obtain ⟨Wx, hWx⟩ : ∃ Wx, Wx = (w.alloc (.cells zeroF.toArray 72)).setRow w.heap.size (fcells S.last S.height S.room (.slice tA S.ts.length tc) rk ra ro).toArray := ⟨_, rfl⟩
  have kX : Below w.heap.size w Wx := by rw [hWx]; exact below_setRow (ext_alloc w _) (Nat.le_refl _) _
  have hX : Blk Wx w.heap.size 72 (fcells S.last S.height S.room (.slice tA S.ts.length tc) rk ra ro).toArray := by rw [hWx]; exact Blk_setRow (Blk.self_ rfl)
  rw [← zeroF_lit2, ← hWx]
  clear hWx x0 x0a y2 y3 r0
  refine W_flow (fun j => j = f) (.pure 0 (.pure 1 (.pure 2 (.pure 3 (.pure 5 (.pure 6 (.pure 7 (.pure 8 (.pure 10 (.pure 11 (.pure 12 (.pure 13 (.one 4 (.one 9 (.one 14 (.pure 15 (.one 16 (.pure 17 (.one 18 (.pure 19 (.one 20 (.done)))))))))))))))))))))) follows (by kernel_rfl) ?_
  have hq := held_refl (fun j => j = f) Wx.drew
  have kd := kX.drew
  have hXd := hX.drew
  generalize Wx.drew = v2 at *
  have hFd := h.keep kd
  obtain ⟨-, -, c34, c35, c36, c37⟩ := hFd.cells hok.last
  have hfl := hFd.blk.lt
  have hfx : w.heap.size ≠ f := by have := h.blk.lt; omega
  simp [go_sem, IntWalk.iteOmega, IntWalk.toNatUp, hq, c34, c35, c36, c37, hfl]
  refine callE_of (mcloneB_any hFd.mpk) ?_
  rintro _ w3 ⟨rfl, hm3, k3⟩
  have hq3 := hq.below k3
  have kd3 := kd.trans (k3.mono kd.size)
  simp [go_sem, IntWalk.iteOmega, IntWalk.toNatUp, hq3]
  refine callE_of (mcloneO_any (h.keep kd3).ma) ?_
  rintro _ w4 ⟨rfl, hm4, k4⟩
  have hq4 := hq3.below k4
  have kd4 := kd3.trans (k4.mono kd3.size)
  simp [go_sem, IntWalk.iteOmega, IntWalk.toNatUp, hq4]
  refine callE_of (mcloneN_any (h.keep kd4).mo) ?_
  rintro _ w5 ⟨rfl, hm5, k5⟩
  have hq5 := hq4.below k5
  have kd5 := kd4.trans (k5.mono kd4.size)
  have hX5 := ((hXd.keep k3).keep k4).keep k5
  obtain ⟨x, hx⟩ : ∃ x, x = w.heap.size := ⟨_, rfl⟩
  obtain ⟨r1, hr1⟩ : ∃ r1, r1 = v2.heap.size := ⟨_, rfl⟩
  obtain ⟨r2, hr2⟩ : ∃ r2, r2 = w3.heap.size := ⟨_, rfl⟩
  obtain ⟨r3, hr3⟩ : ∃ r3, r3 = w4.heap.size := ⟨_, rfl⟩
  have hm31 := (hm3.keep k4).keep k5
  have hm41 := hm4.keep k5
  have hxl := hXd.lt
  rw [← hx] at hX5 hfx hxl ⊢
  rw [← hr1] at hm31 hxl ⊢
  rw [← hr2] at hm41 ⊢
  rw [← hr3] at hm5 ⊢
  have hr12 : r1 < r2 := by rw [hr1, hr2]; exact hm3.lt
  have hr23 : r2 < r3 := by rw [hr2, hr3]; exact hm4.lt
  have b6 := Blk_set (o := 35) (v := .map (some r1)) hX5
  have b7 := Blk_set (o := 36) (v := .map (some r2)) b6
  have b8 := Blk_set (o := 37) (v := .map (some r3)) b7
  have b9 := Blk_set (o := 34) (v := .slice none 0 0) b8
  rw [fcells_maps hok.last] at b9
  have q6 := hq5.set (g := x) (o := 35) (.map (some r1)) hfx
  have q7 := q6.set (g := x) (o := 36) (.map (some r2)) hfx
  have q8 := q7.set (g := x) (o := 37) (.map (some r3)) hfx
  have z5 : w5.cell? ⟨x, 35, none⟩ = some (.map (some rk)) := by rw [hX5.cell]; exact FIn.c35 hok.last
  have z6 : (w5.setCell ⟨x, 35, none⟩ (.map (some r1))).cell? ⟨x, 36, none⟩ = some (.map (some ra)) := by rw [b6.cell, Array.getElem?_setIfInBounds, if_neg (by decide)]; exact FIn.c36 hok.last
  have z7 : ((w5.setCell ⟨x, 35, none⟩ (.map (some r1))).setCell ⟨x, 36, none⟩ (.map (some r2))).cell? ⟨x, 37, none⟩ = some (.map (some ro)) := by
    rw [b7.cell, Array.getElem?_setIfInBounds, if_neg (by decide), Array.getElem?_setIfInBounds, if_neg (by decide), List.getElem?_toArray]; exact fcells_at hok.last 5
  have z8 : (((w5.setCell ⟨x, 35, none⟩ (.map (some r1))).setCell ⟨x, 36, none⟩ (.map (some r2))).setCell ⟨x, 37, none⟩ (.map (some r3))).cell? ⟨x, 34, none⟩ = some (.slice tA S.ts.length tc) := by
    rw [b8.cell, Array.getElem?_setIfInBounds, if_neg (by decide), Array.getElem?_setIfInBounds, if_neg (by decide), Array.getElem?_setIfInBounds, if_neg (by decide)]; exact FIn.c34 hok.last
  have hkA : Keeps (fun j => j ≠ x) w5 ((((w5.setCell ⟨x, 35, none⟩ (.map (some r1))).setCell ⟨x, 36, none⟩ (.map (some r2))).setCell ⟨x, 37, none⟩ (.map (some r3))).setCell ⟨x, 34, none⟩ (.slice none 0 0)) := (((Keeps.setCell _ _ _ fun hh => hh rfl).trans (Keeps.setCell _ _ _ fun hh => hh rfl)).trans (Keeps.setCell _ _ _ fun hh => hh rfl)).trans (Keeps.setCell _ _ _ fun hh => hh rfl)
  have k9 : Below w.heap.size w ((((w5.setCell ⟨x, 35, none⟩ (.map (some r1))).setCell ⟨x, 36, none⟩ (.map (some r2))).setCell ⟨x, 37, none⟩ (.map (some r3))).setCell ⟨x, 34, none⟩ (.slice none 0 0)) := kd5.trans (hkA.below kd5.size fun j hj e => by omega)
  have hF9 := h.keep k9
  obtain ⟨-, -, c34z, -, -, -⟩ := hF9.cells hok.last
  have hu1 := hm31.keeps hkA (blk_map hX5 hm31).symm
  have hu2 := hm41.keeps hkA (blk_map hX5 hm41).symm
  have hu3 := hm5.keeps hkA (blk_map hX5 hm5).symm
  have f5 := hX5.frozen
  have f6 := b6.frozen
  have f7 := b7.frozen
  have f8 := b8.frozen
  simp [go_sem, IntWalk.iteOmega, IntWalk.toNatUp, hq5, z5, z6, z7, z8, f5, f6, f7, f8, q6, q7, q8, c34z]
  have hrx : x < r1 := hxl
  generalize (((w5.setCell ⟨x, 35, none⟩ (.map (some r1))).setCell ⟨x, 36, none⟩ (.map (some r2))).setCell ⟨x, 37, none⟩ (.map (some r3))).setCell ⟨x, 34, none⟩ (.slice none 0 0) = w9 at *
  clear z5 z6 z7 z8 f5 f6 f7 f8 q6 q7 q8 hkA b6 b7 b8 hX5 hm31 hm41 hm5 hm3 hm4 hq3 hq4 hq5 hq kd5 kd4 kd3 hXd hX hF9 hone l38 hFd c34 c35 c36 c37 hfl hfx k3 k4 k5
  refine W_loop (fun st wr => ∃ (i : Nat) (tvx : Value) (vsx : List Value), i ≤ S.ts.length ∧ st 3 = .pointer (some ⟨x, 0, none⟩) ∧ st 33 = .slice tA S.ts.length tc ∧ st 34 = .int .i64 S.ts.length ∧ st 35 = .int .i64 i ∧ Blk wr x 72 (fcells S.last S.height S.room tvx r1 r2 r3).toArray ∧ wr.ownsRow w.heap.size 97 33 tvx i (flatT (((S.ts.take i).map Prod.fst).zip vsx)) ∧ vsx.length = i ∧ CopyR w wr vsx (S.ts.map Prod.snd) ∧ MpI wr r1 (keptL K) ∧ MpI wr r2 (boolsL S.asked) ∧ MpI wr r3 (intsL S.often) ∧ Below w.heap.size w wr) (fun st _ => S.ts.length - (intOf (st 35)).toNat) ?_ ?_
  · exact ⟨0, .slice none 0 0, [], by omega, by simp [go_sem], by simp [go_sem], by simp [go_sem], by simp [go_sem], b9, World.ownsRow_nil _ _ _ _, rfl, ⟨fun i v l h1 _ => by simp at h1, fun i k v u h1 _ _ => by simp at h1⟩, hu1, hu2, hu3, k9⟩
  · clear b9 hu1 hu2 hu3 k9 c34z
    rintro st wr ⟨i, tvx, vsx, hi, d3, d33, d34, d35, hbx, hrx_, hvn, hcr, hu1, hu2, hu3, hB⟩
    by_cases hlt : i < S.ts.length
    · have hlt' : (i : Int) < S.ts.length := by omega
      have hF := h.keep hB
      have hti : S.ts[i]? = some S.ts[i] := List.getElem?_eq_getElem hlt
      obtain ⟨ht1, ht2, ht3⟩ := hok.ts _ (List.getElem_mem hlt)
      have htk := take_snoc' hlt
      obtain ⟨t, htt⟩ : ∃ t, t = S.ts[i] := ⟨_, rfl⟩
      rw [← htt] at hti ht1 ht2 ht3 htk
      obtain ⟨tb, to_, eA, htb, htc⟩ := (Rd.of_own hF.row).cells (by omega)
      have hvl : vs.length = S.ts.length := by have := h.rows.len; simpa using this
      obtain ⟨fv, hfv⟩ : ∃ fv, vs[i]? = some fv := ⟨_, List.getElem?_eq_getElem (by omega)⟩
      have hz : ((S.ts.map Prod.fst).zip vs)[i]? = some (t.1, fv) := by
        rw [List.getElem?_zip_eq_some]
        exact ⟨by simp [hti], hfv⟩
      have hzl : ∀ x ∈ (S.ts.map Prod.fst).zip vs, x.1.length = 32 := fun x hx => by
        obtain ⟨y, hy, e⟩ := List.mem_map.1 (List.of_mem_zip hx).1
        rw [← e]
        exact (hok.ts _ hy).1
      have hcell := flatT_at _ hzl i _ hz
      have l33 : (tcell (t.1, fv)).length = 33 := tcell_len ht1
      have rt : readCells wr ⟨tb, to_ + i * 33, none⟩ 0 33 = some (tcell (t.1, fv)) := readCells_cells 33 0 _ l33 (fun j v hj => by rw [show to_ + i * 33 + 0 + j = to_ + (33 * i + j) by omega]; exact htc _ _ (hcell j v hj))
      obtain ⟨hro, hrO⟩ := hF.rows.at_ i fv t.2 hfv (by simp [hti])
      obtain ⟨hsl, fA, fc, rfl⟩ := own_sl hro
      have hfl32 : t.2.length ≤ 32 := Places.len ⟨ht2, ht3⟩
      have y2 : ∀ (k : Array Value) (t : TypeId), k.size = 33 → canWrite (wr.alloc (.cells k t)) ⟨wr.heap.size, 0, none⟩ 0 33 = true := fun k t hk => canWrite_all (Blk.self_ rfl) 33 hk
      have y3 : ∀ (k : Array Value) (t : TypeId) (l : List Value), k.size = 33 → l.length = 33 → storeSeg (wr.alloc (.cells k t)) ⟨wr.heap.size, 0, none⟩ 0 l = (wr.alloc (.cells k t)).setRow wr.heap.size l.toArray := fun k t l hk hl => storeSeg_all (Blk.self_ rfl) l (by omega)
      simp [go_sem, IntWalk.iteOmega, IntWalk.toNatUp, d3, d33, d34, d35, hlt', hlt, eA, rt, y2, y3, l33, tcell_one]
      rw [← zeroT_lit]
      have kT : Below wr.heap.size wr ((wr.alloc (.cells zeroT.toArray 97)).setRow wr.heap.size (tcell (t.1, .slice fA t.2.length fc)).toArray) := below_setRow (ext_alloc wr _) (Nat.le_refl _) _
      have hT : Blk ((wr.alloc (.cells zeroT.toArray 97)).setRow wr.heap.size (tcell (t.1, .slice fA t.2.length fc)).toArray) wr.heap.size 97 (tcell (t.1, .slice fA t.2.length fc)).toArray := Blk_setRow (Blk.self_ rfl)
      have hs3 : wr.heap.size < ((wr.alloc (.cells zeroT.toArray 97)).setRow wr.heap.size (tcell (t.1, .slice fA t.2.length fc)).toArray).heap.size := hT.lt
      generalize (wr.alloc (.cells zeroT.toArray 97)).setRow wr.heap.size (tcell (t.1, .slice fA t.2.length fc)).toArray = w3 at *
      obtain ⟨q, hq_⟩ : ∃ q, q = wr.heap.size := ⟨_, rfl⟩
      rw [← hq_] at hT hs3 ⊢
      clear y2 y3 rt hcell htc hz hzl
      refine W_flow (fun j => j = q) (.pure 0 (.pure 2 (.pure 3 (.pure 4 (.pure 5 (.two 1 (.one 6 (.pure 7 (.one 8 (.one 9 (.pure 10 (.one 11 (.done))))))) 6 (.pure 7 (.two 1 (.one 8 (.one 9 (.pure 10 (.one 11 (.done))))) 8 (.one 1 (.one 9 (.pure 10 (.one 11 (.done))))))))))))) follows (by kernel_rfl) ?_
      have hq := held_refl (fun j => j = q) w3.drew
      have kd := kT.drew
      have hTd := hT.drew
      have hs3d : q < w3.drew.heap.size := hs3
      generalize w3.drew = v3 at *
      have rT : readCells v3 ⟨q, 0, none⟩ 0 32 = some (bl t.1) := readCells_blk hTd 32 0 0 (bl t.1) (by simp [bl, ht1]) (fun j v hj => by
        have : (tcell (t.1, .slice fA t.2.length fc))[j]? = some v := by unfold tcell; rw [List.getElem?_append_left (List.getElem?_eq_some_iff.1 hj).1]; exact hj
        simpa using this)
      have rF : v3.cell? ⟨q, 32, none⟩ = some (.slice fA t.2.length fc) := by
        rw [hTd.cell, List.getElem?_toArray]
        unfold tcell
        rw [List.getElem?_append_right (by rw [bl_length, ht1]; decide), bl_length, ht1]
        rfl
      have c34x := (hbx.keep kd).cell 34
      rw [FIn.c34 hok.last] at c34x
      simp [go_sem, IntWalk.iteOmega, IntWalk.toNatUp, d3, d33, d34, d35, hq, rT, rF, hs3d, c34x]
      have kW := hB.trans (kd.mono hB.size)
      have hxl3 : x ≠ q := by have := hbx.lt; omega
      have hslv := (Sl_on hsl kd)
      have l32 : (bl t.1).length = 32 := by rw [bl_length]; exact ht1
      have hf1 := fold_t32 (bl t.1) l32
      obtain ⟨z0, hz0⟩ : ∃ z0, z0 = (bl t.1 ++ [Value.slice none 0 0]).toArray := ⟨_, rfl⟩
      rw [← hz0] at hf1
      have hz1 : z0.size = 33 := by rw [hz0]; simp [l32]
      have hz2 : ∀ v, z0.setIfInBounds 32 v = (tcell (t.1, v)).toArray := fun v => by
        rw [hz0, List.setIfInBounds_toArray, List.set_append_right _ _ (by omega), l32]
        rfl
      clear hz0
      have hcl := cloneI_any (w := v3) (v := .slice fA t.2.length fc) (l := t.2) hslv (by omega)
      have hzq : (wr.heap.size : Nat) = q := hq_.symm
      refine ⟨?_, ?_⟩
      · refine callE_of hcl ?_
        clear hcl
        rintro fv' w4 ⟨hfv', k4⟩
        have hq4 := hq.below k4
        obtain ⟨-, gA, gc, rfl⟩ := own_sl hfv'
        have lT := tcell_len (t := (t.1, Value.slice gA t.2.length gc)) ht1
        have hoT := tcell_one t.1 gA t.2.length gc
        have hf2 := fold_t33 (tcell (t.1, Value.slice gA t.2.length gc)) lT
        have kw4 : Below wr.heap.size wr w4 := kd.trans (k4.mono kd.size)
        have c34y := (hbx.keep kw4).cell 34
        rw [FIn.c34 hok.last] at c34y
        have c34a : ∀ o, (w4.alloc o).cell? ⟨x, 34, none⟩ = some tvx := fun o => by
          have := ((hbx.keep kw4).more o).cell 34
          rw [FIn.c34 hok.last] at this
          exact this
        have hqa : ∀ o, heldE (fun j => j = q) v3 (w4.alloc o) := fun o => hq4.alloc o
        simp [go_sem, IntWalk.iteOmega, IntWalk.toNatUp, d3, d33, d34, d35, hq4, hqa, hf1, hz1, hz2, l32, lT, c34y, c34a]
        rw [hf2]
        have kI := ext_alloc w4 (.cells (tcell (t.1, Value.slice gA t.2.length gc)).toArray 97)
        have hrI := rd_one (Blk.self_ (w := w4) (t := 97) (cs := (tcell (t.1, Value.slice gA t.2.length gc)).toArray) rfl) lT
        have kA : Below wr.heap.size wr (w4.alloc (.cells (tcell (t.1, Value.slice gA t.2.length gc)).toArray 97)) := kw4.trans (kI.mono kw4.size)
        have hvA := own_mono (base' := w.heap.size) (row_below hfv' kI) kW.size
        have hvB := hfv'.lt
        have hqA := hqa (.cells (tcell (t.1, Value.slice gA t.2.length gc)).toArray 97)
        generalize w4.alloc (.cells (tcell (t.1, Value.slice gA t.2.length gc)).toArray 97) = wA at *
        have bxA := hbx.keep kA
        have rwA := row_below hrx_ kA
        have crA := hcr.below kA
        have u1A := hu1.keep kA
        have u2A := hu2.keep kA
        have u3A := hu3.keep kA
        have kwA : Below w.heap.size w wA := hB.trans (kA.mono hB.size)
        have hwx : w.heap.size ≤ x := by omega
        have hwq : w.heap.size ≤ q := by have := hB.size; omega
        refine appendE w.heap.size 97 33 56 Tryz.underlying67 el97 rwA hrI hoT (by unfold maxLen; omega) (by omega) kwA.size ?_
        intro tv' w7 hr7 hg7 hb7
        have kg := Keeps.grown (O := fun j => tvx.ownBlock ≠ some j) hg7 fun k hk h => h hk
        have bx7 := kg.blk bxA (row_ne rwA bxA (by decide))
        have c34z := bx7.cell 34
        rw [FIn.c34 hok.last] at c34z
        have hfz := bx7.frozen
        have hq7 : heldE (fun j => j = q) v3 w7 := ⟨Nat.le_trans hqA.1 hg7.size, fun k hk hl => by
          subst hk
          exact (hg7.block _ (Nat.lt_of_lt_of_le hl hqA.1) (fun e => by have := (hrx_.lt _ e.symm).2; omega)).trans (hqA.2 _ rfl hl)⟩
        have k7 := kwA.grown hg7 kwA.size fun j hj => (rwA.lt j hj).1
        have cr7 := crA.keeps kg fun v n xs hv j hj e => rows_ne rwA hv (by decide) j e hj
        have u17 := u1A.keeps kg (row_map rwA u1A)
        have u27 := u2A.keeps kg (row_map rwA u2A)
        have u37 := u3A.keeps kg (row_map rwA u3A)
        have hv7 := row_keeps hvA kg fun j hj e => rows_ne rwA hvA (by decide) j e hj
        obtain ⟨-, uA, uc, rfl⟩ := own_sl hr7
        have hq8 := hq7.set (g := x) (o := 34) (.slice uA (i + 1) uc) hxl3
        simp [go_sem, IntWalk.iteOmega, IntWalk.toNatUp, d3, d33, d34, d35, hq7, c34z, hfz, hq8]
        have ks : Keeps (fun j => j ≠ x) w7 (w7.setCell ⟨x, 34, none⟩ (.slice uA (i + 1) uc)) := Keeps.setCell _ _ _ fun hh => hh rfl
        have bx8 := Blk_set (o := 34) (v := .slice uA (i + 1) uc) bx7
        rw [fcells_tv hok.last] at bx8
        have hr8 := row_keeps hr7 ks fun j hj e => row_ne hr7 bx7 (by decide) (e ▸ hj)
        have hv8 := row_keeps hv7 ks fun j hj e => row_ne hv7 bx7 (by decide) (e ▸ hj)
        have cr8 := cr7.keeps ks fun v n xs hv j hj e => row_ne hv bx7 (by decide) (e ▸ hj)
        have hflat : flatT (((S.ts.take i).map Prod.fst).zip vsx) ++ tcell (t.1, Value.slice gA t.2.length gc) = flatT (((S.ts.take (i + 1)).map Prod.fst).zip (vsx ++ [Value.slice gA t.2.length gc])) := by
          rw [htk, List.map_append, List.zip_append (by rw [List.length_map, List.length_take, hvn]; omega)]
          unfold flatT
          rw [List.flatMap_append]
          simp
        rw [hflat] at hr8
        have htn2 : (S.ts.map Prod.snd)[vsx.length]? = some t.2 := by rw [hvn]; simp [hti]
        have hadd := cr8.add (v := Value.slice gA t.2.length gc) (l := t.2) (B := wr.heap.size) (by rw [List.length_map, hvn]; exact hlt) htn2 hv8 (fun j hj => Nat.le_trans kd.size (hvB j hj).1) (fun u hu j hj => by
          obtain ⟨k, hk, rfl⟩ := List.getElem_of_mem hu
          have hk2 : k < S.ts.length := by omega
          exact ((hcr.1 k vsx[k] (S.ts[k]).2 (by simp) (by simp [hk2])).lt j hj).2)
        refine roundEnd.mk ⟨i + 1, _, _, by omega, by simp [go_sem, d3], by simp [go_sem, d33], by simp [go_sem, d34], by simp [go_sem], bx8, hr8, by rw [List.length_append, hvn]; rfl, hadd, u17.keeps ks (blk_map bx7 u17).symm, u27.keeps ks (blk_map bx7 u27).symm, u37.keeps ks (blk_map bx7 u37).symm, (k7.setCell hwx _)⟩ ?_
        simp [go_sem, intOf, d35]; omega
      · refine callE_of hcl ?_
        clear hcl
        rintro fv' w4 ⟨hfv', k4⟩
        have hq4 := hq.below k4
        obtain ⟨-, gA, gc, rfl⟩ := own_sl hfv'
        have lT := tcell_len (t := (t.1, Value.slice gA t.2.length gc)) ht1
        have hoT := tcell_one t.1 gA t.2.length gc
        have hf2 := fold_t33 (tcell (t.1, Value.slice gA t.2.length gc)) lT
        have kw4 : Below wr.heap.size wr w4 := kd.trans (k4.mono kd.size)
        have c34y := (hbx.keep kw4).cell 34
        rw [FIn.c34 hok.last] at c34y
        have c34a : ∀ o, (w4.alloc o).cell? ⟨x, 34, none⟩ = some tvx := fun o => by
          have := ((hbx.keep kw4).more o).cell 34
          rw [FIn.c34 hok.last] at this
          exact this
        have hqa : ∀ o, heldE (fun j => j = q) v3 (w4.alloc o) := fun o => hq4.alloc o
        simp [go_sem, IntWalk.iteOmega, IntWalk.toNatUp, d3, d33, d34, d35, hq4, hqa, hf1, hz1, hz2, l32, lT, c34y, c34a]
        rw [hf2]
        have kI := ext_alloc w4 (.cells (tcell (t.1, Value.slice gA t.2.length gc)).toArray 97)
        have hrI := rd_one (Blk.self_ (w := w4) (t := 97) (cs := (tcell (t.1, Value.slice gA t.2.length gc)).toArray) rfl) lT
        have kA : Below wr.heap.size wr (w4.alloc (.cells (tcell (t.1, Value.slice gA t.2.length gc)).toArray 97)) := kw4.trans (kI.mono kw4.size)
        have hvA := own_mono (base' := w.heap.size) (row_below hfv' kI) kW.size
        have hvB := hfv'.lt
        have hqA := hqa (.cells (tcell (t.1, Value.slice gA t.2.length gc)).toArray 97)
        generalize w4.alloc (.cells (tcell (t.1, Value.slice gA t.2.length gc)).toArray 97) = wA at *
        have bxA := hbx.keep kA
        have rwA := row_below hrx_ kA
        have crA := hcr.below kA
        have u1A := hu1.keep kA
        have u2A := hu2.keep kA
        have u3A := hu3.keep kA
        have kwA : Below w.heap.size w wA := hB.trans (kA.mono hB.size)
        have hwx : w.heap.size ≤ x := by omega
        have hwq : w.heap.size ≤ q := by have := hB.size; omega
        refine ⟨?_, ?_⟩
        all_goals
          refine appendE w.heap.size 97 33 56 Tryz.underlying67 el97 rwA hrI hoT (by unfold maxLen; omega) (by omega) kwA.size ?_
          intro tv' w7 hr7 hg7 hb7
          have kg := Keeps.grown (O := fun j => tvx.ownBlock ≠ some j) hg7 fun k hk h => h hk
          have bx7 := kg.blk bxA (row_ne rwA bxA (by decide))
          have c34z := bx7.cell 34
          rw [FIn.c34 hok.last] at c34z
          have hfz := bx7.frozen
          have hq7 : heldE (fun j => j = q) v3 w7 := ⟨Nat.le_trans hqA.1 hg7.size, fun k hk hl => by
            subst hk
            exact (hg7.block _ (Nat.lt_of_lt_of_le hl hqA.1) (fun e => by have := (hrx_.lt _ e.symm).2; omega)).trans (hqA.2 _ rfl hl)⟩
          have k7 := kwA.grown hg7 kwA.size fun j hj => (rwA.lt j hj).1
          have cr7 := crA.keeps kg fun v n xs hv j hj e => rows_ne rwA hv (by decide) j e hj
          have u17 := u1A.keeps kg (row_map rwA u1A)
          have u27 := u2A.keeps kg (row_map rwA u2A)
          have u37 := u3A.keeps kg (row_map rwA u3A)
          have hv7 := row_keeps hvA kg fun j hj e => rows_ne rwA hvA (by decide) j e hj
          obtain ⟨-, uA, uc, rfl⟩ := own_sl hr7
          have hq8 := hq7.set (g := x) (o := 34) (.slice uA (i + 1) uc) hxl3
          simp [go_sem, IntWalk.iteOmega, IntWalk.toNatUp, d3, d33, d34, d35, hq7, c34z, hfz, hq8]
          have ks : Keeps (fun j => j ≠ x) w7 (w7.setCell ⟨x, 34, none⟩ (.slice uA (i + 1) uc)) := Keeps.setCell _ _ _ fun hh => hh rfl
          have bx8 := Blk_set (o := 34) (v := .slice uA (i + 1) uc) bx7
          rw [fcells_tv hok.last] at bx8
          have hr8 := row_keeps hr7 ks fun j hj e => row_ne hr7 bx7 (by decide) (e ▸ hj)
          have hv8 := row_keeps hv7 ks fun j hj e => row_ne hv7 bx7 (by decide) (e ▸ hj)
          have cr8 := cr7.keeps ks fun v n xs hv j hj e => row_ne hv bx7 (by decide) (e ▸ hj)
          have hflat : flatT (((S.ts.take i).map Prod.fst).zip vsx) ++ tcell (t.1, Value.slice gA t.2.length gc) = flatT (((S.ts.take (i + 1)).map Prod.fst).zip (vsx ++ [Value.slice gA t.2.length gc])) := by
            rw [htk, List.map_append, List.zip_append (by rw [List.length_map, List.length_take, hvn]; omega)]
            unfold flatT
            rw [List.flatMap_append]
            simp
          rw [hflat] at hr8
          have htn2 : (S.ts.map Prod.snd)[vsx.length]? = some t.2 := by rw [hvn]; simp [hti]
          have hadd := cr8.add (v := Value.slice gA t.2.length gc) (l := t.2) (B := wr.heap.size) (by rw [List.length_map, hvn]; exact hlt) htn2 hv8 (fun j hj => Nat.le_trans kd.size (hvB j hj).1) (fun u hu j hj => by
            obtain ⟨k, hk, rfl⟩ := List.getElem_of_mem hu
            have hk2 : k < S.ts.length := by omega
            exact ((hcr.1 k vsx[k] (S.ts[k]).2 (by simp) (by simp [hk2])).lt j hj).2)
          refine roundEnd.mk ⟨i + 1, _, _, by omega, by simp [go_sem, d3], by simp [go_sem, d33], by simp [go_sem, d34], by simp [go_sem], bx8, hr8, by rw [List.length_append, hvn]; rfl, hadd, u17.keeps ks (blk_map bx7 u17).symm, u27.keeps ks (blk_map bx7 u27).symm, u37.keeps ks (blk_map bx7 u37).symm, (k7.setCell hwx _)⟩ ?_
          simp [go_sem, intOf, d35]; omega
    · obtain rfl : i = S.ts.length := by omega
      have hlt' : ¬ (S.ts.length : Int) < S.ts.length := by omega
      simp [go_sem, IntWalk.iteOmega, IntWalk.toNatUp, d3, d33, d34, d35, hlt']
      have hxg : w.heap.size ≤ x := by omega
      have hxw := hbx.lt
      have h1w := hu1.lt
      have h2w := hu2.lt
      have h3w := hu3.lt
      rw [List.take_of_length_le (Nat.le_refl _)] at hrx_
      refine ⟨⟨tvx, r1, r2, r3, vsx, ⟨.inl ⟨by omega, hxw⟩, .inl ⟨by omega, h1w⟩, .inl ⟨by omega, h2w⟩, .inl ⟨by omega, h3w⟩, by omega, by omega, by omega, fun j hj => ?_, fun hj => ?_, hbx, own_mono hrx_ (Nat.zero_le _), fun j hj => .inl (hrx_.lt j hj), ⟨by rw [hvn, List.length_map], fun i u m h1 h2 => ⟨own_mono (hcr.1 i u m h1 h2) (Nat.zero_le _), fun j hj => .inl ((hcr.1 i u m h1 h2).lt j hj)⟩, hcr.2⟩, h.kept, hu1, fun y hy => ?_, hu2, hu3⟩⟩, by rw [hx]; exact hB⟩
      · rcases hj with hj | ⟨y, hy, hj⟩
        · exact hj.2
        · exact Nat.lt_of_lt_of_le (h.lt j ((h.dat y hy).2.2 j hj)) hB.size
      · rcases hj with hj | ⟨y, hy, hj⟩
        · omega
        · exact h.zero ((h.dat y hy).2.2 0 hj)
      · exact ⟨(h.dat y hy).1, row_below (h.dat y hy).2.1 hB, fun j hj => .inr ⟨y, hy, hj⟩⟩
end Go.Proofs.YtdjcjjodbniebaaGreatDoor
