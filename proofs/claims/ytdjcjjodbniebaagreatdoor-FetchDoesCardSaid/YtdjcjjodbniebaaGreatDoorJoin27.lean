/-
  Texts joined: FBack.
-/
import Derived.Test.YtdjcjjodbniebaaGreatDoorJoin26
namespace Go.Proofs.YtdjcjjodbniebaaGreatDoor
open Go.RowKit
set_option linter.unusedVariables false
set_option linter.unusedSimpArgs false
set_option maxRecDepth 10000
theorem entersBack (args : Array Value) (w : World) : (callFunc 101 args).run Tryz.prog w = .ok (.enter 101 args) w :=
  enters_of Tryz.func101 (by kernel_rfl) rfl args w
theorem back_any (v : Value) (w : World) (hv : ∃ A n c, v = .slice A n c) : callE Tryz.prog 57 #[v] w fun u w' => u = .func (.func 101) #[] #[.pointer (some ⟨w.heap.size, 0, none⟩)] ∧ Blk w' w.heap.size 24 #[v] ∧ Below w.heap.size w w' := by
  obtain ⟨A, n, c, rfl⟩ := hv
  refine calls_E Tryz.func57 rfl rfl rfl (Nat.le_of_ble_eq_true rfl) ?_
  simp [go_sem, IntWalk.iteOmega, IntWalk.toNatUp]
  exact ext_alloc _ _
def revN (xs : List (Bk × Value)) : Nat → List (Int × (Bk × Value))
  | 0 => []
  | k + 1 => ((k : Int), xs.getD k (zeroBk, .slice none 0 0)) :: revN xs k
def encB (p : Int × (Bk × Value)) : Array Value := #[.int .i64 p.1, .agg (bkv p.2.1 p.2.2).toArray]
theorem revN_map (xs : List (Bk × Value)) : ∀ k, k ≤ xs.length → (revN xs k).map Prod.snd = (xs.take k).reverse
  | 0, _ => by simp [revN]
  | k + 1, h => by
    rw [take_snoc' h, List.reverse_append]
    show (xs.getD k _) :: (revN xs k).map Prod.snd = [xs[k]] ++ (xs.take k).reverse
    rw [revN_map xs k (by omega)]
    simp [List.getD, List.getElem?_eq_getElem (show k < xs.length by omega)]
set_option maxHeartbeats 1600000 in
theorem back_seq (xs : List (Bk × Value)) (hok : ∀ x ∈ xs, x.1.parent.length = 32) (A : Option Addr) (cap g : Nat) (w : World) (hlen : xs.length ≤ 100000) (hg : Blk w g 24 #[.slice A xs.length cap]) (hrd : Rd w 34 A xs.length (flat xs)) :
    Seq Tryz.prog 101 #[.pointer (some ⟨g, 0, none⟩)] encB (fun l => l = revN xs xs.length) (fun j => j = g ∨ atB xs.length A j) w := by
  intro L W O₀ J Jx hkW hN hJ hJx hY h0 hO
  have hg1 := hkW.blk hg (.inl rfl)
  have hgc := hg1.cell
  show callE Tryz.prog 101 #[.func (.yield L) #[] #[], .pointer (some ⟨g, 0, none⟩)] W _
  have hE0 : IntKind.i64.wrap ((xs.length : Int) - 1) = (xs.length : Int) - 1 := by rw [wrap_i64_if, if_pos (by omega)]
  refine calls_E Tryz.func101 rfl rfl rfl (Nat.le_of_ble_eq_true rfl) ?_
  simp [go_sem, IntWalk.iteOmega, IntWalk.toNatUp, hgc, hE0]
  refine W_loop (fun st wr => ∃ (k : Nat) (pre : List (Int × (Bk × Value))) (O : Nat → Prop), k ≤ xs.length ∧ st 0 = .func (.yield L) #[] #[] ∧ st 1 = .pointer (some ⟨g, 0, none⟩) ∧ st 3 = .int .i64 ((k : Int) - 1) ∧ pre ++ revN xs k = revN xs xs.length ∧
    J pre O wr ∧ W.heap.size ≤ wr.heap.size ∧ (∀ j, O j → j < wr.heap.size) ∧ (∀ j, j < W.heap.size → O j → O₀ j) ∧ Keeps (fun j => j = g ∨ atB xs.length A j) w wr) (fun st _ => (intOf (st 3) + 1).toNat) ?_ ?_
  · exact ⟨xs.length, [], O₀, by omega, by simp [go_sem], by simp [go_sem], by simp [go_sem], rfl, h0, Nat.le_refl _, hO, fun _ _ h => h, hkW⟩
  · rintro st wr ⟨k, pre, O, hk, e0, e1, e3, hpre, hj, hsz, hOs, hOO, hkp⟩
    cases k with
    | succ k =>
      obtain ⟨b, o, rfl, hb, hc⟩ := hrd.cells (by omega)
      have hbN : (fun j => j = g ∨ atB xs.length (some ⟨b, o, none⟩) j) b := .inr ⟨by omega, b, o, rfl, rfl⟩
      have hgr := (hkp.blk hg (.inl rfl)).cell
      have hkl : k < xs.length := by omega
      have hx := List.getElem?_eq_getElem hkl
      have hxm := List.getElem_mem hkl
      have hgd : xs.getD k (zeroBk, .slice none 0 0) = xs[k] := by simp [List.getD, hx]
      have hcs := flat_at xs hok k _ hx
      have hxl := hok _ hxm
      have hl34 := bkv_len (dv := xs[k].2) hxl
      have ra : readCells wr ⟨b, o + k * 34, none⟩ 0 34 = some (bkv xs[k].1 xs[k].2) := readCells_cells 34 0 _ hl34 (fun j v hj => by
        rw [show o + k * 34 + 0 + j = o + (34 * k + j) by omega]
        rw [hkp.cell (p := ⟨b, o + (34 * k + j), none⟩) hb hbN]
        exact hc _ _ (hcs j v hj))
      have hk1 : ((k + 1 : Nat) : Int) - 1 = (k : Int) := by omega
      rw [hk1] at e3
      have hk0 : (0 : Int) ≤ k := by omega
      have hkl' : (k : Int) < xs.length := by omega
      have hE : IntKind.i64.wrap ((k : Int) - 1) = (k : Int) - 1 := by rw [wrap_i64_if, if_pos (by omega)]
      have hstep : pre ++ [((k : Int), xs[k])] ++ revN xs k = revN xs xs.length := by
        rw [← hpre]
        show pre ++ [((k : Int), xs[k])] ++ revN xs k = pre ++ (((k : Int), xs.getD k (zeroBk, .slice none 0 0)) :: revN xs k)
        rw [hgd]
        simp
      have hyield := fun a ha1 ha2 ha3 => hY pre ((k : Int), xs[k]) O a ⟨_, rfl, ⟨revN xs k, hstep⟩⟩ ha1 ha2 ha3 hOO
      simp only [encB] at hyield
      generalize xs[k] = x at *
      simp [go_sem, IntWalk.iteOmega, IntWalk.toNatUp, e0, e1, e3, hk0, hgr, hkl, hkl', ra]
      refine yieldE_of (hyield wr hj hsz hOs) ?_
      rintro v b2 ⟨O', hm, (⟨rfl, hj3⟩ | ⟨rfl, hj3⟩)⟩
      · have hk3 : Keeps (fun j => j = g ∨ atB xs.length (some ⟨b, o, none⟩) j) w b2 := hkp.trans (hm.2.2.mono fun j _ hj hOj => by
          have h1 := hN j hj
          exact h1.2 (hOO j (Nat.lt_of_lt_of_le h1.1 hkW.size) hOj))
        have hs3 := Nat.le_trans hsz hm.2.2.size
        simp [go_sem, IntWalk.iteOmega, IntWalk.toNatUp, e0, e1, e3, hE]
        refine roundEnd.mk ⟨k, _, O', by omega, by simp [go_sem, e0], by simp [go_sem, e1], by simp [go_sem], hstep, hj3, hs3, hm.2.1, fun j hj h => ?_, hk3⟩ ?_
        · rcases hm.1 j h with h | h
          · exact hOO j hj h
          · omega
        · simp [go_sem, intOf]
      · simp [go_sem, IntWalk.iteOmega, IntWalk.toNatUp, e0, e1, e3]
        exact ⟨O', _, ⟨revN xs k, hstep⟩, Nat.le_trans hsz hm.2.2.size, .inr hj3⟩
    | zero =>
      have hk0 : ¬ (0 : Int) ≤ ((0 : Nat) : Int) - 1 := by omega
      have hpre' : pre = revN xs xs.length := by simpa [revN] using hpre
      subst hpre'
      simp [go_sem, IntWalk.iteOmega, IntWalk.toNatUp, e0, e1, e3, hk0]
      exact ⟨O, _, List.prefix_refl _, hsz, .inl ⟨rfl, hj⟩⟩
end Go.Proofs.YtdjcjjodbniebaaGreatDoor
