/-
  Going through slots: slices.All, sample.All.
-/
import Derived.Test.YtmoafaaeeanofaaSCount
import Derived.Test.YtmoafaaeeanofaaRange
import Derived.Shelf.Abstract
import Derived.Test.YtmoafaaeeanofaaMake
namespace Go.Proofs.Ytmoafaaeeanofaa
open Go.RowKit
set_option linter.unusedVariables false
set_option linter.unusedSimpArgs false
set_option maxRecDepth 10000
/-- the block of a slice -/
def atBlock (n : Nat) (A : Option Addr) (j : Nat) : Prop := 0 < n ∧ ∃ b o, A = some ⟨b, o, none⟩ ∧ j = b
theorem Sl_keeps {N : Nat → Prop} {w w' : World} {n : Nat} {A : Option Addr} {xs : List Value} (h : Rd w 1 A n xs) (hk : Keeps N w w') (hN : ∀ j, atBlock n A j → N j) : Rd w' 1 A n xs := by
  by_cases h0 : 0 < n
  · exact hk.rd h fun g o e => hN g ⟨h0, g, o, e, rfl⟩
  · obtain rfl : n = 0 := by omega
    have hl := h.len
    obtain rfl : xs = [] := List.length_eq_zero_iff.1 (by omega)
    exact Rd.nil_ _ _ _
theorem entersA (args : Array Value) (w : World) : (callFunc 56 args).run Try.prog w = .ok (.enter 56 args) w :=
  enters_of Try.func56 (by kernel_rfl) rfl args w
theorem entersB (args : Array Value) (w : World) : (callFunc 42 args).run Try.prog w = .ok (.enter 42 args) w :=
  enters_of Try.func42 (by kernel_rfl) rfl args w
theorem sAll_any (v : Value) (w : World) (hv : ∃ A n c, v = .slice A n c) : callE Try.prog 43 #[v] w fun u w' => u = .func (.func 56) #[] #[.pointer (some ⟨w.heap.size, 0, none⟩)] ∧ Blk w' w.heap.size 28 #[v] ∧ Below w.heap.size w w' := by
  obtain ⟨A, n, c, rfl⟩ := hv
  refine calls_E Try.func43 rfl rfl rfl (Nat.le_of_ble_eq_true rfl) ?_
  simp [go_sem, IntWalk.iteOmega, IntWalk.toNatUp]
  exact ext_alloc _ _
/-- places and values -/
def enumP (l : List Int) : List (Int × Int) := (List.range l.length).map fun (i : Nat) => ((i : Int), l.getD i 0)
theorem enumP_length (l : List Int) : (enumP l).length = l.length := by simp [enumP]
theorem enumP_step {l : List Int} {i : Nat} (h : i < l.length) : (enumP l).take (i + 1) = (enumP l).take i ++ [((i : Int), l.getD i 0)] := by
  rw [List.take_add_one]
  have : (enumP l)[i]? = some ((i : Int), l.getD i 0) := by
    unfold enumP; rw [List.getElem?_map, List.getElem?_range h]; rfl
  rw [this]; rfl
def encP (p : Int × Int) : Array Value := #[.int .i64 p.1, .int .i64 p.2]
set_option maxHeartbeats 1600000 in
theorem sAll_seq (l : List Int) (A : Option Addr) (cap g : Nat) (w : World) (hg : Blk w g 28 #[.slice A l.length cap]) (hs : Sl w 1 (.slice A l.length cap) l.length (intsK .i64 l)) :
    Seq Try.prog 56 #[.pointer (some ⟨g, 0, none⟩)] encP (fun xs => xs = enumP l) (fun j => j = g ∨ atBlock l.length A j) w := by
  intro L W O₀ J Jx hkW hN hJ hJx hY h0 hO
  obtain ⟨A', cap', e, hrd, hA, hc1, hc2⟩ := id hs
  injection e with e1 e2 e3
  subst e1; subst e3
  have hg1 := hkW.blk hg (.inl rfl)
  have hgc := hg1.cell
  show callE Try.prog 56 #[.func (.yield L) #[] #[], .pointer (some ⟨g, 0, none⟩)] W _
  refine calls_E Try.func56 rfl rfl rfl (Nat.le_of_ble_eq_true rfl) ?_
  simp [go_sem, IntWalk.iteOmega, IntWalk.toNatUp, hgc]
  refine W_loop (fun st wr => ∃ (i : Nat) (O : Nat → Prop), i ≤ l.length ∧ st 0 = .func (.yield L) #[] #[] ∧ st 5 = .slice A l.length cap ∧ st 6 = .int .i64 l.length ∧ st 7 = .int .i64 i ∧
    J ((enumP l).take i) O wr ∧ W.heap.size ≤ wr.heap.size ∧ (∀ j, O j → j < wr.heap.size) ∧ (∀ j, j < W.heap.size → O j → O₀ j) ∧ Keeps (fun j => j = g ∨ atBlock l.length A j) w wr) (fun st _ => l.length - (intOf (st 7)).toNat) ?_ ?_
  · exact ⟨0, O₀, by omega, by simp [go_sem], by simp [go_sem], by simp [go_sem], by simp [go_sem], by simpa using h0, Nat.le_refl _, hO, fun _ _ h => h, hkW⟩
  · rintro st wr ⟨i, O, hi, e0, e5, e6, e7, hj, hsz, hOs, hOO, hkp⟩
    by_cases hlt : i < l.length
    · obtain ⟨b, o, rfl, hb, hc⟩ := hrd.cells (by omega)
      have hbN : (fun j => j = g ∨ atBlock l.length (some ⟨b, o, none⟩) j) b := .inr ⟨by omega, b, o, rfl, rfl⟩
      have x0 := hc _ _ (intsK_at hlt)
      rw [← hkp.cell (p := ⟨b, o + i, none⟩) hb hbN] at x0
      have hlt' : (i : Int) < l.length := by omega
      have htk := enumP_step hlt
      have hpre : ∃ xs, xs = enumP l ∧ ((enumP l).take i ++ [((i : Int), l.getD i 0)]) <+: xs := ⟨enumP l, rfl, by rw [← htk]; exact List.take_prefix _ _⟩
      have hyield := fun a ha1 ha2 ha3 => hY ((enumP l).take i) ((i : Int), l.getD i 0) O a hpre ha1 ha2 ha3 hOO
      rw [← htk] at hyield
      simp only [encP] at hyield
      generalize l.getD i 0 = x at *
      simp [go_sem, IntWalk.iteOmega, IntWalk.toNatUp, e0, e5, e6, e7, hlt, hlt', x0]
      refine yieldE_of (hyield wr hj hsz hOs) ?_
      rintro v b2 ⟨O', hm, (⟨rfl, hj3⟩ | ⟨rfl, hj3⟩)⟩
      · have hk3 : Keeps (fun j => j = g ∨ atBlock l.length (some ⟨b, o, none⟩) j) w b2 := hkp.trans (hm.2.2.mono fun j _ hj hOj => by
          have h1 := hN j hj
          exact h1.2 (hOO j (Nat.lt_of_lt_of_le h1.1 hkW.size) hOj))
        have hs3 := Nat.le_trans hsz hm.2.2.size
        simp [go_sem, IntWalk.iteOmega, IntWalk.toNatUp, e0, e5, e6, e7]
        refine roundEnd.mk ⟨i + 1, O', by omega, by simp [go_sem, e0], by simp [go_sem, e5], by simp [go_sem, e6], by simp [go_sem], hj3, hs3, hm.2.1, fun j hj h => ?_, hk3⟩ ?_
        · rcases hm.1 j h with h | h
          · exact hOO j hj h
          · omega
        · simp [go_sem, intOf]; omega
      · simp [go_sem, IntWalk.iteOmega, IntWalk.toNatUp, e0, e5, e6, e7]
        exact ⟨O', (enumP l).take (i + 1), List.take_prefix _ _, Nat.le_trans hsz hm.2.2.size, .inr hj3⟩
    · obtain rfl : i = l.length := by omega
      have hall : (enumP l).take l.length = enumP l := List.take_of_length_le (by rw [enumP_length]; omega)
      rw [hall] at hj
      simp [go_sem, IntWalk.iteOmega, IntWalk.toNatUp, e0, e5, e6, e7]
      exact ⟨O, enumP l, List.prefix_refl _, hsz, .inl ⟨rfl, hj⟩⟩
/-- those that stand among slots -/
def posP (l : List (Int × Int)) : List (Int × Int) := l.filter fun p => decide (0 < p.2)
theorem posP_snoc (l : List (Int × Int)) (x : Int × Int) : posP (l ++ [x]) = posP l ++ if 0 < x.2 then [x] else [] := by
  unfold posP; rw [List.filter_append]
  by_cases h : 0 < x.2 <;> simp [h]
theorem posP_prefix {a b : List (Int × Int)} (h : a <+: b) : posP a <+: posP b := by
  obtain ⟨r, rfl⟩ := h
  unfold posP; rw [List.filter_append]; exact List.prefix_append _ _
set_option maxHeartbeats 3200000 in
theorem all_seq (l : List Int) (A : Option Addr) (cap g : Nat) (w : World) (hg : Blk w g 28 #[.slice A l.length cap]) (hs : Sl w 1 (.slice A l.length cap) l.length (intsK .i64 l)) :
    Seq Try.prog 42 #[.pointer (some ⟨g, 0, none⟩)] encP (fun xs => xs = posP (enumP l)) (fun j => j = g ∨ atBlock l.length A j) w := by
  intro L W O₀ J Jx hkW hN hJ hJx hY h0 hO
  have hs0 := hs
  obtain ⟨A', cap', e, hrd, hA, hc1, hc2⟩ := id hs
  injection e with e1 e2 e3
  subst e1; subst e3
  have hg1 := hkW.blk hg (.inl rfl)
  have hrd1 : Rd W 1 A l.length (intsK .i64 l) := Sl_keeps hrd hkW fun j hj => .inr hj
  show callE Try.prog 42 #[.func (.yield L) #[] #[], .pointer (some ⟨g, 0, none⟩)] W _
  refine calls_M Try.func42 rfl rfl rfl (Nat.le_of_ble_eq_true rfl) ?_
  have hg2 := hg1.more (.cells #[.func (.yield L) #[] #[]] 72)
  have hgc := hg2.cell
  simp [go_sem, IntWalk.iteOmega, IntWalk.toNatUp, hgc]
  have hyb : Blk (W.alloc (.cells #[.func (.yield L) #[] #[]] 72)) W.heap.size 72 #[.func (.yield L) #[] #[]] := Blk.self_ rfl
  have hrd2 := hrd1.keep (ext_alloc W (.cells #[.func (.yield L) #[] #[]] 72))
  have kW2 := ext_alloc W (.cells #[.func (.yield L) #[] #[]] 72)
  have hsz2 : (W.alloc (.cells #[.func (.yield L) #[] #[]] 72)).heap.size = W.heap.size + 1 := by simp
  generalize W.alloc (.cells #[.func (.yield L) #[] #[]] 72) = W2 at *
  refine callE_of (sAll_any (.slice A l.length cap) W2 ⟨_, _, _, rfl⟩) ?_
  rintro _ W3 ⟨rfl, hgv, kW3⟩
  have hyb3 := hyb.keep kW3
  have hrd3 := hrd2.keep kW3
  have hs3 : Sl W3 1 (.slice A l.length cap) l.length (intsK .i64 l) := ⟨A, cap, rfl, hrd3, hA, hc1, hc2⟩
  have hsz3 := kW3.size
  have kk : Below W.heap.size W W3 := ext_trans kW2 kW3
  simp [go_sem, IntWalk.iteOmega, IntWalk.toNatUp]
  refine WM_range (w0 := W3) (enc := encP) (S := fun xs => xs = enumP l) (by simp [go_sem]) (entersA) (sAll_seq l A cap W2.heap.size W3 hgv hs3) (Keeps.refl _ _) (fun _ => rfl) O₀ ?_ ?_
    (fun pre O a => J (posP pre) O a ∧ Blk a W.heap.size 72 #[.func (.yield L) #[] #[]] ∧ ¬ O W.heap.size) (fun e pre O a => e = .ret ∧ Jx (posP pre) O a) ?_ ?_ ?_ ?_ ?_ ?_
  · rintro j (h | ⟨hl0, b, o, rfl, h⟩)
    · have h1 := hgv.lt
      exact ⟨by omega, fun ho => by have := hO j ho; omega⟩
    · have h1 := hN j (.inr ⟨hl0, b, o, rfl, h⟩)
      exact ⟨Nat.lt_of_lt_of_le h1.1 (Nat.le_trans hkW.size kk.size), h1.2⟩
  · intro j hj
    have := hO j hj
    omega
  · rintro pre O a b ⟨h1, h2, h3⟩ hk
    exact ⟨hJ _ _ _ _ h1 (hk.mono fun j _ h => h.imp id fun h => by omega), hk.blk h2 (.inr (by omega)), h3⟩
  · rintro e pre O a b ⟨h1, h2⟩ hk
    exact ⟨h1, hJx _ _ _ _ h2 (hk.mono fun j _ h => h.imp id fun h => by omega)⟩
  · exact ⟨hJ _ _ _ _ h0 (Keeps.of_ext kk), hyb3, fun h => by have := hO _ h; omega⟩
  · rintro pre x O a b l1 o ⟨ys, rfl, hpre⟩ hab hla hOl hsl ⟨r, hr⟩ hbs hsa hOa hOO ⟨ja, ya, na⟩ ⟨jb, yb, nb⟩
    have hsn := posP_snoc pre x
    have hpp := posP_prefix hpre
    obtain ⟨p, q⟩ := x
    have ybc := yb.cell
    by_cases hq : 0 < q
    · rw [if_pos hq] at hsn
      rw [hsn] at hpp
      simp [go_sem, IntWalk.iteOmega, IntWalk.toNatUp, encP, hq, hab, ybc]
      have hy := hY (posP pre) (p, q) O b ⟨_, rfl, hpp⟩ jb (by omega) (fun j h => by have := hOa j h; omega) (fun j hj h => hOO j (by omega) h)
      simp only [encP] at hy
      refine yieldE_of hy ?_
      rintro v b2 ⟨O', hm, (⟨rfl, hj3⟩ | ⟨rfl, hj3⟩)⟩
      · rw [← hsn] at hj3
        simp [go_sem, IntWalk.iteOmega, IntWalk.toNatUp]
        refine ⟨O', hm, hj3, hm.2.2.blk yb nb, fun h => ?_⟩
        rcases hm.1 _ h with h | h
        · exact nb h
        · have := yb.lt; omega
      · rw [← hsn] at hj3
        simp [go_sem, IntWalk.iteOmega, IntWalk.toNatUp]
        exact ⟨O', hm, hj3⟩
    · rw [if_neg hq, List.append_nil] at hsn
      rw [← hsn] at jb
      simp [go_sem, IntWalk.iteOmega, IntWalk.toNatUp, encP, hq, hab]
      exact ⟨O, Mine.same (Keeps.refl _ _) (fun j h => by have := hOa j h; omega), jb, yb, nb⟩
  · rintro xs O b D rfl ⟨jb, yb, nb⟩ hOD hD hDb hsb
    simp [go_sem, IntWalk.iteOmega, IntWalk.toNatUp, hDb]
    refine ⟨O, _, List.prefix_refl _, by omega, .inl ⟨rfl, hJ _ _ _ _ jb (Keeps.putObj _ _ _ ?_)⟩⟩
    rintro (h | h)
    · exact hOD h
    · omega
  · rintro e pre xs O b D rfl hpre ⟨rfl, jb⟩ hOD hD hDb hsb
    simp [go_sem, IntWalk.iteOmega, IntWalk.toNatUp, hDb]
    refine ⟨O, posP pre, posP_prefix hpre, by omega, .inr (hJx _ _ _ _ jb (Keeps.putObj _ _ _ ?_))⟩
    rintro (h | h)
    · exact hOD h
    · omega
set_option maxHeartbeats 1600000 in
theorem all_any (m : Int) (hm : InI m) (s : List Int) (hI : AllI s) (hlen : s.length ≤ 1000) (vs : Value) (w : World) (hs : Sl w 1 vs s.length (intsK .i64 s)) :
    callE Try.prog 36 #[.int .i64 m, vs] w fun u w' => ∃ g A cap, u = .func (.func 42) #[] #[.pointer (some ⟨g, 0, none⟩)] ∧ Blk w' g 28 #[.slice A (countV m s).2.length cap] ∧ Sl w' 1 (.slice A (countV m s).2.length cap) (countV m s).2.length (intsK .i64 (countV m s).2) ∧ (∀ j, atBlock (countV m s).2.length A j → j < w'.heap.size) ∧ Below w.heap.size w w' := by
  obtain ⟨A0, cap0, rfl, hrd0, hA0, hc10, hc20⟩ := id hs
  refine calls_E Try.func36 rfl rfl rfl (Nat.le_of_ble_eq_true rfl) ?_
  simp [go_sem, IntWalk.iteOmega, IntWalk.toNatUp]
  refine callE_of (vCount_any m hm s hI hlen _ w hs) ?_
  rintro _ w1 ⟨⟨u, rfl, hu⟩, k1⟩
  obtain ⟨A, cap, rfl, hrd, hA, hc1, hc2⟩ := id hu
  generalize (countV m s).2 = c at *
  simp [go_sem, IntWalk.iteOmega, IntWalk.toNatUp]
  have kA := ext_alloc w1 (.cells #[.slice A c.length cap] 28)
  refine ⟨A, cap, ⟨rfl, rfl⟩, Sl_kept hu kA, ?_, ext_trans k1 kA⟩
  rintro j ⟨h0, b, o, rfl, rfl⟩
  obtain ⟨b', o', e, hlt, _⟩ := hrd.cells (by omega)
  injection e with e
  injection e with e1 e2 e3
  omega
end Go.Proofs.Ytmoafaaeeanofaa
