/-
  Going through a gate: what All hands back, and told.
-/
import Derived.Test.YtilpmnbnjeahnaaGAll
import Derived.ChangeKeysEq
namespace Go.Proofs.Ytilpmnbnjeahnaa
open Go.RowKit
set_option linter.unusedVariables false
set_option linter.unusedSimpArgs false
set_option maxRecDepth 10000
theorem entersA (args : Array Value) (w : World) : (callFunc 49 args).run Try.prog w = .ok (.enter 49 args) w :=
  enters_of Try.func49 (by kernel_rfl) rfl args w
theorem entersB (args : Array Value) (w : World) : (callFunc 38 args).run Try.prog w = .ok (.enter 38 args) w :=
  enters_of Try.func38 (by kernel_rfl) rfl args w
theorem sAll_any (v : Value) (w : World) (hv : ∃ A n c, v = .slice A n c) : callE Try.prog 39 #[v] w fun u w' => u = .func (.func 49) #[] #[.pointer (some ⟨w.heap.size, 0, none⟩)] ∧ Blk w' w.heap.size 24 #[v] ∧ Below w.heap.size w w' := by
  obtain ⟨A, n, c, rfl⟩ := hv
  refine calls_E Try.func39 rfl rfl rfl (Nat.le_of_ble_eq_true rfl) ?_
  simp [go_sem, IntWalk.iteOmega, IntWalk.toNatUp]
  exact ext_alloc _ _
/-- places and values -/
def enumP (l : List Int) : List (Int × Int) := (List.range l.length).map fun (i : Nat) => ((i : Int), l.getD i 0)
theorem enumP_length (l : List Int) : (enumP l).length = l.length := by simp [enumP]
theorem enumP_step {l : List Int} {i : Nat} (h : i < l.length) : (enumP l).take (i + 1) = (enumP l).take i ++ [((i : Int), l.getD i 0)] := by
  rw [List.take_add_one]
  have : (enumP l)[i]? = some ((i : Int), l.getD i 0) := by
    unfold enumP; rw [List.getElem?_map, List.getElem?_range h]; rfl
  rw [this]; rfl
def encP (p : Int × Int) : Array Value := #[.int .i64 p.1, .int .i64 p.2]
set_option maxHeartbeats 1600000 in
theorem sAll_seq (l : List Int) (A : Option Addr) (cap g : Nat) (w : World) (hg : Blk w g 24 #[.slice A l.length cap]) (hs : Sl w 1 (.slice A l.length cap) l.length (ints .i64 l)) :
    Seq Try.prog 49 #[.pointer (some ⟨g, 0, none⟩)] encP (fun xs => xs = enumP l) (fun j => j = g ∨ atB l.length A j) w := by
  intro L W O₀ J Jx hkW hN hJ hJx hY h0 hO
  obtain ⟨A', cap', e, hrd, hA, hc1, hc2⟩ := id hs
  injection e with e1 e2 e3
  subst e1; subst e3
  have hg1 := hkW.blk hg (.inl rfl)
  have hgc := hg1.cell
  show callE Try.prog 49 #[.func (.yield L) #[] #[], .pointer (some ⟨g, 0, none⟩)] W _
  refine calls_E Try.func49 rfl rfl rfl (Nat.le_of_ble_eq_true rfl) ?_
  simp [go_sem, IntWalk.iteOmega, IntWalk.toNatUp, hgc]
  refine W_loop (fun st wr => ∃ (i : Nat) (O : Nat → Prop), i ≤ l.length ∧ st 0 = .func (.yield L) #[] #[] ∧ st 5 = .slice A l.length cap ∧ st 6 = .int .i64 l.length ∧ st 7 = .int .i64 i ∧
    J ((enumP l).take i) O wr ∧ W.heap.size ≤ wr.heap.size ∧ (∀ j, O j → j < wr.heap.size) ∧ (∀ j, j < W.heap.size → O j → O₀ j) ∧ Keeps (fun j => j = g ∨ atB l.length A j) w wr) (fun st _ => l.length - (intOf (st 7)).toNat) ?_ ?_
  · exact ⟨0, O₀, by omega, by simp [go_sem], by simp [go_sem], by simp [go_sem], by simp [go_sem], by simpa using h0, Nat.le_refl _, hO, fun _ _ h => h, hkW⟩
  · rintro st wr ⟨i, O, hi, e0, e5, e6, e7, hj, hsz, hOs, hOO, hkp⟩
    by_cases hlt : i < l.length
    · obtain ⟨b, o, rfl, hb, hc⟩ := hrd.cells (by omega)
      have hbN : (fun j => j = g ∨ atB l.length (some ⟨b, o, none⟩) j) b := .inr ⟨by omega, b, o, rfl, rfl⟩
      have x0 := hc _ _ (ints_at hlt)
      rw [← hkp.cell (p := ⟨b, o + i, none⟩) hb hbN] at x0
      have hlt' : (i : Int) < l.length := by omega
      have htk := enumP_step hlt
      have hpre : ∃ xs, xs = enumP l ∧ ((enumP l).take i ++ [((i : Int), l.getD i 0)]) <+: xs := ⟨enumP l, rfl, by rw [← htk]; exact List.take_prefix _ _⟩
      have hyield := fun a ha1 ha2 ha3 => hY ((enumP l).take i) ((i : Int), l.getD i 0) O a hpre ha1 ha2 ha3 hOO
      rw [← htk] at hyield
      simp only [encP] at hyield
      generalize l.getD i 0 = x at *
      simp [go_sem, IntWalk.iteOmega, IntWalk.toNatUp, e0, e5, e6, e7, hlt, hlt', x0]
      refine yieldE_of (hyield wr hj hsz hOs) ?_
      rintro v b2 ⟨O', hm, (⟨rfl, hj3⟩ | ⟨rfl, hj3⟩)⟩
      · have hk3 : Keeps (fun j => j = g ∨ atB l.length (some ⟨b, o, none⟩) j) w b2 := hkp.trans (hm.2.2.mono fun j _ hj hOj => by
          have h1 := hN j hj
          exact h1.2 (hOO j (Nat.lt_of_lt_of_le h1.1 hkW.size) hOj))
        have hs3 := Nat.le_trans hsz hm.2.2.size
        simp [go_sem, IntWalk.iteOmega, IntWalk.toNatUp, e0, e5, e6, e7]
        refine roundEnd.mk ⟨i + 1, O', by omega, by simp [go_sem, e0], by simp [go_sem, e5], by simp [go_sem, e6], by simp [go_sem], hj3, hs3, hm.2.1, fun j hj h => ?_, hk3⟩ ?_
        · rcases hm.1 j h with h | h
          · exact hOO j hj h
          · omega
        · simp [go_sem, intOf]; omega
      · simp [go_sem, IntWalk.iteOmega, IntWalk.toNatUp, e0, e5, e6, e7]
        exact ⟨O', (enumP l).take (i + 1), List.take_prefix _ _, Nat.le_trans hsz hm.2.2.size, .inr hj3⟩
    · obtain rfl : i = l.length := by omega
      have hall : (enumP l).take l.length = enumP l := List.take_of_length_le (by rw [enumP_length]; omega)
      rw [hall] at hj
      simp [go_sem, IntWalk.iteOmega, IntWalk.toNatUp, e0, e5, e6, e7]
      exact ⟨O, enumP l, List.prefix_refl _, hsz, .inl ⟨rfl, hj⟩⟩
/-- those that are within: ticket, whose -/
def prsG (S : GS) : List (Int × Int) := S.l.map fun x => (x.1, (x.2.v : Int))
theorem prsG_length (S : GS) : (prsG S).length = S.l.length := by simp [prsG]
theorem prsG_step {S : GS} {i : Nat} (h : i < S.l.length) : (prsG S).take (i + 1) = (prsG S).take i ++ [((keysG S).getD i 0, (whoG S).getD i 0)] := by
  rw [List.take_add_one]; simp [prsG, keysG, whoG, h, List.getD]
set_option maxHeartbeats 3200000 in
theorem all_seq (S : GS) (A A' : Option Addr) (c c' gl gw : Nat) (w : World) (hgl : Blk w gl 24 #[.slice A S.l.length c]) (hgw : Blk w gw 81 #[.slice A' S.l.length c']) (hs : Sl w 1 (.slice A S.l.length c) S.l.length (ints .i64 (keysG S))) (hs' : Sl w 1 (.slice A' S.l.length c') S.l.length (ints .i64 (whoG S))) (hfew : S.l.length ≤ 1000) :
    Seq Try.prog 38 #[.pointer (some ⟨gl, 0, none⟩), .pointer (some ⟨gw, 0, none⟩)] encP (fun xs => xs = prsG S) (fun j => j = gl ∨ j = gw ∨ atB S.l.length A j ∨ atB S.l.length A' j) w := by
  intro L W O₀ J Jx hkW hN hJ hJx hY h0 hO
  have hkl := keysG_length S
  have hwl := whoG_length S
  obtain ⟨_, _, e, hrd, hA, hc1, hc2⟩ := id hs
  injection e with e1 e2 e3
  subst e1; subst e3
  obtain ⟨_, _, e, hrd', hA', hc1', hc2'⟩ := id hs'
  injection e with e1 e2 e3
  subst e1; subst e3
  have hgl1 := hkW.blk hgl (.inl rfl)
  have hgw1 := hkW.blk hgw (.inr (.inl rfl))
  have hrd1 : Rd W 1 A S.l.length (ints .i64 (keysG S)) := Rd_on hrd hkW fun j hj => .inr (.inr (.inl hj))
  have hrd1' : Rd W 1 A' S.l.length (ints .i64 (whoG S)) := Rd_on hrd' hkW fun j hj => .inr (.inr (.inr hj))
  show callE Try.prog 38 #[.func (.yield L) #[] #[], .pointer (some ⟨gl, 0, none⟩), .pointer (some ⟨gw, 0, none⟩)] W _
  refine calls_M Try.func38 rfl rfl rfl (Nat.le_of_ble_eq_true rfl) ?_
  have hgl2 := hgl1.more (.cells #[.func (.yield L) #[] #[]] 86)
  have hglc := hgl2.cell
  simp [go_sem, IntWalk.iteOmega, IntWalk.toNatUp, hglc]
  have hyb : Blk (W.alloc (.cells #[.func (.yield L) #[] #[]] 86)) W.heap.size 86 #[.func (.yield L) #[] #[]] := Blk.self_ rfl
  have kW2 := ext_alloc W (.cells #[.func (.yield L) #[] #[]] 86)
  have hsz2 : (W.alloc (.cells #[.func (.yield L) #[] #[]] 86)).heap.size = W.heap.size + 1 := by simp
  generalize W.alloc (.cells #[.func (.yield L) #[] #[]] 86) = W2 at *
  refine callE_of (sAll_any (.slice A S.l.length c) W2 ⟨_, _, _, rfl⟩) ?_
  rintro _ W3 ⟨rfl, hgv, kW3⟩
  have hyb3 := hyb.keep kW3
  have hsz3 := kW3.size
  have kk : Below W.heap.size W W3 := ext_trans kW2 kW3
  have hrd3 := hrd1.keep kk
  have hrd3' := hrd1'.keep kk
  have hgw3 := hgw1.keep kk
  have hs3 : Sl W3 1 (.slice A S.l.length c) (keysG S).length (ints .i64 (keysG S)) := ⟨A, c, by rw [hkl], by rw [hkl]; exact hrd3, by rw [hkl]; exact hA, by rw [hkl]; exact hc1, hc2⟩
  have hsq := sAll_seq (keysG S) A c W2.heap.size W3 (by rw [hkl]; exact hgv) (by rw [hkl] at hs3 ⊢; exact hs3)
  rw [hkl] at hsq
  have hNw : ∀ j, atB S.l.length A' j → j < W3.heap.size := fun j hj => by have := hN j (.inr (.inr (.inr hj))); have := hkW.size; have := kk.size; omega
  simp [go_sem, IntWalk.iteOmega, IntWalk.toNatUp]
  refine WM_range (w0 := W3) (enc := encP) (S := fun xs => xs = enumP (keysG S)) (by simp [go_sem]) (entersA) hsq (Keeps.refl _ _) (fun _ => rfl) O₀ ?_ ?_
    (fun pre O a => J ((prsG S).take pre.length) O a ∧ Blk a W.heap.size 86 #[.func (.yield L) #[] #[]] ∧ Blk a gw 81 #[.slice A' S.l.length c'] ∧ Rd a 1 A' S.l.length (ints .i64 (whoG S)) ∧ ¬ O W.heap.size) (fun e pre O a => e = .ret ∧ Jx ((prsG S).take pre.length) O a) ?_ ?_ ?_ ?_ ?_ ?_
  · rintro j (h | h)
    · have h1 := hgv.lt
      exact ⟨by omega, fun ho => by have := hO j ho; omega⟩
    · have h1 := hN j (.inr (.inr (.inl h)))
      exact ⟨Nat.lt_of_lt_of_le h1.1 (Nat.le_trans hkW.size kk.size), h1.2⟩
  · intro j hj
    have := hO j hj
    omega
  · rintro pre O a b ⟨h1, h2, h3, h4, h5⟩ hk
    exact ⟨hJ _ _ _ _ h1 (hk.mono fun j _ h => h.imp id fun h => by omega), hk.blk h2 (.inr (by omega)), hk.blk h3 (.inr (hgw3.lt)), Rd_on h4 hk fun j hj => .inr (hNw j hj), h5⟩
  · rintro e pre O a b ⟨h1, h2⟩ hk
    exact ⟨h1, hJx _ _ _ _ h2 (hk.mono fun j _ h => h.imp id fun h => by omega)⟩
  · exact ⟨hJ _ _ _ _ (by simpa using h0) (Keeps.of_ext kk), hyb3, hgw3, hrd3', fun h => by have := hO _ h; omega⟩
  · rintro pre x O a b l1 o ⟨ys, rfl, hpre⟩ hab hla hOl hsl ⟨r, hr⟩ hbs hsa hOa hOO _ ⟨jb, yb, wb, rb, nb⟩
    have hpl : pre.length + 1 ≤ S.l.length := by have := hpre.length_le; rw [enumP_length, hkl] at this; simpa using this
    have hil : pre.length < S.l.length := by omega
    have hx : x = ((pre.length : Int), (keysG S).getD pre.length 0) := by
      obtain ⟨t, ht⟩ := hpre
      have h1 : (enumP (keysG S))[pre.length]? = some x := by rw [← ht]; simp
      have h2 := enumP_step (l := keysG S) (i := pre.length) (by omega)
      have h3 : ((enumP (keysG S)).take (pre.length + 1))[pre.length]? = some x := by rw [List.getElem?_take, if_pos (by omega)]; exact h1
      rw [h2, List.getElem?_append_right (by rw [List.length_take]; omega)] at h3
      rw [List.length_take, enumP_length, hkl, Nat.min_eq_left (Nat.le_of_lt hil), Nat.sub_self] at h3
      simpa using h3.symm
    subst hx
    have hstep := prsG_step hil
    have ybc := yb.drew.cell
    have wbc := wb.drew.cell
    have wbl := wb.lt
    have ybl := yb.lt
    obtain ⟨b2, o2, rfl, hb2, hc3⟩ := rb.cells (by omega)
    have x0 := hc3 _ _ (ints_at (by omega : pre.length < (whoG S).length))
    have hyield := hY ((prsG S).take pre.length) ((keysG S).getD pre.length 0, (whoG S).getD pre.length 0) O b.drew ⟨_, rfl, by rw [← hstep]; exact List.take_prefix _ _⟩ (hJ _ _ _ _ jb (Keeps.drew _ _)) (by show W.heap.size ≤ b.heap.size; omega) (fun j h => by have := hOa j h; show j < b.heap.size; omega) (fun j hj h => hOO j (by omega) h)
    rw [← hstep] at hyield
    simp only [encP] at hyield
    generalize (keysG S).getD pre.length 0 = kx at *
    generalize (whoG S).getD pre.length 0 = wx at *
    have hil' : (pre.length : Int) < S.l.length := by omega
    simp [go_sem, IntWalk.iteOmega, IntWalk.toNatUp, encP, hab]
    refine W_tree (.pure 1 (.pure 3 (.two 0 (.one 2 (.pure 4 (.one 5 (.one 6 (.pure 7 (.done)))))) 2 (.pure 4 (.two 0 (.one 5 (.one 6 (.pure 7 (.done)))) 5 (.one 0 (.one 6 (.pure 7 (.done))))))))) follows (by kernel_rfl) ?_
    simp [go_sem, IntWalk.iteOmega, IntWalk.toNatUp, ybc, wbc, x0, hil, hil']
    have ngw : ¬ O gw := fun h => (hN gw (.inr (.inl rfl))).2 (hOO gw hgw3.lt h)
    have nA : ∀ j, atB S.l.length (some ⟨b2, o2, none⟩) j → ¬ O j := fun j hj h => (hN j (.inr (.inr (.inr hj)))).2 (hOO j (hNw j hj) h)
    and_intros <;>
    · refine yieldE_of hyield ?_
      rintro v b3 ⟨O', hm, (⟨rfl, hj3⟩ | ⟨rfl, hj3⟩)⟩
      · simp [go_sem, IntWalk.iteOmega, IntWalk.toNatUp]
        refine ⟨O', hm.before (Keeps.drew _ _), hj3, hm.2.2.blk yb.drew nb, hm.2.2.blk wb.drew ngw, Rd_on (rb.keep (ext_drew b)) hm.2.2 nA, fun h => ?_⟩
        rcases hm.1 _ h with h | h
        · exact nb h
        · rw [sz_drew] at h; omega
      · simp [go_sem, IntWalk.iteOmega, IntWalk.toNatUp]
        exact ⟨O', hm.before (Keeps.drew _ _), hj3⟩
  · rintro xs O b D rfl ⟨jb, yb, wb, rb, nb⟩ hOD hD hDb hsb
    rw [enumP_length, hkl, show (prsG S).take S.l.length = prsG S from List.take_of_length_le (by rw [prsG_length]; omega)] at jb
    simp [go_sem, IntWalk.iteOmega, IntWalk.toNatUp, hDb]
    refine ⟨O, _, List.prefix_refl _, by omega, .inl ⟨rfl, hJ _ _ _ _ jb (Keeps.putObj _ _ _ ?_)⟩⟩
    rintro (h | h)
    · exact hOD h
    · omega
  · rintro e pre xs O b D rfl hpre ⟨rfl, jb⟩ hOD hD hDb hsb
    simp [go_sem, IntWalk.iteOmega, IntWalk.toNatUp, hDb]
    refine ⟨O, (prsG S).take pre.length, List.take_prefix _ _, by omega, .inr (hJx _ _ _ _ jb (Keeps.putObj _ _ _ ?_))⟩
    rintro (h | h)
    · exact hOD h
    · omega
end Go.Proofs.Ytilpmnbnjeahnaa
