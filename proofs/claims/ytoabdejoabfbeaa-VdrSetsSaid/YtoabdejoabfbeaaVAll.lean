/-
  Going through all validators: slices.Values, vdr.All, told; slices.Equal of validators.
-/
import Derived.Test.YtoabdejoabfbeaaVUnits
import Derived.Test.YtoabdejoabfbeaaRange
import Derived.Test.YtoabdejoabfbeaaMake
import Derived.Test.YtoabdejoabfbeaaVEq
namespace Go.Proofs.Ytoabdejoabfbeaa
open Go.RowKit
set_option linter.unusedVariables false
set_option linter.unusedSimpArgs false
set_option maxRecDepth 10000
/-- the block of a slice -/
def atBlock (A : Option Addr) (j : Nat) : Prop := ∃ b o, A = some ⟨b, o, none⟩ ∧ j = b
theorem Sl_keeps {N : Nat → Prop} {w w' : World} {n size : Nat} {A : Option Addr} {xs : List Value} (h : Rd w size A n xs) (hk : Keeps N w w') (hN : ∀ j, atBlock A j → N j) : Rd w' size A n xs :=
  hk.rd h fun g o e => hN g ⟨g, o, e, rfl⟩
theorem enters44 (args : Array Value) (w : World) : (callFunc 44 args).run Try.prog w = .ok (.enter 44 args) w :=
  enters_of Try.func44 (by kernel_rfl) rfl args w
theorem enters41 (args : Array Value) (w : World) : (callFunc 41 args).run Try.prog w = .ok (.enter 41 args) w :=
  enters_of Try.func41 (by kernel_rfl) rfl args w
theorem values_any (v : Value) (w : World) (hv : ∃ A n c, v = .slice A n c) : callE Try.prog 42 #[v] w fun u w' => u = .func (.func 44) #[] #[.pointer (some ⟨w.heap.size, 0, none⟩)] ∧ Blk w' w.heap.size 33 #[v] ∧ Below w.heap.size w w' := by
  obtain ⟨A, n, c, rfl⟩ := hv
  refine calls_E Try.func42 rfl rfl rfl (Nat.le_of_ble_eq_true rfl) ?_
  simp [go_sem, IntWalk.iteOmega, IntWalk.toNatUp]
  exact ext_alloc _ _
set_option maxHeartbeats 1600000 in
theorem values_seq (l : List Vd) (A : Option Addr) (cap g : Nat) (w : World) (hg : Blk w g 33 #[.slice A l.length cap]) (hs : Sl w 2 (.slice A l.length cap) l.length (vdrs l)) :
    Seq Try.prog 44 #[.pointer (some ⟨g, 0, none⟩)] (fun x : Vd => #[vdv x]) (fun xs => xs = l) (fun j => j = g ∨ atBlock A j) w := by
  intro L W O₀ J Jx hkW hN hJ hJx hY h0 hO
  obtain ⟨A', cap', e, hrd, hA, hc1, hc2⟩ := id hs
  injection e with e1 e2 e3
  subst e1; subst e3
  have hg1 := hkW.blk hg (.inl rfl)
  have hgc := hg1.cell
  show callE Try.prog 44 #[.func (.yield L) #[] #[], .pointer (some ⟨g, 0, none⟩)] W _
  refine calls_E Try.func44 rfl rfl rfl (Nat.le_of_ble_eq_true rfl) ?_
  simp [go_sem, IntWalk.iteOmega, IntWalk.toNatUp, hgc]
  refine W_loop (fun st wr => ∃ (i : Nat) (O : Nat → Prop), i ≤ l.length ∧ st 0 = .func (.yield L) #[] #[] ∧ st 5 = .slice A l.length cap ∧ st 6 = .int .i64 l.length ∧ st 7 = .int .i64 i ∧
    J (l.take i) O wr ∧ W.heap.size ≤ wr.heap.size ∧ (∀ j, O j → j < wr.heap.size) ∧ (∀ j, j < W.heap.size → O j → O₀ j) ∧ Keeps (fun j => j = g ∨ atBlock A j) w wr) (fun st _ => l.length - (intOf (st 7)).toNat) ?_ ?_
  · exact ⟨0, O₀, by omega, by simp [go_sem], by simp [go_sem], by simp [go_sem], by simp [go_sem], by simpa using h0, Nat.le_refl _, hO, fun _ _ h => h, hkW⟩
  · rintro st wr ⟨i, O, hi, e0, e5, e6, e7, hj, hsz, hOs, hOO, hkp⟩
    by_cases hlt : i < l.length
    · obtain ⟨b, o, rfl, hb, hc⟩ := hrd.cells (by omega)
      obtain ⟨a0, a1⟩ := vdrs_at l i hlt
      have hbN : (fun j => j = g ∨ atBlock (some ⟨b, o, none⟩) j) b := .inr ⟨b, o, rfl, rfl⟩
      have x0 := hc _ _ a0
      have x1 := hc _ _ a1
      rw [← hkp.cell (p := ⟨b, o + i * 2, none⟩) hb hbN] at x0
      rw [← hkp.cell (p := ⟨b, o + (i * 2 + 1), none⟩) hb hbN] at x1
      rw [← Nat.add_assoc] at x1
      have hlt' : (i : Int) < l.length := by omega
      have htk : l.take (i + 1) = l.take i ++ [l[i]] := by rw [List.take_add_one, List.getElem?_eq_getElem hlt]; rfl
      have hpre : ∃ xs, xs = l ∧ (l.take i ++ [l[i]]) <+: xs := ⟨l, rfl, by rw [← htk]; exact List.take_prefix _ _⟩
      have hyield := fun a ha1 ha2 ha3 => hY (l.take i) l[i] O a hpre ha1 ha2 ha3 hOO
      rw [← htk] at hyield
      simp only [vdv] at hyield
      generalize l[i] = x at *
      have hj2 : J (l.take i) O (wr.alloc (.cells #[.string x.name, .int .i64 x.weight] 38)) := hJ _ _ _ _ hj (Keeps.alloc _ _ _)
      have hk2 := hkp.trans (Keeps.alloc (fun j => j = g ∨ atBlock (some ⟨b, o, none⟩) j) wr (.cells #[.string x.name, .int .i64 x.weight] 38))
      have hs2 : W.heap.size ≤ (wr.alloc (.cells #[.string x.name, .int .i64 x.weight] 38)).heap.size := by simp; omega
      have hO2 : ∀ j, O j → j < (wr.alloc (.cells #[.string x.name, .int .i64 x.weight] 38)).heap.size := fun j h => by have := hOs j h; simp; omega
      simp [go_sem, IntWalk.iteOmega, IntWalk.toNatUp, e0, e5, e6, e7, hlt, hlt', x0, x1]
      generalize wr.alloc (.cells #[.string x.name, .int .i64 x.weight] 38) = W2 at *
      refine yieldE_of (hyield W2 hj2 hs2 hO2) ?_
      rintro v b2 ⟨O', hm, (⟨rfl, hj3⟩ | ⟨rfl, hj3⟩)⟩
      · have hk3 : Keeps (fun j => j = g ∨ atBlock (some ⟨b, o, none⟩) j) w b2 := hk2.trans (hm.2.2.mono fun j _ hj hOj => by
          have h1 := hN j hj
          exact h1.2 (hOO j (Nat.lt_of_lt_of_le h1.1 hkW.size) hOj))
        have hs3 := Nat.le_trans hs2 hm.2.2.size
        simp [go_sem, IntWalk.iteOmega, IntWalk.toNatUp, e0, e5, e6, e7]
        refine roundEnd.mk ⟨i + 1, O', by omega, by simp [go_sem, e0], by simp [go_sem, e5], by simp [go_sem, e6], by simp [go_sem], hj3, hs3, hm.2.1, fun j hj h => ?_, hk3⟩ ?_
        · rcases hm.1 j h with h | h
          · exact hOO j hj h
          · omega
        · simp [go_sem, intOf]; omega
      · simp [go_sem, IntWalk.iteOmega, IntWalk.toNatUp, e0, e5, e6, e7]
        exact ⟨O', l.take (i + 1), List.take_prefix _ _, Nat.le_trans hs2 hm.2.2.size, .inr hj3⟩
    · obtain rfl : i = l.length := by omega
      rw [List.take_length] at hj
      simp [go_sem, IntWalk.iteOmega, IntWalk.toNatUp, e0, e5, e6, e7]
      exact ⟨O, l, List.prefix_refl _, hsz, .inl ⟨rfl, hj⟩⟩
/-- vdr.All's own function -/
def pairV (x : Vd) : Array Value := #[.string x.name, .int .i64 x.weight]
set_option maxHeartbeats 3200000 in
theorem all_seq (l : List Vd) (A : Option Addr) (cap g : Nat) (w : World) (hg : Blk w g 33 #[.slice A l.length cap]) (hs : Sl w 2 (.slice A l.length cap) l.length (vdrs l)) :
    Seq Try.prog 41 #[.pointer (some ⟨g, 0, none⟩)] pairV (fun xs => xs = l) (fun j => j = g ∨ atBlock A j) w := by
  intro L W O₀ J Jx hkW hN hJ hJx hY h0 hO
  have hs0 := hs
  obtain ⟨A', cap', e, hrd, hA, hc1, hc2⟩ := id hs
  injection e with e1 e2 e3
  subst e1; subst e3
  have hg1 := hkW.blk hg (.inl rfl)
  have hrd1 : Rd W 2 A l.length (vdrs l) := Sl_keeps hrd hkW fun j hj => .inr hj
  show callE Try.prog 41 #[.func (.yield L) #[] #[], .pointer (some ⟨g, 0, none⟩)] W _
  refine calls_M Try.func41 rfl rfl rfl (Nat.le_of_ble_eq_true rfl) ?_
  have hg2 := hg1.more (.cells #[.func (.yield L) #[] #[]] 65)
  have hgc := hg2.cell
  simp [go_sem, IntWalk.iteOmega, IntWalk.toNatUp, hgc]
  have hyb : Blk (W.alloc (.cells #[.func (.yield L) #[] #[]] 65)) W.heap.size 65 #[.func (.yield L) #[] #[]] := Blk.self_ rfl
  have hrd2 := hrd1.keep (ext_alloc W (.cells #[.func (.yield L) #[] #[]] 65))
  have kW2 := ext_alloc W (.cells #[.func (.yield L) #[] #[]] 65)
  have hsz2 : (W.alloc (.cells #[.func (.yield L) #[] #[]] 65)).heap.size = W.heap.size + 1 := by simp
  generalize W.alloc (.cells #[.func (.yield L) #[] #[]] 65) = W2 at *
  refine callE_of (values_any (.slice A l.length cap) W2 ⟨_, _, _, rfl⟩) ?_
  rintro _ W3 ⟨rfl, hgv, kW3⟩
  have hyb3 := hyb.keep kW3
  have hrd3 := hrd2.keep kW3
  have hs3 : Sl W3 2 (.slice A l.length cap) l.length (vdrs l) := ⟨A, cap, rfl, hrd3, hA, hc1, hc2⟩
  have hsz3 := kW3.size
  have kk : Below W.heap.size W W3 := ext_trans kW2 kW3
  simp [go_sem, IntWalk.iteOmega, IntWalk.toNatUp]
  refine WM_range (w0 := W3) (enc := fun x : Vd => #[vdv x]) (S := fun xs => xs = l) (by simp [go_sem]) (enters44) (values_seq l A cap W2.heap.size W3 hgv hs3) (Keeps.refl _ _) (fun _ => rfl) O₀ ?_ ?_
    (fun pre O a => J pre O a ∧ Blk a W.heap.size 65 #[.func (.yield L) #[] #[]] ∧ ¬ O W.heap.size) (fun e pre O a => e = .ret ∧ Jx pre O a) ?_ ?_ ?_ ?_ ?_ ?_
  · rintro j (h | ⟨b, o, rfl, h⟩)
    · have h1 := hgv.lt
      exact ⟨by omega, fun ho => by have := hO j ho; omega⟩
    · have h1 := hN j (.inr ⟨b, o, rfl, h⟩)
      exact ⟨Nat.lt_of_lt_of_le h1.1 (Nat.le_trans hkW.size kk.size), h1.2⟩
  · intro j hj
    have := hO j hj
    omega
  · rintro pre O a b ⟨h1, h2, h3⟩ hk
    exact ⟨hJ _ _ _ _ h1 (hk.mono fun j _ h => h.imp id fun h => by omega), hk.blk h2 (.inr (by omega)), h3⟩
  · rintro e pre O a b ⟨h1, h2⟩ hk
    exact ⟨h1, hJx _ _ _ _ h2 (hk.mono fun j _ h => h.imp id fun h => by omega)⟩
  · exact ⟨hJ _ _ _ _ h0 (Keeps.of_ext kk), hyb3, fun h => by have := hO _ h; omega⟩
  · rintro pre x O a b l1 o hpre hab hla hOl hsl ⟨r, hr⟩ hbs hsa hOa hOO ⟨ja, ya, na⟩ ⟨jb, yb, nb⟩
    have hla2 : l1 ≠ a.heap.size := by omega
    have hput := fun ob => putObj_alloc (w := a) (l := l1) (o := ob) (o' := .loop o) hla
    simp only [hab] at hput
    simp [go_sem, IntWalk.iteOmega, IntWalk.toNatUp, vdv, hp_alloc, hla2, hput]
    have ybc := (yb.more (.cells #[.string x.name, .int .i64 x.weight] 38)).cell
    have hxb : Blk (b.alloc (.cells #[.string x.name, .int .i64 x.weight] 38)) b.heap.size 38 #[.string x.name, .int .i64 x.weight] := Blk.self_ rfl
    have hxc := hxb.cell
    rw [hbs] at hxc
    have jB := hJ _ _ _ _ jb (Keeps.alloc (fun j => O j ∨ j < W.heap.size) b (.cells #[.string x.name, .int .i64 x.weight] 38))
    have kB := Keeps.alloc (fun j => ¬ O j) b (.cells #[.string x.name, .int .i64 x.weight] 38)
    have hyB := yb.more (.cells #[.string x.name, .int .i64 x.weight] 38)
    have hsB : W.heap.size ≤ (b.alloc (.cells #[.string x.name, .int .i64 x.weight] 38)).heap.size := by simp; omega
    have hOB : ∀ j, O j → j < (b.alloc (.cells #[.string x.name, .int .i64 x.weight] 38)).heap.size := fun j h => by have := hOa j h; simp; omega
    generalize b.alloc (.cells #[.string x.name, .int .i64 x.weight] 38) = B1 at *
    simp [go_sem, IntWalk.iteOmega, IntWalk.toNatUp, ybc, hxc]
    have hy := hY pre x O B1 hpre jB hsB hOB (fun j hj h => hOO j (by omega) h)
    simp only [pairV] at hy
    refine yieldE_of hy ?_
    rintro v b2 ⟨O', hm, (⟨rfl, hj3⟩ | ⟨rfl, hj3⟩)⟩
    · simp [go_sem, IntWalk.iteOmega, IntWalk.toNatUp]
      refine ⟨O', hm.before kB, hj3, hm.2.2.blk hyB nb, fun h => ?_⟩
      rcases hm.1 _ h with h | h
      · exact nb h
      · have := hyB.lt; omega
    · simp [go_sem, IntWalk.iteOmega, IntWalk.toNatUp]
      exact ⟨O', hm.before kB, hj3⟩
  · rintro xs O b D rfl ⟨jb, yb, nb⟩ hOD hD hDb hsb
    simp [go_sem, IntWalk.iteOmega, IntWalk.toNatUp, hDb]
    refine ⟨O, xs, List.prefix_refl _, by omega, .inl ⟨rfl, hJ _ _ _ _ jb (Keeps.putObj _ _ _ ?_)⟩⟩
    rintro (h | h)
    · exact hOD h
    · omega
  · rintro e pre xs O b D rfl hpre ⟨rfl, jb⟩ hOD hD hDb hsb
    simp [go_sem, IntWalk.iteOmega, IntWalk.toNatUp, hDb]
    refine ⟨O, pre, hpre, by omega, .inr (hJx _ _ _ _ jb (Keeps.putObj _ _ _ ?_))⟩
    rintro (h | h)
    · exact hOD h
    · omega
set_option maxHeartbeats 1600000 in
theorem all_any (l : List Vd) (v : Value) (w : World) (hs : Sl w 2 v l.length (vdrs l)) (hl : l.length ≤ 1000) : callE Try.prog 33 #[v] w fun u w' => ∃ g A cap, u = .func (.func 41) #[] #[.pointer (some ⟨g, 0, none⟩)] ∧ Blk w' g 33 #[.slice A l.length cap] ∧ Sl w' 2 (.slice A l.length cap) l.length (vdrs l) ∧ (∀ j, atBlock A j → j < w'.heap.size) ∧ Below w.heap.size w w' := by
  obtain ⟨A, cap, rfl, hrd, hA, hc1, hc2⟩ := id hs
  refine calls_E Try.func33 rfl rfl rfl (Nat.le_of_ble_eq_true rfl) ?_
  simp [go_sem, IntWalk.iteOmega, IntWalk.toNatUp]
  refine appendE w.heap.size 38 2 24 Try.underlying33 el38 (World.ownsRow_nil _ _ _ _) hrd ?_ (by unfold maxLen; omega) (by omega) (Nat.le_refl _) ?_
  · refine allOne_of fun v hv => ?_
    simp only [vdrs, List.mem_flatMap] at hv
    obtain ⟨x, _, hv⟩ := hv
    simp at hv
    rcases hv with rfl | rfl <;> rfl
  intro v' W hown hgr _
  simp only [Nat.zero_add, List.nil_append] at hown
  have hB1 : Below w.heap.size w W := (Below.refl _ _).grown hgr (Nat.le_refl _) (by intro k hk; simp [Value.ownBlock] at hk)
  obtain ⟨hsl, A', c', rfl⟩ := own_sl hown
  simp [go_sem, IntWalk.iteOmega, IntWalk.toNatUp]
  have kA := ext_trans hB1 (ext_alloc W (.cells #[.slice A' l.length c'] 33))
  have hsl2 := hsl
  refine ⟨A', c', ⟨rfl, rfl⟩, ?_, ?_, kA⟩
  · obtain ⟨A2, c2, e, r1, r2⟩ := hsl
    exact ⟨A2, c2, e, r1.keep (ext_alloc _ _), r2⟩
  · rintro j ⟨b, o, rfl, rfl⟩
    have := (hown.lt j rfl).2
    omega
def vKeep (W0 : World) (mb lb : Nat) (most : Int) (base : Nat) (xs : List Vd) (O : Nat → Prop) (a : World) : Prop :=
  ∃ v, O = (fun j => j = lb ∨ v.ownBlock = some j) ∧ Blk a lb 33 #[v] ∧ Blk a mb 3 #[.int .i64 most] ∧ a.ownsRow base 38 2 v xs.length (vdrs xs) ∧ Below base W0 a
theorem own_keeps {O : Nat → Prop} {a b : World} {base e size n : Nat} {v : Value} {xs : List Value} (h : a.ownsRow base e size v n xs) (hk : Keeps O a b) (hv : ∀ j, v.ownBlock = some j → O j) : b.ownsRow base e size v n xs := by
  refine ⟨h.1, ?_⟩
  rcases h.2 with hn | ⟨g, cap, cur, rfl, hb, hg, rest⟩
  · exact .inl hn
  · exact .inr ⟨g, cap, cur, rfl, hb, (hk.block g (Array.getElem?_eq_some_iff.1 hg).1 (hv g rfl)).trans hg, rest⟩
theorem own_ne' {w : World} {B e size n g : Nat} {v : Value} {xs : List Value} {t : TypeId} {cs : Array Value} (h : w.ownsRow B e size v n xs) (hg : Blk w g t cs) (hne : e ≠ t) : v.ownBlock ≠ some g := by
  rcases h.2 with ⟨rfl, _⟩ | ⟨k, cap, cur, rfl, _, hk, _⟩
  · simp [Value.ownBlock]
  · intro h2
    simp only [Value.ownBlock, Option.some.injEq] at h2
    subst h2
    unfold Blk at hg
    rw [hg] at hk
    injection hk with hk
    injection hk with _ h3 _
    exact hne h3.symm
theorem vKeep_stab {W0 W2 a b : World} {mb lb : Nat} {most : Int} {xs : List Vd} {O : Nat → Prop} (h : vKeep W0 mb lb most W0.heap.size xs O a) (hk : Keeps (fun j => O j ∨ j < W2.heap.size) a b) (hm : mb < W2.heap.size) (hw : W0.heap.size ≤ W2.heap.size) : vKeep W0 mb lb most W0.heap.size xs O b := by
  obtain ⟨v, rfl, h1, h2, h3, h4⟩ := h
  exact ⟨v, rfl, hk.blk h1 (.inl (.inl rfl)), hk.blk h2 (.inr hm), own_keeps h3 hk fun j hj => .inl (.inr hj), h4.trans (hk.below h4.size fun k hk' => .inr (by omega))⟩
theorem vdrs_snoc (l : List Vd) (x : Vd) : vdrs l ++ [.string x.name, .int .i64 x.weight] = vdrs (l ++ [x]) := by simp [vdrs]
def toldJ (W0 : World) (most : Nat) (pre : List Vd) (O : Nat → Prop) (a : World) : Prop := pre.length ≤ most ∧ vKeep W0 W0.heap.size (W0.heap.size + 1) most W0.heap.size pre O a
def toldX (W0 : World) (most : Nat) (e : Exit) (pre : List Vd) (O : Nat → Prop) (a : World) : Prop :=
  e = .exit 0 ∧ ∃ pre0 x, pre = pre0 ++ [x] ∧ pre0.length = most ∧ vKeep W0 W0.heap.size (W0.heap.size + 1) most W0.heap.size pre0 O a
set_option maxHeartbeats 3200000 in
theorem told_any (l : List Vd) (most : Nat) (gf : FuncId) (eg : ∀ args w, (callFunc gf args).run Try.prog w = .ok (.enter gf args) w) (lb : Array Value) (N : Nat → Prop) (w : World) (hseq : Seq Try.prog gf lb pairV (fun xs => xs = l) N w) (hN : ∀ j, N j → j < w.heap.size) (hl : l.length ≤ 1000) (hmost : most ≤ 9223372036854775807) :
    callE Try.prog 32 #[.func (.func gf) #[] lb, .int .i64 most] w fun v w' => Sl w' 2 v (l.take most).length (vdrs (l.take most)) ∧ Below w.heap.size w w' := by
  refine calls_M Try.func32 rfl rfl rfl (Nat.le_of_ble_eq_true rfl) ?_
  have hfun := fun w => run_eql_func (P := Try.prog) Try.underlying52 ⟨_, _, _, rfl⟩ (.func gf) #[] lb w
  simp [go_sem, IntWalk.iteOmega, IntWalk.toNatUp, hfun]
  have hmb : Blk ((w.alloc (.cells #[.int .i64 most] 3)).alloc (.cells #[.slice none 0 0] 33)) w.heap.size 3 #[.int .i64 most] := (Blk.self_ rfl).more _
  have hlb : Blk ((w.alloc (.cells #[.int .i64 most] 3)).alloc (.cells #[.slice none 0 0] 33)) (w.heap.size + 1) 33 #[.slice none 0 0] := Blk.self_ (by simp)
  have k2 : Below w.heap.size w ((w.alloc (.cells #[.int .i64 most] 3)).alloc (.cells #[.slice none 0 0] 33)) := ext_trans (ext_alloc _ _) (ext_alloc _ _)
  have hs2 : ((w.alloc (.cells #[.int .i64 most] 3)).alloc (.cells #[.slice none 0 0] 33)).heap.size = w.heap.size + 2 := by simp
  generalize (w.alloc (.cells #[.int .i64 most] 3)).alloc (.cells #[.slice none 0 0] 33) = W2 at *
  refine WM_range (w0 := w) (enc := pairV) (S := fun xs => xs = l) (by simp [go_sem]) eg hseq (Keeps.of_ext k2) (fun _ => rfl) (fun j => j = w.heap.size + 1 ∨ (Value.slice none 0 0).ownBlock = some j) ?_ ?_
    (toldJ w most) (toldX w most) ?_ ?_ ?_ ?_ ?_ ?_
  · intro j hj
    have := hN j hj
    refine ⟨this, ?_⟩
    rintro (h | h)
    · omega
    · simp [Value.ownBlock] at h
  · rintro j (h | h)
    · omega
    · simp [Value.ownBlock] at h
  · rintro pre O a b ⟨h1, h2⟩ hk
    exact ⟨h1, vKeep_stab h2 hk (by omega) (by omega)⟩
  · rintro e pre O a b ⟨h1, p0, x, h2, h3, h4⟩ hk
    exact ⟨h1, p0, x, h2, h3, vKeep_stab h4 hk (by omega) (by omega)⟩
  · exact ⟨by simp, _, rfl, hlb, hmb, World.ownsRow_nil _ _ _ _, k2⟩
  · rintro pre x O a b l1 o ⟨ys, rfl, hpre⟩ hab hla hOl hsl ⟨r, hr⟩ hbs hsa hOa hOO _ ⟨hle, v, rfl, hlb, hmb, hown, hB⟩
    have hpl : pre.length + 1 ≤ ys.length := by have := hpre.length_le; simpa using this
    obtain ⟨_, A', c', rfl⟩ := own_sl hown
    have hlc := hlb.cell
    have hmc := hmb.cell
    have hlf := hlb.frozen
    by_cases hq : most ≤ pre.length
    · have hq' : (most : Int) ≤ pre.length := by omega
      simp [go_sem, IntWalk.iteOmega, IntWalk.toNatUp, hab, hlc, hmc, hq', pairV]
      exact ⟨_, Mine.same (Keeps.refl _ _) (fun j h => by have := hOa j h; omega), rfl, pre, x, rfl, by omega, _, rfl, hlb, hmb, hown, hB⟩
    · have hq' : ¬ (most : Int) ≤ pre.length := by omega
      simp [go_sem, IntWalk.iteOmega, IntWalk.toNatUp, hab, hlc, hmc, hq', pairV]
      have hxb : Blk (b.alloc (.cells #[.string x.name, .int .i64 x.weight] 38)) b.heap.size 38 #[.string x.name, .int .i64 x.weight] := Blk.self_ rfl
      have hnew : Rd (b.alloc (.cells #[.string x.name, .int .i64 x.weight] 38)) 2 (some ⟨b.heap.size, 0, none⟩) 1 [.string x.name, .int .i64 x.weight] :=
        ⟨rfl, fun _ => ⟨_, _, rfl, by simp, fun j u hu => by rw [hxb.cell, Nat.zero_add, List.getElem?_toArray]; exact hu⟩⟩
      have eA := ext_alloc b (.cells #[.string x.name, .int .i64 x.weight] 38)
      have hown2 := own_keeps hown (Keeps.of_ext (O := fun _ => True) eA) (fun _ _ => trivial)
      have hlb2 := hlb.keep eA
      have hmb2 := hmb.keep eA
      have hB2 : Below w.heap.size w (b.alloc (.cells #[.string x.name, .int .i64 x.weight] 38)) := hB.trans (eA.mono hB.size)
      have hsA : (b.alloc (.cells #[.string x.name, .int .i64 x.weight] 38)).heap.size = b.heap.size + 1 := by simp
      generalize b.alloc (.cells #[.string x.name, .int .i64 x.weight] 38) = B2 at *
      refine appendE w.heap.size 38 2 24 Try.underlying33 el38 hown2 hnew rfl (by unfold maxLen; omega) (by omega) hB2.size ?_
      intro v' B3 hown3 hgr hblk
      rw [vdrs_snoc] at hown3
      obtain ⟨_, A3, c3, rfl⟩ := own_sl hown3
      have ne1 := own_ne' hown2 hlb2 (by decide)
      have ne2 := own_ne' hown2 hmb2 (by decide)
      have hlb3 : Blk B3 (w.heap.size + 1) 33 #[.slice A' pre.length c'] := (hgr.block _ hlb2.lt (fun e => ne1 e.symm)).trans hlb2
      have hmb3 : Blk B3 w.heap.size 3 #[.int .i64 most] := (hgr.block _ hmb2.lt (fun e => ne2 e.symm)).trans hmb2
      have hlc3 := hlb3.cell
      have hlf3 := hlb3.frozen
      have hrow : ∀ k, (Value.slice A' pre.length c').ownBlock = some k → w.heap.size ≤ k := fun k hk => (hown2.lt k hk).1
      have hB3 : Below w.heap.size w B3 := hB2.grown hgr hB2.size hrow
      simp [go_sem, IntWalk.iteOmega, IntWalk.toNatUp, hlc3, hlf3]
      refine ⟨fun j => j = w.heap.size + 1 ∨ (Value.slice A3 (pre.length + 1) c3).ownBlock = some j, ⟨?_, ?_, ?_⟩, ?_, _, rfl, Blk_set hlb3, ?_, ?_, ?_⟩
      · rintro j (h | h)
        · exact .inl (.inl h)
        · rcases hblk with e | e
          · exact .inl (.inr (e ▸ h))
          · rw [e] at h; injection h with h; exact .inr (by omega)
      · rintro j (h | h)
        · rw [sz_set, h]; exact hlb3.lt
        · rw [sz_set]; exact (hown3.lt j h).2
      · refine ((Keeps.of_ext (O := fun j => ¬ (j = w.heap.size + 1 ∨ (Value.slice A' pre.length c').ownBlock = some j)) eA).trans (Keeps.grown hgr fun k hk h => h (.inr hk))).trans (Keeps.setCell _ _ _ fun h => h (.inl rfl))
      · rw [List.length_append]; simp; omega
      · exact hmb3.farCell (by omega) _
      · have hne3 := own_ne' hown3 hlb3 (by decide)
        rw [List.length_append]
        exact own_keeps hown3 (Keeps.setCell (O := fun j => j ≠ w.heap.size + 1) _ _ _ (fun h => h rfl)) (fun j hj e => hne3 (e ▸ hj))
      · exact hB3.setCell (by simp) _
  · rintro xs O b D rfl ⟨hle, v, rfl, hlb, hmb, hown, hB⟩ hOD hD hDb hsb
    have hlc := hlb.cell
    obtain ⟨hsl, A', c', rfl⟩ := own_sl hown
    have htk : xs.take most = xs := List.take_of_length_le hle
    rw [htk]
    simp [go_sem, IntWalk.iteOmega, IntWalk.toNatUp, hlc, hDb]
    refine ⟨(own_sl (own_keeps hown (Keeps.putObj (O := fun j => j ≠ D) _ _ _ (fun h => h rfl)) (fun j hj e => hOD (.inr (e ▸ hj))))).1, hB.trans ((Keeps.putObj (O := fun j => j < w.heap.size) _ _ _ (by omega)).below hB.size fun k hk => hk)⟩
  · rintro e pre xs O b D rfl hpre ⟨rfl, p0, x, rfl, hp0, v, rfl, hlb, hmb, hown, hB⟩ hOD hD hDb hsb
    have hlc := hlb.cell
    obtain ⟨hsl, A', c', rfl⟩ := own_sl hown
    have htk : xs.take most = p0 := by
      obtain ⟨r, hr⟩ := hpre
      rw [← hr, ← hp0]
      simp
    rw [htk]
    simp [go_sem, IntWalk.iteOmega, IntWalk.toNatUp, hlc, hDb]
    refine ⟨(own_sl (own_keeps hown (Keeps.putObj (O := fun j => j ≠ D) _ _ _ (fun h => h rfl)) (fun j hj e => hOD (.inr (e ▸ hj))))).1, hB.trans ((Keeps.putObj (O := fun j => j < w.heap.size) _ _ _ (by omega)).below hB.size fun k hk => hk)⟩
end Go.Proofs.Ytoabdejoabfbeaa
