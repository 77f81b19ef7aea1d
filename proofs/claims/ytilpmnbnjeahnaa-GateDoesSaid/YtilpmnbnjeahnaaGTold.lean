/-
  told: the first of those that are within a gate.
-/
import Derived.Test.YtilpmnbnjeahnaaGSeq
namespace Go.Proofs.Ytilpmnbnjeahnaa
open Go.RowKit
set_option linter.unusedVariables false
set_option linter.unusedSimpArgs false
set_option maxRecDepth 10000
theorem run_equalIn_func {P : Program} (d : Nat) {t : TypeId} {D : TypeDesc} (ht : P.underlying t = some D) (hD : ∃ a b c, D = .func a b c) (f : Fn) (l m : Array Value) (w : World) :
    (Op.equalIn (d + 1) t (.func f l m) .nilFunc).run P w = .ok false w := by
  obtain ⟨a, b, c, rfl⟩ := hD
  simp only [Op.equalIn, Sem.run_bind, run_underlying ht, Result.andThen_ok, Sem.run_pure]
theorem run_eql_func {P : Program} {t : TypeId} {D : TypeDesc} (ht : P.underlying t = some D) (hD : ∃ a b c, D = .func a b c) (f : Fn) (l m : Array Value) (w : World) :
    (binOp .eql t (.func f l m) .nilFunc).run P w = .ok (.bool false) w := by
  have h : (Op.equal t (.func f l m) .nilFunc).run P w = .ok false w := run_equalIn_func 9999 ht hD f l m w
  simp only [binOp, Sem.run_bind, h, Result.andThen_ok, Sem.run_pure]
/-- pairs, cell by cell -/
def prs (l : List (Int × Int)) : List Value := l.flatMap fun p => [.int .i64 p.1, .int .i64 p.2]
def vKeep (W0 : World) (mb lb : Nat) (most : Int) (base : Nat) (xs : List (Int × Int)) (O : Nat → Prop) (a : World) : Prop :=
  ∃ v, O = (fun j => j = lb ∨ v.ownBlock = some j) ∧ Blk a lb 48 #[v] ∧ Blk a mb 3 #[.int .i64 most] ∧ a.ownsRow base 55 2 v xs.length (prs xs) ∧ Below base W0 a
theorem vKeep_stab {W0 W2 a b : World} {mb lb : Nat} {most : Int} {xs : List (Int × Int)} {O : Nat → Prop} (h : vKeep W0 mb lb most W0.heap.size xs O a) (hk : Keeps (fun j => O j ∨ j < W2.heap.size) a b) (hm : mb < W2.heap.size) (hw : W0.heap.size ≤ W2.heap.size) : vKeep W0 mb lb most W0.heap.size xs O b := by
  obtain ⟨v, rfl, h1, h2, h3, h4⟩ := h
  exact ⟨v, rfl, hk.blk h1 (.inl (.inl rfl)), hk.blk h2 (.inr hm), row_keeps h3 hk fun j hj => .inl (.inr hj), h4.trans (hk.below h4.size fun k hk' => .inr (by omega))⟩
theorem prs_snoc (l : List (Int × Int)) (x : Int × Int) : prs l ++ [.int .i64 x.1, .int .i64 x.2] = prs (l ++ [x]) := by simp [prs]
def toldJ (W0 : World) (most : Nat) (pre : List (Int × Int)) (O : Nat → Prop) (a : World) : Prop := pre.length ≤ most ∧ vKeep W0 W0.heap.size (W0.heap.size + 1) most W0.heap.size pre O a
def toldX (W0 : World) (most : Nat) (e : Exit) (pre : List (Int × Int)) (O : Nat → Prop) (a : World) : Prop :=
  e = .exit 0 ∧ ∃ pre0 x, pre = pre0 ++ [x] ∧ pre0.length = most ∧ vKeep W0 W0.heap.size (W0.heap.size + 1) most W0.heap.size pre0 O a
set_option maxHeartbeats 3200000 in
theorem told_any (S : GS) (A A' : Option Addr) (c c' gl gw : Nat) (w : World) (hgl : Blk w gl 24 #[.slice A S.l.length c]) (hgw : Blk w gw 81 #[.slice A' S.l.length c']) (hs : Sl w 1 (.slice A S.l.length c) S.l.length (ints .i64 (keysG S))) (hs' : Sl w 1 (.slice A' S.l.length c') S.l.length (ints .i64 (whoG S))) (hfew : S.l.length ≤ 1000) (most : Nat) (hmost : most ≤ 9223372036854775807) :
    callE Try.prog 21 #[.func (.func 38) #[] #[.pointer (some ⟨gl, 0, none⟩), .pointer (some ⟨gw, 0, none⟩)], .int .i64 most] w fun v w' => w'.ownsRow w.heap.size 55 2 v ((prsG S).take most).length (prs ((prsG S).take most)) ∧ Below w.heap.size w w' := by
  have hl : (prsG S).length ≤ 1000 := by rw [prsG_length]; exact hfew
  refine calls_M Try.func21 rfl rfl rfl (Nat.le_of_ble_eq_true rfl) ?_
  have hfun := fun lb w => run_eql_func (P := Try.prog) Try.underlying51 ⟨_, _, _, rfl⟩ (.func 38) #[] lb w
  simp [go_sem, IntWalk.iteOmega, IntWalk.toNatUp, hfun]
  have hmb : Blk ((w.alloc (.cells #[.int .i64 most] 3)).alloc (.cells #[.slice none 0 0] 48)) w.heap.size 3 #[.int .i64 most] := (Blk.self_ rfl).more _
  have hlb : Blk ((w.alloc (.cells #[.int .i64 most] 3)).alloc (.cells #[.slice none 0 0] 48)) (w.heap.size + 1) 48 #[.slice none 0 0] := Blk.self_ (by simp)
  have k2 : Below w.heap.size w ((w.alloc (.cells #[.int .i64 most] 3)).alloc (.cells #[.slice none 0 0] 48)) := ext_trans (ext_alloc _ _) (ext_alloc _ _)
  have hs2 : ((w.alloc (.cells #[.int .i64 most] 3)).alloc (.cells #[.slice none 0 0] 48)).heap.size = w.heap.size + 2 := by simp
  generalize (w.alloc (.cells #[.int .i64 most] 3)).alloc (.cells #[.slice none 0 0] 48) = W1 at *
  have hseq := (all_seq S A A' c c' gl gw w hgl hgw hs hs' hfew)
  have hNw : ∀ j, (j = gl ∨ j = gw ∨ atB S.l.length A j ∨ atB S.l.length A' j) → j < w.heap.size := by
    obtain ⟨_, _, e, hrd, _⟩ := hs
    injection e with e1 e2 e3
    subst e1
    obtain ⟨_, _, e, hrd', _⟩ := hs'
    injection e with e1 e2 e3
    subst e1
    rintro j (rfl | rfl | h | h)
    · exact hgl.lt
    · exact hgw.lt
    · exact atB_lt hrd h
    · exact atB_lt hrd' h
  refine WM_range (w0 := w) (enc := encP) (S := fun xs => xs = prsG S) (by simp [go_sem]) entersB hseq (Keeps.of_ext k2) (fun _ => rfl) (fun j => j = w.heap.size + 1 ∨ (Value.slice none 0 0).ownBlock = some j) ?_ ?_
    (toldJ w most) (toldX w most) ?_ ?_ ?_ ?_ ?_ ?_
  · intro j hj
    have h1 := hNw j hj
    refine ⟨h1, ?_⟩
    rintro (h | h)
    · omega
    · simp [Value.ownBlock] at h
  · rintro j (h | h)
    · omega
    · simp [Value.ownBlock] at h
  · rintro pre O a b ⟨h1, h2⟩ hk
    exact ⟨h1, vKeep_stab h2 hk (by omega) (by omega)⟩
  · rintro e pre O a b ⟨h1, p0, x, h2, h3, h4⟩ hk
    exact ⟨h1, p0, x, h2, h3, vKeep_stab h4 hk (by omega) (by omega)⟩
  · exact ⟨by simp, _, rfl, hlb, hmb, World.ownsRow_nil _ _ _ _, k2⟩
  · rintro pre x O a b l1 o ⟨ys, rfl, hpre⟩ hab hla hOl hsl ⟨r, hr⟩ hbs hsa hOa hOO _ ⟨hle, v, rfl, hlb, hmb, hown, hB⟩
    have hpl : pre.length + 1 ≤ (prsG S).length := by have := hpre.length_le; simpa using this
    obtain ⟨_, A', c', rfl⟩ := own_sl hown
    have hlc := hlb.cell
    have hmc := hmb.cell
    have hlf := hlb.frozen
    by_cases hq : most ≤ pre.length
    · have hq' : (most : Int) ≤ pre.length := by omega
      simp [go_sem, IntWalk.iteOmega, IntWalk.toNatUp, hab, hlc, hmc, hq', encP]
      exact ⟨_, Mine.same (Keeps.refl _ _) (fun j h => by have := hOa j h; omega), rfl, pre, x, rfl, by omega, _, rfl, hlb, hmb, hown, hB⟩
    · have hq' : ¬ (most : Int) ≤ pre.length := by omega
      simp [go_sem, IntWalk.iteOmega, IntWalk.toNatUp, hab, hlc, hmc, hq', encP]
      have hxb : Blk (b.alloc (.cells #[.int .i64 x.1, .int .i64 x.2] 55)) b.heap.size 55 #[.int .i64 x.1, .int .i64 x.2] := Blk.self_ rfl
      have hnew : Rd (b.alloc (.cells #[.int .i64 x.1, .int .i64 x.2] 55)) 2 (some ⟨b.heap.size, 0, none⟩) 1 [.int .i64 x.1, .int .i64 x.2] :=
        ⟨rfl, fun _ => ⟨_, _, rfl, by simp, fun j u hu => by rw [hxb.cell, Nat.zero_add, List.getElem?_toArray]; exact hu⟩⟩
      have eA := ext_alloc b (.cells #[.int .i64 x.1, .int .i64 x.2] 55)
      have hown2 := row_keeps hown (Keeps.of_ext (O := fun _ => True) eA) (fun _ _ => trivial)
      have hlb2 := hlb.keep eA
      have hmb2 := hmb.keep eA
      have hB2 : Below w.heap.size w (b.alloc (.cells #[.int .i64 x.1, .int .i64 x.2] 55)) := hB.trans (eA.mono hB.size)
      have hsA : (b.alloc (.cells #[.int .i64 x.1, .int .i64 x.2] 55)).heap.size = b.heap.size + 1 := by simp
      generalize b.alloc (.cells #[.int .i64 x.1, .int .i64 x.2] 55) = B2 at *
      refine appendE w.heap.size 55 2 16 Try.underlying48 el55 hown2 hnew rfl (by unfold maxLen; omega) (by omega) hB2.size ?_
      intro v' B3 hown3 hgr hblk
      rw [prs_snoc] at hown3
      obtain ⟨_, A3, c3, rfl⟩ := own_sl hown3
      have ne1 := row_ne hown2 hlb2 (by decide)
      have ne2 := row_ne hown2 hmb2 (by decide)
      have hlb3 : Blk B3 (w.heap.size + 1) 48 #[.slice A' pre.length c'] := (hgr.block _ hlb2.lt (fun e => ne1 e.symm)).trans hlb2
      have hmb3 : Blk B3 w.heap.size 3 #[.int .i64 most] := (hgr.block _ hmb2.lt (fun e => ne2 e.symm)).trans hmb2
      have hlc3 := hlb3.cell
      have hlf3 := hlb3.frozen
      have hrow : ∀ k, (Value.slice A' pre.length c').ownBlock = some k → w.heap.size ≤ k := fun k hk => (hown2.lt k hk).1
      have hB3 : Below w.heap.size w B3 := hB2.grown hgr hB2.size hrow
      simp [go_sem, IntWalk.iteOmega, IntWalk.toNatUp, hlc3, hlf3]
      refine ⟨fun j => j = w.heap.size + 1 ∨ (Value.slice A3 (pre.length + 1) c3).ownBlock = some j, ⟨?_, ?_, ?_⟩, ?_, _, rfl, Blk_set hlb3, ?_, ?_, ?_⟩
      · rintro j (h | h)
        · exact .inl (.inl h)
        · rcases hblk with e | e
          · exact .inl (.inr (e ▸ h))
          · rw [e] at h; injection h with h; exact .inr (by omega)
      · rintro j (h | h)
        · rw [sz_set, h]; exact hlb3.lt
        · rw [sz_set]; exact (hown3.lt j h).2
      · refine ((Keeps.of_ext (O := fun j => ¬ (j = w.heap.size + 1 ∨ (Value.slice A' pre.length c').ownBlock = some j)) eA).trans (Keeps.grown hgr fun k hk h => h (.inr hk))).trans (Keeps.setCell _ _ _ fun h => h (.inl rfl))
      · rw [List.length_append]; simp; omega
      · exact hmb3.farCell (by omega) _
      · have hne3 := row_ne hown3 hlb3 (by decide)
        rw [List.length_append]
        exact row_keeps hown3 (Keeps.setCell (O := fun j => j ≠ w.heap.size + 1) _ _ _ (fun h => h rfl)) (fun j hj e => hne3 (e ▸ hj))
      · exact hB3.setCell (by simp) _
  · rintro xs O b D rfl ⟨hle, v, rfl, hlb, hmb, hown, hB⟩ hOD hD hDb hsb
    have hlc := hlb.cell
    obtain ⟨hsl, A', c', rfl⟩ := own_sl hown
    have htk : (prsG S).take most = prsG S := List.take_of_length_le hle
    rw [htk]
    simp [go_sem, IntWalk.iteOmega, IntWalk.toNatUp, hlc, hDb]
    refine ⟨row_keeps hown (Keeps.putObj (O := fun j => j ≠ D) _ _ _ (fun h => h rfl)) (fun j hj e => hOD (.inr (e ▸ hj))), hB.trans ((Keeps.putObj (O := fun j => j < w.heap.size) _ _ _ (by omega)).below hB.size fun k hk => hk)⟩
  · rintro e pre xs O b D rfl hpre ⟨rfl, p0, x, rfl, hp0, v, rfl, hlb, hmb, hown, hB⟩ hOD hD hDb hsb
    have hlc := hlb.cell
    obtain ⟨hsl, A', c', rfl⟩ := own_sl hown
    have htk : (prsG S).take most = p0 := by
      obtain ⟨r, hr⟩ := hpre
      rw [← hr, ← hp0]
      simp
    rw [htk]
    simp [go_sem, IntWalk.iteOmega, IntWalk.toNatUp, hlc, hDb]
    refine ⟨row_keeps hown (Keeps.putObj (O := fun j => j ≠ D) _ _ _ (fun h => h rfl)) (fun j hj e => hOD (.inr (e ▸ hj))), hB.trans ((Keeps.putObj (O := fun j => j < w.heap.size) _ _ _ (by omega)).below hB.size fun k hk => hk)⟩
end Go.Proofs.Ytilpmnbnjeahnaa
