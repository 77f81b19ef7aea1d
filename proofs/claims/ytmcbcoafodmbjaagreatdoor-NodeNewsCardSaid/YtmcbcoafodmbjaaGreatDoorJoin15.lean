/-
  Texts joined: ExM2, ExB.
-/
import Derived.Test.YtmcbcoafodmbjaaGreatDoorJoin14
namespace Go.Proofs.YtmcbcoafodmbjaaGreatDoor.Ex
open Go Go.RowKit
set_option linter.unusedVariables false
set_option linter.unusedSimpArgs false
section
variable {C : Ctx} {B : Nat} {w0 : World} {callF : CallF} {e : Env} {st : St} {w : World} {s : Sl} {σ : Slots} {d : Option Tmp} {ty : TypeId} {pos : String} {after : Array Edge} {g : Option (Nat × Bool)}
theorem delE_of {t u : TypeId} {x y : Operand} {k : Kont} {W : World} (h : (Builtin.delete_ #[t, u] ty #[ev σ x, ev σ y]).run C.P w = .ok (.tuple #[]) W) (hk : k (.tuple #[]) W) : resE C.P ((execOp (ev σ) ⟨d, .call ⟨.builtin .delete, ⟨[x, y]⟩, ⟨[t, u]⟩⟩, ty, pos, after, g⟩).run C.P w) k := by
  have : (execOp (ev σ) ⟨d, .call ⟨.builtin .delete, ⟨[x, y]⟩, ⟨[t, u]⟩⟩, ty, pos, after, g⟩).run C.P w = .ok (.value (.tuple #[])) W := by
    simp [execOp, resolve, invoke, builtin, Sem.run_bind, Result.andThen, h]
  rw [this]
  exact hk
theorem lou_mapDel (hR : Rel C B w0 e st w) {t u kt el : TypeId} {m k : Operand} {kk : KK} (ht : C.P.underlying t = some (.map kt el)) (hk : KKT C.P kt kk) (hx : VR e (evA s m) (ev σ m)) (hy : VR e (evA s k) (ev σ k)) :
    Lou C B w0 callF e w σ s st ⟨d, .call ⟨.builtin .delete, ⟨[m, k]⟩, ⟨[t, u]⟩⟩, ty, pos, after, g⟩ (.mapDel kk m k) := by
  intro v st' _ h
  have h' : iMapDel st kk (evA s m) (evA s k) = some (v, st') := h
  unfold iMapDel at h'
  split at h'
  · rename_i hv
    cases hp : plainKey kk (evA s k) <;> rw [hp] at h'
    · cases h'
    simp only [cond_true, Option.some.injEq, Prod.mk.injEq] at h'
    obtain ⟨rfl, rfl⟩ := h'
    rw [hv] at hx
    generalize hσ : ev σ m = xv at hx
    cases hx
    have hchk : (Instr.checkKey true 10000 kt (ev σ k)).run C.P w = .ok () w := plain_check hk (plainKey_same hp hy)
    refine delE_of ?_ (post_same hR VR.undef_)
    simp [Builtin.delete_, hσ, Sem.run_bind, r_und ht, Result.andThen, hchk]
  · rename_i b hv
    split at h'
    · rename_i l c hm
      cases hp : plainKey kk (evA s k) <;> rw [hp] at h'
      · cases h'
      simp only [cond_true] at h'
      obtain ⟨xb, l', hb, hσ, hw, hmr, hput⟩ := map_at hR hv hm hx
      have hget := r_getObj (P := C.P) hw (by intro c e f h; cases h)
      have hset : ∀ o2, (setObj xb.blk o2).run C.P w = .ok () (w.putObj xb.blk o2) := fun o2 => r_setObj hw (by intro c e f h; cases h)
      have hchk : ∀ em, (Instr.checkKey em 10000 kt (ev σ k)).run C.P w = .ok () w := fun em => plain_check hk (plainKey_same hp hy)
      split at h'
      · rename_i i v1 hf
        simp only [Option.some.injEq, Prod.mk.injEq] at h'
        obtain ⟨rfl, rfl⟩ := h'
        rcases kfind_same hy hf hmr with ⟨h9, _⟩ | ⟨j, v2, v2', h9, hvv, hf'⟩
        · cases h9
        · cases h9
          have hfind := find_ok (w := w) hk hf'
          refine delE_of (W := w.putObj xb.blk (.map ⟨l'.eraseIdx i⟩ c)) ?_ (post_put (hput ?_) VR.undef_)
          · simp [Builtin.delete_, hσ, Sem.run_bind, r_und ht, Result.andThen, hget, hchk, hfind, hset, erase_arr]
          · rw [ldel_eq]; exact hmr.erase i
      · rename_i hf
        simp only [Option.some.injEq, Prod.mk.injEq] at h'
        obtain ⟨rfl, rfl⟩ := h'
        rcases kfind_same hy hf hmr with ⟨_, hf'⟩ | ⟨j, v2, v2', h9, _⟩
        · have hfind := find_ok (w := w) hk hf'
          refine delE_of (W := w) ?_ (post_same hR VR.undef_)
          simp [Builtin.delete_, hσ, Sem.run_bind, r_und ht, Result.andThen, hget, hchk, hfind, hset, putObj_same hw]
        · cases h9
      · cases h'
    · cases h'
  · cases h'
theorem bornIx_ok {n : Nat} : ∀ {l l' : List MapEntry} {k i : Nat}, MR e l l' → bornIx n l k = some i → k ≤ i ∧ l'.findIdx? (fun a => (a.born : Int) == (n : Int)) = some (i - k)
  | [], l', k, i, h, hb => by cases hb
  | a :: l, l', k, i, h, hb => by
    obtain ⟨a', r, rfl, h1, h2, h3, h4⟩ := h.uncons
    have hb' : cond (Nat.beq a.born n) (some k) (bornIx n l (k + 1)) = some i := hb
    rw [List.findIdx?_cons]
    cases hn : Nat.beq a.born n with
    | true =>
      rw [hn] at hb'
      simp only [cond_true, Option.some.injEq] at hb'
      subst hb'
      have : a'.born = n := by rw [← h3]; exact Nat.eq_of_beq_eq_true hn
      simp [this]
    | false =>
      rw [hn] at hb'
      simp only [cond_false] at hb'
      obtain ⟨g1, g2⟩ := bornIx_ok h4 hb'
      have hne : ¬ (a'.born : Int) = (n : Int) := by
        rw [← h3]
        intro h5
        have : a.born = n := by omega
        rw [this, Nat.beq_refl] at hn
        cases hn
      refine ⟨by omega, ?_⟩
      simp only [beq_iff_eq, hne, if_false, g2, Option.map_some]
      congr 1
      omega
theorem lou_mapSto (hR : Rel C B w0 e st w) {t : TypeId} {m k x : Operand} (hx : VR e (evA s m) (ev σ m)) (hy : VR e (evA s k) (ev σ k)) (hz : VR e (evA s x) (ev σ x)) : Lou C B w0 callF e w σ s st ⟨d, .entryStore t m k x, ty, pos, after, g⟩ (.mapSto m k x) := by
  intro v st' _ h
  have h' : iMapSto st (evA s m) (evA s k) (evA s x) = some (v, st') := h
  unfold iMapSto at h'
  split at h'
  · rename_i b kd n hv hw
    split at h'
    · rename_i l c hm
      split at h'
      · rename_i i hbi
        simp only [Option.some.injEq, Prod.mk.injEq] at h'
        obtain ⟨rfl, rfl⟩ := h'
        obtain ⟨xb, l', hb, hσ, hwm, hmr, hput⟩ := map_at hR hv hm hx
        rw [hw] at hy
        obtain ⟨_, hidx⟩ := bornIx_ok hmr hbi
        rw [Nat.sub_zero] at hidx
        have hget := r_getObj (P := C.P) hwm (by intro c e f h; cases h)
        have hset : ∀ o2, (setObj xb.blk o2).run C.P w = .ok () (w.putObj xb.blk o2) := fun o2 => r_setObj hwm (by intro c e f h; cases h)
        have hidx2 : (⟨l'⟩ : Array MapEntry).findIdx? (fun a => (a.born : Int) == (n : Int)) = some i := by
          have := List.findIdx?_toArray (p := fun a : MapEntry => (a.born : Int) == (n : Int)) (l := l')
          rw [hidx] at this
          exact this
        have hrun : (execOp (ev σ) ⟨d, .entryStore t m k x, ty, pos, after, g⟩).run C.P w = .ok .skip (w.putObj xb.blk (.map ⟨l'.modify i fun a => ⟨a.key, ev σ x, a.born⟩⟩ c)) := by
          have hi0 : ev σ k = .int kd (n : Int) := hy.int_inv
          simp only [execOp, Instr.entryStore, hσ, hi0, Sem.run_bind, hget, Result.andThen_ok, asInt, asIntOf, Sem.run_pure, hidx2, hset, modify_arr]
        rw [hrun]
        refine post_put (hput ?_) VR.undef_
        rw [lmod_eq]
        exact hmr.modify i fun a a' h => ⟨h.1, hz, h.2.2⟩
      · cases h'
    · cases h'
  · cases h'
theorem clearE_of {t : TypeId} {x : Operand} {k : Kont} {W : World} (h : (Builtin.clear_ #[t] ty #[ev σ x]).run C.P w = .ok (.tuple #[]) W) (hk : k (.tuple #[]) W) : resE C.P ((execOp (ev σ) ⟨d, .call ⟨.builtin .clear, ⟨[x]⟩, ⟨[t]⟩⟩, ty, pos, after, g⟩).run C.P w) k := by
  have : (execOp (ev σ) ⟨d, .call ⟨.builtin .clear, ⟨[x]⟩, ⟨[t]⟩⟩, ty, pos, after, g⟩).run C.P w = .ok (.value (.tuple #[])) W := by
    simp [execOp, resolve, invoke, builtin, Sem.run_bind, Result.andThen, h]
  rw [this]
  exact hk
theorem lou_clear (hR : Rel C B w0 e st w) {t el : TypeId} {x : Operand} {i : TypeInfo} {z : Value} (ht : C.P.underlying t = some (.slice el)) (hi : C.P.info? el = some i) (hz : i.zero = some z) (hn : lall nf z.cells.toList = true) (hx : VR e (evA s x) (ev σ x)) :
    Lou C B w0 callF e w σ s st ⟨d, .call ⟨.builtin .clear, ⟨[x]⟩, ⟨[t]⟩⟩, ty, pos, after, g⟩ (.clear z.cells.toList x) := by
  intro v st' _ h
  have h' : iClear st z.cells.toList (evA s x) = some (v, st') := h
  unfold iClear at h'
  split at h'
  · rename_i n c hv
    simp only [Option.some.injEq, Prod.mk.injEq] at h'
    obtain ⟨rfl, rfl⟩ := h'
    rw [hv] at hx
    generalize hσ : ev σ x = xv at hx
    cases hx
    refine clearE_of (W := w) ?_ (post_same hR VR.undef_)
    rw [hσ]
    simp [Builtin.clear_, Sem.run_bind, r_und ht, Result.andThen]
  · rename_i b off n c hv
    rw [hv] at hx
    generalize hσ : ev σ x = xv at hx
    cases hx with
    | sl hb =>
      rename_i xb
      cases hm : Nat.beq n 0 with
      | true =>
        rw [hm] at h'
        simp only [cond_true, Option.some.injEq, Prod.mk.injEq] at h'
        obtain ⟨rfl, rfl⟩ := h'
        have hn0 := Nat.eq_of_beq_eq_true hm
        subst hn0
        refine clearE_of (W := w) ?_ (post_same hR VR.undef_)
        rw [hσ]
        simp [Builtin.clear_, Sem.run_bind, r_und ht, Result.andThen]
      | false =>
        rw [hm] at h'
        simp only [cond_false] at h'
        cases hst : st.store b off (repA z.cells.toList n) with
        | none => rw [hst] at h'; cases h'
        | some st1 =>
          rw [hst] at h'
          simp only [Option.some.injEq, Prod.mk.injEq] at h'
          obtain ⟨rfl, rfl⟩ := h'
          have hlr : LR e (repA z.cells.toList n) (repA z.cells.toList n) := lall_nf (by
            rw [lall_eq, List.all_eq_true] at hn ⊢
            intro v hv
            rw [repA_get] at hv
            simp only [List.mem_flatten, List.mem_replicate] at hv
            obtain ⟨l2, ⟨_, rfl⟩, h2⟩ := hv
            exact hn v h2)
          obtain ⟨hcw, hR'⟩ := hR.store_ hst hb hlr
          have hone := store_one hst
          have hst2 := run_storeSeg (P := C.P) (repA z.cells.toList n) 0 w hcw fun u hu => one_ok (by
            obtain ⟨j, hj⟩ := List.mem_iff_getElem?.1 hu
            exact hlr.2 j u u hj hj) (hone u hu)
          have hzc : (Builtin.zeroCells z.cells n).toList = repA z.cells.toList n := by
            unfold Builtin.zeroCells
            rw [rangeCells_eq]
          have hn0 : n ≠ 0 := fun e1 => by subst e1; cases hm
          refine clearE_of (W := storeSeg w ⟨xb.blk, off + xb.shift, none⟩ 0 (repA z.cells.toList n)) ?_ ?_
          · rw [hσ]
            cases n with
            | zero => exact absurd rfl hn0
            | succ n => simp [Builtin.clear_, Sem.run_bind, r_und ht, Result.andThen, r_zero hi hz, hzc, hst2]
          · obtain ⟨l2, t2, k2, _, _, _, rfl⟩ := store_spec hst
            exact post_put hR' VR.undef_
  · rename_i b off hv
    simp only [Option.some.injEq, Prod.mk.injEq] at h'
    obtain ⟨rfl, rfl⟩ := h'
    rw [hv] at hx
    generalize hσ : ev σ x = xv at hx
    cases hx with
    | sl2 hb h0 =>
      refine clearE_of (W := w) ?_ (post_same hR VR.undef_)
      rw [hσ]
      simp [Builtin.clear_, Sem.run_bind, r_und ht, Result.andThen]
  · cases h'
theorem lou_rangeM (hR : Rel C B w0 e st w) {t kt el : TypeId} {x : Operand} (ht : C.P.underlying t = some (.map kt el)) (hx : VR e (evA s x) (ev σ x)) : Lou C B w0 callF e w σ s st ⟨d, .range t x, ty, pos, after, g⟩ (.rangeM x) := by
  intro v st' _ h
  have h' : iRangeM st (evA s x) = some (v, st') := h
  unfold iRangeM at h'
  split at h'
  · rename_i hv
    simp only [Option.some.injEq, Prod.mk.injEq] at h'
    obtain ⟨rfl, rfl⟩ := h'
    rw [hv] at hx
    generalize hσ : ev σ x = xv at hx
    cases hx
    have hrun : (execOp (ev σ) ⟨d, .range t x, ty, pos, after, g⟩).run C.P w = .ok (.value (.pointer (some ⟨w.heap.size, 0, none⟩))) (w.alloc (.mapIter none 0 #[] 0)) := by
      simp [execOp, Instr.range, hσ, Sem.run_bind, r_und ht, Result.andThen]
    rw [hrun]
    refine ⟨_, Fol.new_ hR _ _, hR.new_ (.obj (.mapIter none 0 #[] 0)) (.mapIter none 0 #[] 0) 0 0 (.obj rfl (.miter0 _ _ _)), ?_⟩
    have := VR.ptr (o := 0) (upd_self e st.next ⟨w.heap.size, 0, 0⟩)
    exact this
  · rename_i b hv
    split at h'
    · rename_i l c hm
      simp only [Option.some.injEq, Prod.mk.injEq] at h'
      obtain ⟨rfl, rfl⟩ := h'
      obtain ⟨xb, l', hb, hσ, hw, hmr, _⟩ := map_at hR hv hm hx
      have hget := r_getObj (P := C.P) hw (by intro c e f h; cases h)
      have hrun : (execOp (ev σ) ⟨d, .range t x, ty, pos, after, g⟩).run C.P w = .ok (.value (.pointer (some ⟨w.heap.size, 0, none⟩))) (w.alloc (.mapIter (some xb.blk) c #[] c)) := by
        simp [execOp, Instr.range, hσ, Sem.run_bind, r_und ht, Result.andThen, hget]
      rw [hrun]
      refine ⟨_, Fol.new_ hR _ _, hR.new_ (.obj (.mapIter (some b) c #[] c)) (.mapIter (some xb.blk) c #[] c) 0 0 (.obj rfl (.miter (upd_le hR.next_none _ _ hb) _ _ _)), ?_⟩
      have := VR.ptr (o := 0) (upd_self e st.next ⟨w.heap.size, 0, 0⟩)
      exact this
    · cases h'
  · cases h'
theorem MR.one {a : MapEntry} {l' : List MapEntry} (h : MR e [a] l') : ∃ a', l' = [a'] ∧ VR e a.key a'.key ∧ VR e a.val a'.val ∧ a.born = a'.born := by
  obtain ⟨a', r, rfl, h1, h2, h3, h4⟩ := h.uncons
  rw [h4.unnil]
  exact ⟨a', rfl, h1, h2, h3⟩
theorem lou_nextM (hR : Rel C B w0 e st w) {x : Operand} (hx : VR e (evA s x) (ev σ x)) : Lou C B w0 callF e w σ s st ⟨d, .next x false, ty, pos, after, g⟩ (.nextM x) := by
  intro v st' _ h
  have h' : iNextM st (evA s x) = some (v, st') := h
  unfold iNextM at h'
  split at h'
  · rename_i b hv
    rw [hv] at hx
    obtain ⟨xb, hb, hσ⟩ := hx.ptr_inv
    split at h'
    · rename_i a l c hg
      obtain ⟨h0, o', ho, hor⟩ := hR.objS_ hg hb
      rw [h0] at hσ
      simp only [Option.some.injEq, Prod.mk.injEq] at h'
      obtain ⟨rfl, rfl⟩ := h'
      cases hor with
      | miter0 =>
        have hget := r_getObj (P := C.P) ho (by intro c e f h; cases h)
        have hrun : (execOp (ev σ) ⟨d, .next x false, ty, pos, after, g⟩).run C.P w = .ok (.value (.tuple ⟨[.bool false]⟩)) w := by
          simp only [execOp, Instr.next, hσ, Nat.add_zero, Sem.run_bind, hget, Result.andThen_ok, Sem.run_pure]
        rw [hrun]
        exact post_same hR (VR.tuple_ (LR.cons (.bool _) LR.nil))
    · rename_i m since seen last hg
      obtain ⟨h0, o', ho, hor⟩ := hR.objS_ hg hb
      rw [h0] at hσ
      cases hor with
      | miter hbm =>
        rename_i xm
        have hget := r_getObj (P := C.P) ho (by intro c e f h; cases h)
        have hset : ∀ o2, (setObj xb.blk o2).run C.P w = .ok () (w.putObj xb.blk o2) := fun o2 => r_setObj ho (by intro c e f h; cases h)
        have mp : ∀ {l : List MapEntry} {c : Nat}, st.map? m = some (l, c) → ∃ l', w.heap[xm.blk]? = some (.map ⟨l'⟩ c) ∧ MR e l l' := by
          intro l c hm
          obtain ⟨o2, ho2, hor2⟩ := hR.obj_ (map?_ok hm) hbm
          cases hor2 with
          | map _ hmr => exact ⟨_, ho2, hmr⟩
        split at h'
        · rename_i c hm
          simp only [Option.some.injEq, Prod.mk.injEq] at h'
          obtain ⟨rfl, rfl⟩ := h'
          obtain ⟨l', hw, hmr⟩ := mp hm
          rw [hmr.unnil] at hw
          have hg2 := r_getObj (P := C.P) hw (by intro c e f h; cases h)
          have hrun : (execOp (ev σ) ⟨d, .next x false, ty, pos, after, g⟩).run C.P w = .ok (.value (.tuple ⟨[.bool false]⟩)) w := by
            simp [execOp, Instr.next, hσ, Sem.run_bind, hget, Result.andThen, hg2, Question.forced]
          rw [hrun]
          exact post_same hR (VR.tuple_ (LR.cons (.bool _) LR.nil))
        · rename_i a c hm
          cases hlt : Nat.blt a.born since with
          | false => rw [hlt] at h'; cases h'
          | true =>
            rw [hlt] at h'
            simp only [cond_true, Option.some.injEq, Prod.mk.injEq] at h'
            obtain ⟨rfl, rfl⟩ := h'
            obtain ⟨l', hw, hmr⟩ := mp hm
            obtain ⟨a', rfl, g1, g2, g3⟩ := hmr.one
            have hlt' : a'.born < since := by rw [← g3]; exact Nat.le_of_ble_eq_true hlt
            have hg2 := r_getObj (P := C.P) hw (by intro c e f h; cases h)
            have hrun : (execOp (ev σ) ⟨d, .next x false, ty, pos, after, g⟩).run C.P w = .ok (.value (.tuple ⟨[.bool true, a'.key, a'.val]⟩)) (w.putObj xb.blk (.mapIter (some xm.blk) since ⟨[a'.born]⟩ c)) := by
              have hnlt : ¬ since ≤ a'.born := by omega
              simp [execOp, Instr.next, hσ, Sem.run_bind, hget, Result.andThen, hg2, Question.forced, hset, hlt', hnlt]
            rw [hrun]
            rw [← g3]
            exact post_put (hR.putObj_ hg hb (.miter hbm _ _ _)) (VR.tuple_ (LR.cons (.bool _) (LR.cons g1 (LR.cons g2 LR.nil))))
        · rename_i c k hm
          simp only [Option.some.injEq, Prod.mk.injEq] at h'
          obtain ⟨rfl, rfl⟩ := h'
          obtain ⟨l', hw, hmr⟩ := mp hm
          rw [hmr.unnil] at hw
          have hg2 := r_getObj (P := C.P) hw (by intro c e f h; cases h)
          have hrun : (execOp (ev σ) ⟨d, .next x false, ty, pos, after, g⟩).run C.P w = .ok (.value (.tuple ⟨[.bool false]⟩)) w := by
            simp [execOp, Instr.next, hσ, Sem.run_bind, hget, Result.andThen, hg2, Question.forced]
          rw [hrun]
          exact post_same hR (VR.tuple_ (LR.cons (.bool _) LR.nil))
        · rename_i a c k hm
          cases hlt : (Nat.beq a.born k && Nat.blt a.born last) with
          | false => rw [hlt] at h'; cases h'
          | true =>
            rw [hlt] at h'
            simp only [cond_true, Option.some.injEq, Prod.mk.injEq] at h'
            obtain ⟨rfl, rfl⟩ := h'
            simp only [Bool.and_eq_true] at hlt
            obtain ⟨l', hw, hmr⟩ := mp hm
            obtain ⟨a', rfl, g1, g2, g3⟩ := hmr.one
            have hk : a'.born = k := by rw [← g3]; exact Nat.eq_of_beq_eq_true hlt.1
            have hlt' : a'.born < last := by rw [← g3]; exact Nat.le_of_ble_eq_true hlt.2
            have hg2 := r_getObj (P := C.P) hw (by intro c e f h; cases h)
            have hrun : (execOp (ev σ) ⟨d, .next x false, ty, pos, after, g⟩).run C.P w = .ok (.value (.tuple ⟨[.bool false]⟩)) w := by
              have hnlt : ¬ last ≤ a'.born := by omega
              subst hk
              simp [execOp, Instr.next, hσ, Sem.run_bind, hget, Result.andThen, hg2, Question.forced, hnlt]
            rw [hrun]
            exact post_same hR (VR.tuple_ (LR.cons (.bool _) LR.nil))
        · cases h'
    · cases h'
  · cases h'
theorem lou_entry (hR : Rel C B w0 e st w) {x : Operand} (hx : VR e (evA s x) (ev σ x)) : Lou C B w0 callF e w σ s st ⟨d, .entry x, ty, pos, after, g⟩ (.entry x) := by
  intro v st' _ h
  have h' : iEntry st (evA s x) = some (v, st') := h
  unfold iEntry at h'
  split at h'
  · rename_i b hv
    rw [hv] at hx
    obtain ⟨xb, hb, hσ⟩ := hx.ptr_inv
    split at h'
    · rename_i m since k c hg
      obtain ⟨h0, o', ho, hor⟩ := hR.objS_ hg hb
      rw [h0] at hσ
      cases hor with
      | miter hbm =>
        rename_i xm
        have hget := r_getObj (P := C.P) ho (by intro c e f h; cases h)
        split at h'
        · rename_i a c' hm
          cases hlt : (Nat.beq c c' && Nat.beq a.born k) with
          | false => rw [hlt] at h'; cases h'
          | true =>
            rw [hlt] at h'
            simp only [cond_true, Option.some.injEq, Prod.mk.injEq] at h'
            obtain ⟨rfl, rfl⟩ := h'
            simp only [Bool.and_eq_true] at hlt
            obtain ⟨o2, ho2, hor2⟩ := hR.obj_ (map?_ok hm) hbm
            cases hor2 with
            | map _ hmr =>
              obtain ⟨a', rfl, g1, g2, g3⟩ := hmr.one
              have hc : c = c' := Nat.eq_of_beq_eq_true hlt.1
              have hk : a'.born = k := by rw [← g3]; exact Nat.eq_of_beq_eq_true hlt.2
              subst hc
              subst hk
              have hg2 := r_getObj (P := C.P) ho2 (by intro c e f h; cases h)
              have hrun : (execOp (ev σ) ⟨d, .entry x, ty, pos, after, g⟩).run C.P w = .ok (.value (.tuple ⟨[a'.key, a'.val]⟩)) w := by
                simp [execOp, Instr.entry, hσ, Sem.run_bind, hget, Result.andThen, hg2, Array.back?]
              rw [hrun]
              exact post_same hR (VR.tuple_ (LR.cons g1 (LR.cons g2 LR.nil)))
        · cases h'
    · cases h'
  · cases h'
theorem lou_invoke (hC : C.OK) (hcall : CallOK C B w0 callF) (hent : EntOK C callF) (hR : Rel C B w0 e st w) {x : Operand} {name : String} {args : List Operand} {ts : Array TypeId} (hx : VR e (evA s x) (ev σ x)) (ha : ∀ x ∈ args, VR e (evA s x) (ev σ x)) : Lou C B w0 callF e w σ s st ⟨d, .call ⟨.invoke x name, ⟨args⟩, ts⟩, ty, pos, after, g⟩ (.invoke name x args) := by
  intro v st' _ h
  have h' : iInvoke C callF s st name (evA s x) args = some (v, st') := h
  unfold iInvoke at h'
  split at h'
  · rename_i t u hv
    rw [hv] at hx
    generalize hσ : ev σ x = xv at hx
    cases hx with
    | iface _ hu =>
      rename_i u'
      split at h'
      · rename_i i el hi hund
        split at h'
        · rename_i f hm
          unfold methodA at hm
          split at hm
          · rename_i nm a2 f2 hfind
            simp only [Option.some.injEq] at hm
            subst hm
            have hi' := hC.tys _ _ hi
            have hu' := und_ok hC hund
            have hmr : ∀ k, (method (k + 1) t u' name).run C.P w = .ok (f2, u') w := by
              intro k
              have hfd : i.methods.find? (fun m => m.name == name) = some ⟨nm, a2, ⟨[]⟩, some (f2, true)⟩ := by
                rw [← hfind, ← Array.find?_toList]
              simp [method, typeInfo, program, Sem.run, hi', hfd, follow, receiverAt, Place.get, Sem.run_bind, r_und hu', Result.andThen]
            have hdep : ∃ k, C.P.types.size + Made.depth = k + 1 := ⟨C.P.types.size + 99, rfl⟩
            obtain ⟨k, hk⟩ := hdep
            have h1 : (execOp (ev σ) ⟨d, .call ⟨.invoke x name, ⟨args⟩, ts⟩, ty, pos, after, g⟩).run C.P w = (callFunc f2 ⟨u' :: args.map (ev σ)⟩).run C.P w := by
              have htk : List.take args.length (List.map (ev σ) args) = List.map (ev σ) args := List.take_of_length_le (by simp)
              simp [execOp, resolve, hσ, Sem.run_bind, Result.andThen, invoke, callMethod, program, Sem.run, hk, hmr k, htk]
            rw [h1]
            exact run_call (hent f2 _ _ _ _ h' _ _) (hcall (.fn f2) _ _ _ _ h' e w _ hR (LR.cons hu (lmap_ok ha)))
          · cases hm
        · cases h'
      · cases h'
  · cases h'
end
end Go.Proofs.YtmcbcoafodmbjaaGreatDoor.Ex
namespace Go.Proofs.YtmcbcoafodmbjaaGreatDoor.Ex
open Go Go.RowKit
set_option linter.unusedVariables false
set_option linter.unusedSimpArgs false
section
variable {C : Ctx} {B : Nat} {w0 : World} {callF : CallF} {e : Env} {st : St} {w : World} {s : Sl} {σ : Slots} {d : Option Tmp} {ty : TypeId} {pos : String} {after : Array Edge} {g : Option (Nat × Bool)}
theorem copyE_of {t u : TypeId} {x y : Operand} {k : Kont} {v : Value} {W : World} (h : (Builtin.copy_ #[t, u] ty #[ev σ x, ev σ y]).run C.P w = .ok v W) (hk : k v W) : resE C.P ((execOp (ev σ) ⟨d, .call ⟨.builtin .copy, ⟨[x, y]⟩, ⟨[t, u]⟩⟩, ty, pos, after, g⟩).run C.P w) k := by
  refine resE_ends (opR_ends C.P ⟨d, .call ⟨.builtin .copy, ⟨[x, y]⟩, ⟨[t, u]⟩⟩, ty, pos, after, g⟩ σ w) ?_
  show resE C.P (copyR C.P t u ty (ev σ x) (ev σ y) w) k
  unfold copyR
  rw [h]
  exact hk
theorem minN_eq (a b : Nat) : minN a b = Nat.min a b := by
  unfold minN
  show _ = min a b
  cases h : Nat.ble a b with
  | true => have := Nat.le_of_ble_eq_true h; simp only [cond_true]; omega
  | false =>
    have : ¬ a ≤ b := fun h2 => by rw [Nat.ble_eq_true_of_le h2] at h; cases h
    simp only [cond_false]; omega
theorem lou_copy (hC : C.OK) (hR : Rel C B w0 e st w) {t u el : TypeId} {x y : Operand} {i : TypeInfo} (ht : C.P.underlying t = some (.slice el)) (hi : C.P.info? el = some i) (hx : VR e (evA s x) (ev σ x)) (hy : VR e (evA s y) (ev σ y)) : Lou C B w0 callF e w σ s st ⟨d, .call ⟨.builtin .copy, ⟨[x, y]⟩, ⟨[t, u]⟩⟩, ty, pos, after, g⟩ (.copy i.size x y) := by
  intro v st' _ h
  have h' : iCopy st i.size (evA s x) (evA s y) = some (v, st') := h
  unfold iCopy at h'
  split at h'
  · rename_i b off n c b' off' n' c' hv hw
    rw [hv] at hx
    rw [hw] at hy
    split at h'
    · rename_i l hl
      generalize hσ : ev σ x = xv at hx
      generalize hσy : ev σ y = yv at hy
      cases hx with
      | sl hb =>
        cases hy with
        | sl hb' =>
          rename_i xb xb'
          rw [minN_eq] at hl h'
          have hl' : st.cells? b' off' (Nat.min n' n * i.size) = some l := hl
          obtain ⟨l', h1, h2, h3⟩ := hR.cells_ hl' hb'
          have hlen : l'.length = Nat.min n' n * i.size := by rw [← h2.1, h3]
          have hcells : (Builtin.firstCells i.size (Nat.min n' n) (.slice (some ⟨xb'.blk, off' + xb'.shift, none⟩) n' (c' + xb'.room))).run C.P w = .ok l'.toArray w :=
            run_firstCells_some w i.size (Nat.min n' n) _ n' _ l' hlen fun j u hj => by
              have := (readCells_at _ _ 0 l' h1).2 j u hj
              rw [Nat.add_zero] at this
              rw [add_none]; exact this
          cases hm : Nat.beq (Nat.min n' n) 0 with
          | true =>
            rw [hm] at h'
            simp only [cond_true, Option.some.injEq, Prod.mk.injEq] at h'
            obtain ⟨rfl, rfl⟩ := h'
            have hm0 := Nat.eq_of_beq_eq_true hm
            have hl0 : l' = [] := List.eq_nil_of_length_eq_zero (by rw [hlen, hm0, Nat.zero_mul])
            subst hl0
            rw [hm0] at hcells
            refine copyE_of (v := .int .i64 0) (W := w) ?_ (post_same hR (.int _ _))
            rw [hσ, hσy]
            simp [Builtin.copy_, run_underlying ht, sizeOf, typeInfo, hi, Builtin.lenOf, hm0, hcells, storeCells, goInt]
          | false =>
            rw [hm] at h'
            simp only [cond_false] at h'
            cases hst : st.store b off l with
            | none => rw [hst] at h'; cases h'
            | some st1 =>
              rw [hst] at h'
              simp only [Option.some.injEq, Prod.mk.injEq] at h'
              obtain ⟨rfl, rfl⟩ := h'
              obtain ⟨hcw, hR'⟩ := hR.store_ hst hb h2
              have hone := store_one hst
              have hst2 := run_storeSeg (P := C.P) l' 0 w hcw fun u hu => by
                obtain ⟨j, hj⟩ := List.mem_iff_getElem?.1 hu
                have hjl : j < l.length := by rw [h2.1]; exact (List.getElem?_eq_some_iff.1 hj).1
                exact one_ok (h2.2 j _ u (List.getElem?_eq_getElem hjl) hj) (hone _ (List.getElem_mem hjl))
              refine copyE_of (v := .int .i64 (Nat.min n' n : Nat)) (W := storeSeg w ⟨xb.blk, off + xb.shift, none⟩ 0 l') ?_ ?_
              · rw [hσ, hσy]
                simp [Builtin.copy_, run_underlying ht, sizeOf, typeInfo, hi, Builtin.lenOf, hcells, hst2, goInt]
              · obtain ⟨l2, t2, k2, _, _, _, rfl⟩ := store_spec hst
                exact post_put hR' (.int _ _)
    · cases h'
  · rename_i A n c c' hv hw
    simp only [Option.some.injEq, Prod.mk.injEq] at h'
    obtain ⟨rfl, rfl⟩ := h'
    rw [hv] at hx
    rw [hw] at hy
    have hxs : ∃ A' n' c', ev σ x = .slice A' n' c' := by
      generalize ev σ x = xv at hx
      cases hx <;> exact ⟨_, _, _, rfl⟩
    obtain ⟨A', n', c2, hσ⟩ := hxs
    generalize hσy : ev σ y = yv at hy
    cases hy
    refine copyE_of (v := .int .i64 0) (W := w) ?_ (post_same hR (.int _ _))
    rw [hσ, hσy]
    have : Nat.min 0 n' = 0 := Nat.zero_min n'
    cases A' <;> simp [Builtin.copy_, run_underlying ht, sizeOf, typeInfo, hi, Builtin.lenOf, this, storeCells, goInt, run_firstCells_none]
  · cases h'
theorem lou_rangeS (hR : Rel C B w0 e st w) {t : TypeId} {x : Operand} (ht : C.P.underlying t = some .string) (hx : VR e (evA s x) (ev σ x)) : Lou C B w0 callF e w σ s st ⟨d, .range t x, ty, pos, after, g⟩ (.rangeS x) := by
  intro v st' _ h
  have h' : iRangeS st (evA s x) = some (v, st') := h
  unfold iRangeS at h'
  split at h'
  · rename_i str hv
    simp only [Option.some.injEq, Prod.mk.injEq] at h'
    obtain ⟨rfl, rfl⟩ := h'
    rw [hv] at hx
    have hrun : (execOp (ev σ) ⟨d, .range t x, ty, pos, after, g⟩).run C.P w = .ok (.value (.pointer (some ⟨w.heap.size, 0, none⟩))) (w.alloc (.stringIter str 0)) := by
      simp [execOp, Instr.range, hx.str_inv, Sem.run_bind, r_und ht, Result.andThen]
    rw [hrun]
    refine ⟨_, Fol.new_ hR _ _, hR.new_ (.obj (.stringIter str 0)) (.stringIter str 0) 0 0 (.obj rfl (.siter _ _)), ?_⟩
    have := VR.ptr (o := 0) (upd_self e st.next ⟨w.heap.size, 0, 0⟩)
    exact this
  · cases h'
theorem lou_nextS (hR : Rel C B w0 e st w) {x : Operand} (hx : VR e (evA s x) (ev σ x)) : Lou C B w0 callF e w σ s st ⟨d, .next x true, ty, pos, after, g⟩ (.nextS x) := by
  intro v st' _ h
  have h' : iNextS st (evA s x) = some (v, st') := h
  unfold iNextS at h'
  split at h'
  · rename_i b hv
    rw [hv] at hx
    obtain ⟨xb, hb, hσ⟩ := hx.ptr_inv
    split at h'
    · rename_i str p hg
      obtain ⟨h0, o', ho, hor⟩ := hR.objS_ hg hb
      rw [h0] at hσ
      cases hor with
      | siter =>
        have hget := r_getObj (P := C.P) ho (by intro c e f h; cases h)
        have hset : ∀ o2, (setObj xb.blk o2).run C.P w = .ok () (w.putObj xb.blk o2) := fun o2 => r_setObj ho (by intro c e f h; cases h)
        cases hb2 : Nat.blt p str.size with
        | true =>
          rw [hb2] at h'
          simp only [cond_true, Option.some.injEq, Prod.mk.injEq] at h'
          obtain ⟨rfl, rfl⟩ := h'
          have hlt : p < str.size := Nat.le_of_ble_eq_true hb2
          have hrun : (execOp (ev σ) ⟨d, .next x true, ty, pos, after, g⟩).run C.P w = .ok (.value (.tuple ⟨[.bool true, .int .i64 (.ofNat p), .int .i32 (.ofNat (Utf8.decode str p).1)]⟩)) (w.putObj xb.blk (.stringIter str (p + (Utf8.decode str p).2))) := by
            simp only [execOp, Instr.next, hσ, Nat.add_zero, Sem.run_bind, hget, Result.andThen_ok, hlt, if_true, hset, Sem.run_pure]
            rfl
          rw [hrun]
          refine post_put (hR.putObj_ hg hb (.siter _ _)) (VR.tuple_ (LR.cons (.bool _) (LR.cons (.int _ _) (LR.cons (.int _ _) LR.nil))))
        | false =>
          rw [hb2] at h'
          simp only [cond_false, Option.some.injEq, Prod.mk.injEq] at h'
          obtain ⟨rfl, rfl⟩ := h'
          have hlt : ¬ p < str.size := fun h2 => by
            have : Nat.blt p str.size = true := Nat.ble_eq_true_of_le h2
            rw [hb2] at this; cases this
          have hrun : (execOp (ev σ) ⟨d, .next x true, ty, pos, after, g⟩).run C.P w = .ok (.value (.tuple ⟨[.bool false]⟩)) w := by
            simp only [execOp, Instr.next, hσ, Nat.add_zero, Sem.run_bind, hget, Result.andThen_ok, hlt, if_false, Sem.run_pure]
          rw [hrun]
          exact post_same hR (VR.tuple_ (LR.cons (.bool _) LR.nil))
    · cases h'
  · cases h'
/-! ## Put together -/
theorem freeze_other (w : World) (a : Addr) (n k : Nat) (h : k ≠ a.block) : (w.freeze a n).heap[k]? = w.heap[k]? := by
  unfold World.freeze
  split
  · rfl
  · simp [Array.getElem?_modify, Ne.symm h]
theorem freeze_self (w : World) (a : Addr) (n : Nat) {l : Array Value} {t : TypeId} {fr : Nat × Nat} (h : w.heap[a.block]? = some (.cells l t fr)) : ∃ fr', (w.freeze a n).heap[a.block]? = some (.cells l t fr') := by
  unfold World.freeze
  split
  · exact ⟨_, h⟩
  · obtain ⟨lo, hi⟩ := fr
    exact ⟨_, by simp [Array.getElem?_modify, h]; rfl⟩
theorem lou_toS (hR : Rel C B w0 e st w) {t u : TypeId} {x : Operand} (ht : C.P.underlying t = some (.slice u)) (hu : C.P.underlying u = some (.int .u8)) (hx : VR e (evA s x) (ev σ x)) :
    Lou C B w0 callF e w σ s st ⟨d, .convert t t x, ty, pos, after, g⟩ (.toS x) := by
  intro v st' _ h
  have h' : iToS st (evA s x) = some (v, st') := h
  unfold iToS at h'
  split at h'
  · rename_i b off n c hv
    split at h'
    · rename_i l t' hg
      simp only [Option.some.injEq, Prod.mk.injEq] at h'
      obtain ⟨rfl, rfl⟩ := h'
      rw [hv] at hx
      generalize hσ : ev σ x = xv at hx
      cases hx with
      | sl hb =>
        rename_i xb
        obtain ⟨l', fr, hw, h1, h2, h3, h4⟩ := hR.at_ hg hb
        have hsh : w.shape? xb.blk = some (t', l'.length) := by simp [World.shape?, hw]
        have hrun : (execOp (ev σ) ⟨d, .convert t t x, ty, pos, after, g⟩).run C.P w = .ok (.value (.slice (some ⟨xb.blk, off + xb.shift, none⟩) n (c + xb.room))) (w.freeze ⟨xb.blk, l'.length, none⟩ 1) := by
          simp [execOp, hσ, convert, Sem.run_bind, r_und ht, r_und hu, markStringish, hsh, Result.andThen]
        rw [hrun]
        refine post_put (hR.turn hg rfl rfl hb ?_ ?_ ?_ ?_ (fun k hk => freeze_other _ _ _ _ hk) ?_) (VR.sl hb)
        · unfold World.freeze; split <;> rfl
        · unfold World.freeze; split <;> rfl
        · unfold World.freeze; split <;> rfl
        · unfold World.freeze; split <;> simp
        · obtain ⟨fr', hf⟩ := freeze_self w ⟨xb.blk, l'.length, none⟩ 1 hw
          have hf' : (w.freeze ⟨xb.blk, l'.length, none⟩ 1).heap[xb.blk]? = some (.cells ⟨l'⟩ t' fr') := hf
          rw [hf']
          exact .cells (fun _ => h3 rfl) h1 (fun hk => by cases hk) (fun hk => by cases hk)
    · cases h'
  · cases h'
theorem lou_conv (hC : C.OK) (hR : Rel C B w0 e st w) {a b : TypeId} {x : Operand} (hx : VR e (evA s x) (ev σ x)) : Lou C B w0 callF e w σ s st ⟨d, .convert a b x, ty, pos, after, g⟩ (cConv C a b x) := by
  unfold cConv
  split
  · split <;> exact lou_not rfl
  · rename_i el hb
    split
    · split
      · rename_i h1 h2
        have hab := Nat.eq_of_beq_eq_true h1
        subst hab
        exact lou_toS hR (und_ok hC hb) (und_ok hC h2) hx
      · exact lou_not rfl
    · exact lou_not rfl
  · split
    · split <;> exact lou_not rfl
    · exact lou_not rfl
  · exact lou_not rfl
theorem lou_call (hC : C.OK) (hcall : CallOK C B w0 callF) (hent : EntOK C callF) (hR : Rel C B w0 e st w) {c : Call} (hO : ∀ z ∈ (Op.call c).operands.toList, VR e (evA s z) (ev σ z)) : Lou C B w0 callF e w σ s st ⟨d, .call c, ty, pos, after, g⟩ (cCall C c) := by
  unfold cCall
  split
  · rename_i f args ts
    exact lou_callf hcall hent hR fun x hx => hO x (by simp [Op.operands, Call.operands, hx])
  · rename_i x args ts _
    exact lou_callv hcall hent hR (hO x (by simp [Op.operands, Call.operands])) fun y hy => hO y (by simp [Op.operands, Call.operands, hy])
  · rename_i x name args ts
    exact lou_invoke hC hcall hent hR (hO x (by simp [Op.operands, Call.operands])) fun y hy => hO y (by simp [Op.operands, Call.operands, hy])
  · unfold cLen; split <;> exact lou_not rfl
  · rename_i x y t u
    exact lou_append hC hR (hO x (by simp [Op.operands, Call.operands])) (hO y (by simp [Op.operands, Call.operands]))
  · exact lou_not rfl
  · exact lou_not rfl
  · rename_i x y t u
    unfold cCopy
    split
    · rename_i el hu
      split
      · rename_i i hi
        exact lou_copy hC hR (und_ok hC hu) (hC.tys _ _ hi) (hO x (by simp [Op.operands, Call.operands])) (hO y (by simp [Op.operands, Call.operands]))
      · exact lou_not rfl
    · exact lou_not rfl
  · rename_i x y t u
    unfold cMap
    split
    · rename_i kt el hu
      split
      · rename_i kk a1 a2 a3 a4 a5 a6 a7 z a8 a9 hk hi
        cases nf z
        · exact lou_not rfl
        · exact lou_mapDel hR (und_ok hC hu) (keyK_ok hC hk) (hO x (by simp [Op.operands, Call.operands])) (hO y (by simp [Op.operands, Call.operands]))
      · exact lou_not rfl
    · exact lou_not rfl
  · unfold cCap; split <;> exact lou_not rfl
  · rename_i x t
    unfold cClear
    split
    · rename_i el hu
      split
      · rename_i a1 a2 a3 a4 a5 a6 a7 z a8 a9 hi
        cases hb : lall nf z.cells.toList
        · exact lou_not rfl
        · exact lou_clear hR (und_ok hC hu) (hC.tys _ _ hi) rfl hb (hO x (by simp [Op.operands, Call.operands]))
      · exact lou_not rfl
    · exact lou_not rfl
  all_goals exact lou_not rfl
theorem lou_put (hC : C.OK) (hR : Rel C B w0 e st w) {t : TypeId} {m k x : Operand} (hx : VR e (evA s m) (ev σ m)) (hy : VR e (evA s k) (ev σ k)) (hz : VR e (evA s x) (ev σ x)) :
    Lou C B w0 callF e w σ s st ⟨d, .mapUpdate t m k x, ty, pos, after, g⟩ (cMap C t (fun kk _ => .mapPut kk m k x) .loud) ∧ Lou C B w0 callF e w σ s st ⟨d, .insert t m k x, ty, pos, after, g⟩ (cMap C t (fun kk _ => .mapPut kk m k x) .loud) := by
  unfold cMap
  split
  · rename_i kt el hu
    split
    · rename_i kk a1 a2 a3 a4 a5 a6 a7 z a8 a9 hk hi
      cases nf z
      · exact ⟨lou_not rfl, lou_not rfl⟩
      · exact lou_mapPut hR (und_ok hC hu) (keyK_ok hC hk) hx hy hz
    · exact ⟨lou_not rfl, lou_not rfl⟩
  · exact ⟨lou_not rfl, lou_not rfl⟩
theorem lou_ent (hC : C.OK) (hR : Rel C B w0 e st w) {t : TypeId} {m k : Operand} (hx : VR e (evA s m) (ev σ m)) (hy : VR e (evA s k) (ev σ k)) :
    Lou C B w0 callF e w σ s st ⟨d, .mapEntry t m k, ty, pos, after, g⟩ (cMap C t (fun kk z => .mapEnt kk z m k) .loud) := by
  unfold cMap
  split
  · rename_i kt el hu
    split
    · rename_i kk a1 a2 a3 a4 a5 a6 a7 z a8 a9 hk hi
      cases hz : nf z
      · exact lou_not rfl
      · exact lou_mapEnt hR (und_ok hC hu) (keyK_ok hC hk) (hC.tys _ _ hi) rfl (fun e' => nf_self hz) hx hy
    · exact lou_not rfl
  · exact lou_not rfl
theorem loud_ok (hC : C.OK) (hcall : CallOK C B w0 callF) (hent : EntOK C callF) (hR : Rel C B w0 e st w) {o : Oper} (hO : ∀ x ∈ o.op.operands.toList, VR e (evA s x) (ev σ x)) : Lou C B w0 callF e w σ s st o (comp C o.op) := by
  obtain ⟨d, op, ty, pos, after, g⟩ := o
  cases op
  case store t x y => exact lou_store hC hR (hO x (by simp [Op.operands])) (hO y (by simp [Op.operands]))
  case call c => exact lou_call hC hcall hent hR hO
  case mapUpdate t m k x => exact (lou_put hC hR (hO m (by simp [Op.operands])) (hO k (by simp [Op.operands])) (hO x (by simp [Op.operands]))).1
  case insert t m k x => exact (lou_put hC hR (hO m (by simp [Op.operands])) (hO k (by simp [Op.operands])) (hO x (by simp [Op.operands]))).2
  case mapEntry t m k => exact lou_ent hC hR (hO m (by simp [Op.operands])) (hO k (by simp [Op.operands]))
  case range t x =>
    show Lou C B w0 callF e w σ s st _ (cRange C t x)
    unfold cRange
    split
    · rename_i hu; exact lou_rangeS hR (und_ok hC hu) (hO x (by simp [Op.operands]))
    · rename_i hu; exact lou_rangeM hR (und_ok hC hu) (hO x (by simp [Op.operands]))
    · exact lou_not rfl
  case next x b =>
    cases b
    · exact lou_nextM hR (hO x (by simp [Op.operands]))
    · exact lou_nextS hR (hO x (by simp [Op.operands]))
  case convert a b x => exact lou_conv hC hR (hO x (by simp [Op.operands]))
  case binOp => exact lou_not (both_s (both_bin _ _ _ _))
  case build => exact lou_not (both_s (both_build _ _))
  case field => exact lou_not (both_s (both_field _ _ _))
  case slice => exact lou_not (both_s (both_slice _ _ _ _ _))
  case makeInterface => exact lou_not (both_s (both_iface _ _))
  case typeAssert => exact lou_not (both_s (both_assert _ _ _))
  case load => exact lou_not (both_s (both_load _ _))
  case fieldAddr => exact lou_not (both_s (both_fieldAddr _ _ _))
  case indexAddr => exact lou_not (both_s (both_idx _ _ _))
  case sliceToArrayPointer => exact lou_not (both_s (both_arr _ _))
  case makeFunc => exact lou_not (both_s (both_func _ _ _))
  case lookup => exact lou_not (both_s (both_look _ _ _ _))
  case unOp op t x => cases op <;> exact lou_not rfl
  case alloc t =>
    show Lou C B w0 callF e w σ s st _ (cAlloc C t)
    unfold cAlloc
    split
    · cases lall nf _ <;> exact lou_not rfl
    · exact lou_not rfl
  case entry x => exact lou_entry hR (hO x (by simp [Op.operands]))
  case entryStore t m k x => exact lou_mapSto hR (hO m (by simp [Op.operands])) (hO k (by simp [Op.operands])) (hO x (by simp [Op.operands]))
  all_goals exact lou_not rfl
theorem ops_ok (hC : C.OK) (hcall : CallOK C B w0 callF) (hent : EntOK C callF) : OpsOK C B w0 callF where
  still o s σ st e w v hc h hR hO := still_all hC o s σ st e w v hR.glob hc h hR hO
  alloc o s σ e c mk hc h hO := alloc_all hC o c mk hc h hO
  loud o s σ st st' e w v hc h hR hO := by
    by_cases h0 : compK C o.op = .other .loud
    · rw [h0] at h; cases h
    · obtain ⟨h1, h2⟩ := compK_inv (op := o.op) rfl h0
      rw [← h2] at hc h
      exact loud_ok hC hcall hent hR (fun x hx => hO x hx (h1 x hx)) v st' hc h
end
end Go.Proofs.YtmcbcoafodmbjaaGreatDoor.Ex
