/-
  Texts joined: ExB.
-/
import Derived.Test.YtjjopoigbonjbaaGreatDoorJoin17
namespace Go.Proofs.YtjjopoigbonjbaaGreatDoor.Ex
open Go Go.RowKit
set_option linter.unusedVariables false
set_option linter.unusedSimpArgs false
section
variable {C : Ctx} {B : Nat} {w0 : World} {callF : CallF} {e : Env} {st : St} {w : World} {s : Sl} {σ : Slots} {d : Option Tmp} {ty : TypeId} {pos : String} {after : Array Edge} {g : Option (Nat × Bool)}
theorem copyE_of {t u : TypeId} {x y : Operand} {k : Kont} {v : Value} {W : World} (h : (Builtin.copy_ #[t, u] ty #[ev σ x, ev σ y]).run C.P w = .ok v W) (hk : k v W) : resE C.P ((execOp (ev σ) ⟨d, .call ⟨.builtin .copy, ⟨[x, y]⟩, ⟨[t, u]⟩⟩, ty, pos, after, g⟩).run C.P w) k := by
  refine resE_ends (opR_ends C.P ⟨d, .call ⟨.builtin .copy, ⟨[x, y]⟩, ⟨[t, u]⟩⟩, ty, pos, after, g⟩ σ w) ?_
  show resE C.P (copyR C.P t u ty (ev σ x) (ev σ y) w) k
  unfold copyR
  rw [h]
  exact hk
theorem minN_eq (a b : Nat) : minN a b = Nat.min a b := by
  unfold minN
  show _ = min a b
  cases h : Nat.ble a b with
  | true => have := Nat.le_of_ble_eq_true h; simp only [cond_true]; omega
  | false =>
    have : ¬ a ≤ b := fun h2 => by rw [Nat.ble_eq_true_of_le h2] at h; cases h
    simp only [cond_false]; omega
theorem lou_copy (hC : C.OK) (hR : Rel C B w0 e st w) {t u el : TypeId} {x y : Operand} {i : TypeInfo} (ht : C.P.underlying t = some (.slice el)) (hi : C.P.info? el = some i) (hx : VR e (evA s x) (ev σ x)) (hy : VR e (evA s y) (ev σ y)) : Lou C B w0 callF e w σ s st ⟨d, .call ⟨.builtin .copy, ⟨[x, y]⟩, ⟨[t, u]⟩⟩, ty, pos, after, g⟩ (.copy i.size x y) := by
  intro v st' _ h
  have h' : iCopy st i.size (evA s x) (evA s y) = some (v, st') := h
  unfold iCopy at h'
  split at h'
  · rename_i b off n c b' off' n' c' hv hw
    rw [hv] at hx
    rw [hw] at hy
    split at h'
    · rename_i l hl
      generalize hσ : ev σ x = xv at hx
      generalize hσy : ev σ y = yv at hy
      cases hx with
      | sl hb =>
        cases hy with
        | sl hb' =>
          rename_i xb xb'
          rw [minN_eq] at hl h'
          have hl' : st.cells? b' off' (Nat.min n' n * i.size) = some l := hl
          obtain ⟨l', h1, h2, h3⟩ := hR.cells_ hl' hb'
          have hlen : l'.length = Nat.min n' n * i.size := by rw [← h2.1, h3]
          have hcells : (Builtin.firstCells i.size (Nat.min n' n) (.slice (some ⟨xb'.blk, off' + xb'.shift, none⟩) n' (c' + xb'.room))).run C.P w = .ok l'.toArray w :=
            run_firstCells_some w i.size (Nat.min n' n) _ n' _ l' hlen fun j u hj => by
              have := (readCells_at _ _ 0 l' h1).2 j u hj
              rw [Nat.add_zero] at this
              rw [add_none]; exact this
          cases hm : Nat.beq (Nat.min n' n) 0 with
          | true =>
            rw [hm] at h'
            simp only [cond_true, Option.some.injEq, Prod.mk.injEq] at h'
            obtain ⟨rfl, rfl⟩ := h'
            have hm0 := Nat.eq_of_beq_eq_true hm
            have hl0 : l' = [] := List.eq_nil_of_length_eq_zero (by rw [hlen, hm0, Nat.zero_mul])
            subst hl0
            rw [hm0] at hcells
            refine copyE_of (v := .int .i64 0) (W := w) ?_ (post_same hR (.int _ _))
            rw [hσ, hσy]
            simp [Builtin.copy_, run_underlying ht, sizeOf, typeInfo, hi, Builtin.lenOf, hm0, hcells, storeCells, goInt]
          | false =>
            rw [hm] at h'
            simp only [cond_false] at h'
            cases hst : st.store b off l with
            | none => rw [hst] at h'; cases h'
            | some st1 =>
              rw [hst] at h'
              simp only [Option.some.injEq, Prod.mk.injEq] at h'
              obtain ⟨rfl, rfl⟩ := h'
              obtain ⟨hcw, hR'⟩ := hR.store_ hst hb h2
              have hone := store_one hst
              have hst2 := run_storeSeg (P := C.P) l' 0 w hcw fun u hu => by
                obtain ⟨j, hj⟩ := List.mem_iff_getElem?.1 hu
                have hjl : j < l.length := by rw [h2.1]; exact (List.getElem?_eq_some_iff.1 hj).1
                exact one_ok (h2.2 j _ u (List.getElem?_eq_getElem hjl) hj) (hone _ (List.getElem_mem hjl))
              refine copyE_of (v := .int .i64 (Nat.min n' n : Nat)) (W := storeSeg w ⟨xb.blk, off + xb.shift, none⟩ 0 l') ?_ ?_
              · rw [hσ, hσy]
                simp [Builtin.copy_, run_underlying ht, sizeOf, typeInfo, hi, Builtin.lenOf, hcells, hst2, goInt]
              · obtain ⟨l2, t2, k2, _, _, _, rfl⟩ := store_spec hst
                exact post_put hR' (.int _ _)
    · cases h'
  · rename_i A n c c' hv hw
    simp only [Option.some.injEq, Prod.mk.injEq] at h'
    obtain ⟨rfl, rfl⟩ := h'
    rw [hv] at hx
    rw [hw] at hy
    have hxs : ∃ A' n' c', ev σ x = .slice A' n' c' := by
      generalize ev σ x = xv at hx
      cases hx <;> exact ⟨_, _, _, rfl⟩
    obtain ⟨A', n', c2, hσ⟩ := hxs
    generalize hσy : ev σ y = yv at hy
    cases hy
    refine copyE_of (v := .int .i64 0) (W := w) ?_ (post_same hR (.int _ _))
    rw [hσ, hσy]
    have : Nat.min 0 n' = 0 := Nat.zero_min n'
    cases A' <;> simp [Builtin.copy_, run_underlying ht, sizeOf, typeInfo, hi, Builtin.lenOf, this, storeCells, goInt, run_firstCells_none]
  · cases h'
theorem lou_rangeS (hR : Rel C B w0 e st w) {t : TypeId} {x : Operand} (ht : C.P.underlying t = some .string) (hx : VR e (evA s x) (ev σ x)) : Lou C B w0 callF e w σ s st ⟨d, .range t x, ty, pos, after, g⟩ (.rangeS x) := by
  intro v st' _ h
  have h' : iRangeS st (evA s x) = some (v, st') := h
  unfold iRangeS at h'
  split at h'
  · rename_i str hv
    simp only [Option.some.injEq, Prod.mk.injEq] at h'
    obtain ⟨rfl, rfl⟩ := h'
    rw [hv] at hx
    have hrun : (execOp (ev σ) ⟨d, .range t x, ty, pos, after, g⟩).run C.P w = .ok (.value (.pointer (some ⟨w.heap.size, 0, none⟩))) (w.alloc (.stringIter str 0)) := by
      simp [execOp, Instr.range, hx.str_inv, Sem.run_bind, r_und ht, Result.andThen]
    rw [hrun]
    refine ⟨_, Fol.new_ hR _ _, hR.new_ (.obj (.stringIter str 0)) (.stringIter str 0) 0 0 (.obj rfl (.siter _ _)), ?_⟩
    have := VR.ptr (o := 0) (upd_self e st.next ⟨w.heap.size, 0, 0⟩)
    exact this
  · cases h'
theorem lou_nextS (hR : Rel C B w0 e st w) {x : Operand} (hx : VR e (evA s x) (ev σ x)) : Lou C B w0 callF e w σ s st ⟨d, .next x true, ty, pos, after, g⟩ (.nextS x) := by
  intro v st' _ h
  have h' : iNextS st (evA s x) = some (v, st') := h
  unfold iNextS at h'
  split at h'
  · rename_i b hv
    rw [hv] at hx
    obtain ⟨xb, hb, hσ⟩ := hx.ptr_inv
    split at h'
    · rename_i str p hg
      obtain ⟨h0, o', ho, hor⟩ := hR.objS_ hg hb
      rw [h0] at hσ
      cases hor with
      | siter =>
        have hget := r_getObj (P := C.P) ho (by intro c e f h; cases h)
        have hset : ∀ o2, (setObj xb.blk o2).run C.P w = .ok () (w.putObj xb.blk o2) := fun o2 => r_setObj ho (by intro c e f h; cases h)
        cases hb2 : Nat.blt p str.size with
        | true =>
          rw [hb2] at h'
          simp only [cond_true, Option.some.injEq, Prod.mk.injEq] at h'
          obtain ⟨rfl, rfl⟩ := h'
          have hlt : p < str.size := Nat.le_of_ble_eq_true hb2
          have hrun : (execOp (ev σ) ⟨d, .next x true, ty, pos, after, g⟩).run C.P w = .ok (.value (.tuple ⟨[.bool true, .int .i64 (.ofNat p), .int .i32 (.ofNat (Utf8.decode str p).1)]⟩)) (w.putObj xb.blk (.stringIter str (p + (Utf8.decode str p).2))) := by
            simp only [execOp, Instr.next, hσ, Nat.add_zero, Sem.run_bind, hget, Result.andThen_ok, hlt, if_true, hset, Sem.run_pure]
            rfl
          rw [hrun]
          refine post_put (hR.putObj_ hg hb (.siter _ _)) (VR.tuple_ (LR.cons (.bool _) (LR.cons (.int _ _) (LR.cons (.int _ _) LR.nil))))
        | false =>
          rw [hb2] at h'
          simp only [cond_false, Option.some.injEq, Prod.mk.injEq] at h'
          obtain ⟨rfl, rfl⟩ := h'
          have hlt : ¬ p < str.size := fun h2 => by
            have : Nat.blt p str.size = true := Nat.ble_eq_true_of_le h2
            rw [hb2] at this; cases this
          have hrun : (execOp (ev σ) ⟨d, .next x true, ty, pos, after, g⟩).run C.P w = .ok (.value (.tuple ⟨[.bool false]⟩)) w := by
            simp only [execOp, Instr.next, hσ, Nat.add_zero, Sem.run_bind, hget, Result.andThen_ok, hlt, if_false, Sem.run_pure]
          rw [hrun]
          exact post_same hR (VR.tuple_ (LR.cons (.bool _) LR.nil))
    · cases h'
  · cases h'
/-! ## Put together -/
theorem freeze_other (w : World) (a : Addr) (n k : Nat) (h : k ≠ a.block) : (w.freeze a n).heap[k]? = w.heap[k]? := by
  unfold World.freeze
  split
  · rfl
  · simp [Array.getElem?_modify, Ne.symm h]
theorem freeze_self (w : World) (a : Addr) (n : Nat) {l : Array Value} {t : TypeId} {fr : Nat × Nat} (h : w.heap[a.block]? = some (.cells l t fr)) : ∃ fr', (w.freeze a n).heap[a.block]? = some (.cells l t fr') := by
  unfold World.freeze
  split
  · exact ⟨_, h⟩
  · obtain ⟨lo, hi⟩ := fr
    exact ⟨_, by simp [Array.getElem?_modify, h]; rfl⟩
theorem lou_toS (hR : Rel C B w0 e st w) {t u : TypeId} {x : Operand} (ht : C.P.underlying t = some (.slice u)) (hu : C.P.underlying u = some (.int .u8)) (hx : VR e (evA s x) (ev σ x)) :
    Lou C B w0 callF e w σ s st ⟨d, .convert t t x, ty, pos, after, g⟩ (.toS x) := by
  intro v st' _ h
  have h' : iToS st (evA s x) = some (v, st') := h
  unfold iToS at h'
  split at h'
  · rename_i b off n c hv
    split at h'
    · rename_i l t' hg
      simp only [Option.some.injEq, Prod.mk.injEq] at h'
      obtain ⟨rfl, rfl⟩ := h'
      rw [hv] at hx
      generalize hσ : ev σ x = xv at hx
      cases hx with
      | sl hb =>
        rename_i xb
        obtain ⟨l', fr, hw, h1, h2, h3, h4⟩ := hR.at_ hg hb
        have hsh : w.shape? xb.blk = some (t', l'.length) := by simp [World.shape?, hw]
        have hrun : (execOp (ev σ) ⟨d, .convert t t x, ty, pos, after, g⟩).run C.P w = .ok (.value (.slice (some ⟨xb.blk, off + xb.shift, none⟩) n (c + xb.room))) (w.freeze ⟨xb.blk, l'.length, none⟩ 1) := by
          simp [execOp, hσ, convert, Sem.run_bind, r_und ht, r_und hu, markStringish, hsh, Result.andThen]
        rw [hrun]
        refine post_put (hR.turn hg rfl rfl hb ?_ ?_ ?_ ?_ (fun k hk => freeze_other _ _ _ _ hk) ?_) (VR.sl hb)
        · unfold World.freeze; split <;> rfl
        · unfold World.freeze; split <;> rfl
        · unfold World.freeze; split <;> rfl
        · unfold World.freeze; split <;> simp
        · obtain ⟨fr', hf⟩ := freeze_self w ⟨xb.blk, l'.length, none⟩ 1 hw
          have hf' : (w.freeze ⟨xb.blk, l'.length, none⟩ 1).heap[xb.blk]? = some (.cells ⟨l'⟩ t' fr') := hf
          rw [hf']
          exact .cells (fun _ => h3 rfl) h1 (fun hk => by cases hk) (fun hk => by cases hk)
    · cases h'
  · cases h'
theorem lou_conv (hC : C.OK) (hR : Rel C B w0 e st w) {a b : TypeId} {x : Operand} (hx : VR e (evA s x) (ev σ x)) : Lou C B w0 callF e w σ s st ⟨d, .convert a b x, ty, pos, after, g⟩ (cConv C a b x) := by
  unfold cConv
  split
  · split <;> exact lou_not rfl
  · rename_i el hb
    split
    · split
      · rename_i h1 h2
        have hab := Nat.eq_of_beq_eq_true h1
        subst hab
        exact lou_toS hR (und_ok hC hb) (und_ok hC h2) hx
      · exact lou_not rfl
    · exact lou_not rfl
  · split
    · split <;> exact lou_not rfl
    · exact lou_not rfl
  · exact lou_not rfl
theorem lou_call (hC : C.OK) (hcall : CallOK C B w0 callF) (hent : EntOK C callF) (hR : Rel C B w0 e st w) {c : Call} (hO : ∀ z ∈ (Op.call c).operands.toList, VR e (evA s z) (ev σ z)) : Lou C B w0 callF e w σ s st ⟨d, .call c, ty, pos, after, g⟩ (cCall C c) := by
  unfold cCall
  split
  · rename_i f args ts
    exact lou_callf hcall hent hR fun x hx => hO x (by simp [Op.operands, Call.operands, hx])
  · rename_i x args ts _
    exact lou_callv hcall hent hR (hO x (by simp [Op.operands, Call.operands])) fun y hy => hO y (by simp [Op.operands, Call.operands, hy])
  · rename_i x name args ts
    exact lou_invoke hC hcall hent hR (hO x (by simp [Op.operands, Call.operands])) fun y hy => hO y (by simp [Op.operands, Call.operands, hy])
  · unfold cLen; split <;> exact lou_not rfl
  · rename_i x y t u
    exact lou_append hC hR (hO x (by simp [Op.operands, Call.operands])) (hO y (by simp [Op.operands, Call.operands]))
  · exact lou_not rfl
  · exact lou_not rfl
  · rename_i x y t u
    unfold cCopy
    split
    · rename_i el hu
      split
      · rename_i i hi
        exact lou_copy hC hR (und_ok hC hu) (hC.tys _ _ hi) (hO x (by simp [Op.operands, Call.operands])) (hO y (by simp [Op.operands, Call.operands]))
      · exact lou_not rfl
    · exact lou_not rfl
  · rename_i x y t u
    unfold cMap
    split
    · rename_i kt el hu
      split
      · rename_i kk a1 a2 a3 a4 a5 a6 a7 z a8 a9 hk hi
        cases nf z
        · exact lou_not rfl
        · exact lou_mapDel hR (und_ok hC hu) (keyK_ok hC hk) (hO x (by simp [Op.operands, Call.operands])) (hO y (by simp [Op.operands, Call.operands]))
      · exact lou_not rfl
    · exact lou_not rfl
  · unfold cCap; split <;> exact lou_not rfl
  · rename_i x t
    unfold cClear
    split
    · rename_i el hu
      split
      · rename_i a1 a2 a3 a4 a5 a6 a7 z a8 a9 hi
        cases hb : lall nf z.cells.toList
        · exact lou_not rfl
        · exact lou_clear hR (und_ok hC hu) (hC.tys _ _ hi) rfl hb (hO x (by simp [Op.operands, Call.operands]))
      · exact lou_not rfl
    · exact lou_not rfl
  all_goals exact lou_not rfl
theorem lou_put (hC : C.OK) (hR : Rel C B w0 e st w) {t : TypeId} {m k x : Operand} (hx : VR e (evA s m) (ev σ m)) (hy : VR e (evA s k) (ev σ k)) (hz : VR e (evA s x) (ev σ x)) :
    Lou C B w0 callF e w σ s st ⟨d, .mapUpdate t m k x, ty, pos, after, g⟩ (cMap C t (fun kk _ => .mapPut kk m k x) .loud) ∧ Lou C B w0 callF e w σ s st ⟨d, .insert t m k x, ty, pos, after, g⟩ (cMap C t (fun kk _ => .mapPut kk m k x) .loud) := by
  unfold cMap
  split
  · rename_i kt el hu
    split
    · rename_i kk a1 a2 a3 a4 a5 a6 a7 z a8 a9 hk hi
      cases nf z
      · exact ⟨lou_not rfl, lou_not rfl⟩
      · exact lou_mapPut hR (und_ok hC hu) (keyK_ok hC hk) hx hy hz
    · exact ⟨lou_not rfl, lou_not rfl⟩
  · exact ⟨lou_not rfl, lou_not rfl⟩
theorem lou_ent (hC : C.OK) (hR : Rel C B w0 e st w) {t : TypeId} {m k : Operand} (hx : VR e (evA s m) (ev σ m)) (hy : VR e (evA s k) (ev σ k)) :
    Lou C B w0 callF e w σ s st ⟨d, .mapEntry t m k, ty, pos, after, g⟩ (cMap C t (fun kk z => .mapEnt kk z m k) .loud) := by
  unfold cMap
  split
  · rename_i kt el hu
    split
    · rename_i kk a1 a2 a3 a4 a5 a6 a7 z a8 a9 hk hi
      cases hz : nf z
      · exact lou_not rfl
      · exact lou_mapEnt hR (und_ok hC hu) (keyK_ok hC hk) (hC.tys _ _ hi) rfl (fun e' => nf_self hz) hx hy
    · exact lou_not rfl
  · exact lou_not rfl
/-- Every operation that turns something. -/
theorem loud_ok (hC : C.OK) (hcall : CallOK C B w0 callF) (hent : EntOK C callF) (hR : Rel C B w0 e st w) {o : Oper} (hO : ∀ x ∈ o.op.operands.toList, VR e (evA s x) (ev σ x)) : Lou C B w0 callF e w σ s st o (comp C o.op) := by
  obtain ⟨d, op, ty, pos, after, g⟩ := o
  cases op
  case store t x y => exact lou_store hC hR (hO x (by simp [Op.operands])) (hO y (by simp [Op.operands]))
  case call c => exact lou_call hC hcall hent hR hO
  case mapUpdate t m k x => exact (lou_put hC hR (hO m (by simp [Op.operands])) (hO k (by simp [Op.operands])) (hO x (by simp [Op.operands]))).1
  case insert t m k x => exact (lou_put hC hR (hO m (by simp [Op.operands])) (hO k (by simp [Op.operands])) (hO x (by simp [Op.operands]))).2
  case mapEntry t m k => exact lou_ent hC hR (hO m (by simp [Op.operands])) (hO k (by simp [Op.operands]))
  case range t x =>
    show Lou C B w0 callF e w σ s st _ (cRange C t x)
    unfold cRange
    split
    · rename_i hu; exact lou_rangeS hR (und_ok hC hu) (hO x (by simp [Op.operands]))
    · rename_i hu; exact lou_rangeM hR (und_ok hC hu) (hO x (by simp [Op.operands]))
    · exact lou_not rfl
  case next x b =>
    cases b
    · exact lou_nextM hR (hO x (by simp [Op.operands]))
    · exact lou_nextS hR (hO x (by simp [Op.operands]))
  case convert a b x => exact lou_conv hC hR (hO x (by simp [Op.operands]))
  case binOp => exact lou_not (both_s (both_bin _ _ _ _))
  case build => exact lou_not (both_s (both_build _ _))
  case field => exact lou_not (both_s (both_field _ _ _))
  case slice => exact lou_not (both_s (both_slice _ _ _ _ _))
  case makeInterface => exact lou_not (both_s (both_iface _ _))
  case typeAssert => exact lou_not (both_s (both_assert _ _ _))
  case load => exact lou_not (both_s (both_load _ _))
  case fieldAddr => exact lou_not (both_s (both_fieldAddr _ _ _))
  case indexAddr => exact lou_not (both_s (both_idx _ _ _))
  case sliceToArrayPointer => exact lou_not (both_s (both_arr _ _))
  case makeFunc => exact lou_not (both_s (both_func _ _ _))
  case lookup => exact lou_not (both_s (both_look _ _ _ _))
  case unOp op t x => cases op <;> exact lou_not rfl
  case alloc t =>
    show Lou C B w0 callF e w σ s st _ (cAlloc C t)
    unfold cAlloc
    split
    · cases lall nf _ <;> exact lou_not rfl
    · exact lou_not rfl
  case entry x => exact lou_entry hR (hO x (by simp [Op.operands]))
  case entryStore t m k x => exact lou_mapSto hR (hO m (by simp [Op.operands])) (hO k (by simp [Op.operands])) (hO x (by simp [Op.operands]))
  all_goals exact lou_not rfl
/-- Single operations: all that is asked of them. -/
theorem ops_ok (hC : C.OK) (hcall : CallOK C B w0 callF) (hent : EntOK C callF) : OpsOK C B w0 callF where
  still o s σ st e w v hc h hR hO := still_all hC o s σ st e w v hR.glob hc h hR hO
  alloc o s σ e c mk hc h hO := alloc_all hC o c mk hc h hO
  loud o s σ st st' e w v hc h hR hO := by
    by_cases h0 : compK C o.op = .other .loud
    · rw [h0] at h; cases h
    · obtain ⟨h1, h2⟩ := compK_inv (op := o.op) rfl h0
      rw [← h2] at hc h
      exact loud_ok hC hcall hent hR (fun x hx => hO x hx (h1 x hx)) v st' hc h
end
end Go.Proofs.YtjjopoigbonjbaaGreatDoor.Ex
