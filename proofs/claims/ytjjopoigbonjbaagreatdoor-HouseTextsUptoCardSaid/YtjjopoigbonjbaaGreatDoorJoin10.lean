/-
  Texts joined: ExY, ExY2, ExX, ExP.
-/
import Derived.Test.YtjjopoigbonjbaaGreatDoorJoin09
namespace Go.Proofs.YtjjopoigbonjbaaGreatDoor.Ex
open Go Go.RowKit
set_option linter.unusedVariables false
set_option linter.unusedSimpArgs false
section
variable {C : Ctx} {B : Nat} {w0 : World}
/-- What is reckoned of calls, is reckoned of functions that have a body. -/
def EntOK (C : Ctx) (callF : CallF) : Prop := ∀ (f : FuncId) (args : List Value) (st st' : St) (v : Value), callF (.fn f) args st = some (v, st') → ∀ (args' : Array Value) (w : World), (callFunc f args').run C.P w = .ok (.enter f args') w
theorem slotsList_ok {e : Env} {n : Nat} {s : Sl} {σ : Slots} {ds : List Deferred} {a : Act} (hs : SlR e s σ) (hf : Fits n ds σ a) : LR e (slotsList n s) a.tmps.toList := by
  have hn : a.tmps.toList.length = n := by simpa using hf.size
  refine ⟨by simp [slotsList, hn], fun i v v' hv hv' => ?_⟩
  simp only [slotsList, List.getElem?_map, Option.map_eq_some_iff] at hv
  obtain ⟨t, ht, rfl⟩ := hv
  have h1 : t = i := by
    rw [List.getElem?_range] at ht
    · simpa using ht.symm
    · have := (List.getElem?_eq_some_iff.1 ht).1; simpa using this
  subst h1
  have h2 := hs t
  rw [← hf.at_ t] at h2
  have h3 : a.tmps.getD t undef = v' := by
    rw [Array.getD_eq_getD_getElem?, ← Array.getElem?_toList, hv']; rfl
  rw [h3] at h2
  exact h2
theorem loop?_ok {st : St} {l : Nat} {r : Loop} (h : st.loop? l = some r) : st.heap.get l = some (.obj (.loop r)) := by
  unfold St.loop? at h
  split at h
  · rename_i r2 hg; simp at h; subst h; exact hg
  · cases h
theorem jumpA_some {c : Code} {x : Ax} (h : jumpA c = some x) : (∃ i, c = .exit i ∧ x = .exit i) ∨ (c = .ret ∧ x = .ret) := by
  cases c <;> simp only [jumpA] at h <;> first | (cases h; done) | skip
  · exact .inl ⟨_, rfl, (Option.some.inj h).symm⟩
  · exact .inr ⟨rfl, (Option.some.inj h).symm⟩
theorem range_ok (hC : C.OK) {callF : CallF} (hcall : CallOK C B w0 callF) (hent : EntOK C callF) : RangeOK C B w0 callF := by
  intro fn n g ps assign body as as' ax hg h d0 st0 e0 a w hA
  obtain ⟨e, σ, ds, k1, k2, k3, k4, k5⟩ := hA.at_
  unfold rangeA at h
  simp only at h
  have hgv := ev_ok k2.glob k3 g hg
  split at h
  · rename_i f cap hv
    rw [hv] at hgv
    generalize hge : ev σ g = gv at hgv
    cases hgv with
    | func _ ha1 ha2 hb1 hb2 =>
      rename_i a' b'
      have ea : a' = [] := (show LR e [] a' from ⟨ha1, ha2⟩).unnil
      subst ea
      have hcap : LR e cap b' := ⟨hb1, hb2⟩
      cases hc : callF (.fn f) (.func (.yield (as.st.new (.obj (.deferred (some [])))).next) #[] #[] :: cap) ((as.st.new (.obj (.deferred (some [])))).new (.obj (.loop { state := .ready, pending := none, fn := fn, tmps := (slotsList n as.s).toArray, params := ps, assign := assign, body := body, defers := as.st.next }))) with
      | none => rw [hc] at h; cases h
      | some r3 =>
        obtain ⟨v3, st3⟩ := r3
        rw [hc] at h
        simp only at h
        refine wpIn_rangeFunc ?_
        intro fn' _
        rw [show (fR none).round = none from rfl]
        obtain ⟨rec, hrec⟩ : ∃ rec : Loop, rec = { state := .ready, pending := none, fn := fn', tmps := a.tmps, params := ps, assign, body, defers := w.heap.size } := ⟨_, rfl⟩
        -- the two new blocks
        have hR1 := k2.new_ (.obj (.deferred (some []))) (.deferred (some [])) 0 0 (.obj rfl .mark)
        have hle1 : e.le (e.upd as.st.next ⟨w.heap.size, 0, 0⟩) := upd_le k2.next_none
        have hz1 : (w.alloc (.deferred (some []))).heap.size = w.heap.size + 1 := by simp
        have hR2 := hR1.new_ (.obj (.loop { state := .ready, pending := none, fn := fn, tmps := (slotsList n as.s).toArray, params := ps, assign := assign, body := body, defers := as.st.next })) (.loop rec) 0 0 (by
          refine .obj rfl ?_
          rw [hrec]
          have hl := ((slotsList_ok k3 k4).mono hle1).mono (upd_le (x := ⟨(w.alloc (.deferred (some []))).heap.size, 0, 0⟩) hR1.next_none)
          have hD : ((e.upd as.st.next ⟨w.heap.size, 0, 0⟩).upd (as.st.new (.obj (.deferred (some [])))).next ⟨(w.alloc (.deferred (some []))).heap.size, 0, 0⟩) as.st.next = some ⟨w.heap.size, 0, 0⟩ := upd_le hR1.next_none _ _ (upd_self _ _ _)
          exact OR.loop hD _ _ _ _ hl _ _ _)
        rw [hz1] at hR2
        have hle2 := upd_le (x := ⟨w.heap.size + 1, 0, 0⟩) hR1.next_none
        obtain ⟨W1, hW1⟩ : ∃ W1, (w.alloc (.deferred (some []))).alloc (.loop rec) = W1 := ⟨_, rfl⟩
        rw [hW1] at hR2
        have hL := upd_self (e.upd as.st.next ⟨w.heap.size, 0, 0⟩) (as.st.new (.obj (.deferred (some [])))).next ⟨w.heap.size + 1, 0, 0⟩
        have hargs : LR _ (.func (.yield (as.st.new (.obj (.deferred (some [])))).next) #[] #[] :: cap) (.func (.yield (w.heap.size + 1)) #[] #[] :: b') :=
          LR.cons (VR.yield hL) ((hcap.mono hle1).mono hle2)
        have hcall1 := hcall (.fn f) _ _ v3 st3 hc _ W1 _ hR2 hargs
        have hent1 := hent f _ _ st3 v3 hc ⟨.func (.yield (w.heap.size + 1)) #[] #[] :: b'⟩ W1
        refine ⟨w.heap.size + 1, [markOf w.heap.size], W1, { target := .fn (.func f) ⟨b'⟩, args := #[.func (.yield (w.heap.size + 1)) #[] #[]] }, W1, f,
          ⟨.func (.yield (w.heap.size + 1)) #[] #[] :: b'⟩, W1, ?_, ?_, fun f' _ => trivial, ?_, fun h => (by cases h), ?_⟩
        · rw [← hW1, hrec]; exact run_enterLoop_outer _ _ _ _ _
        · have hg' : a.eval g = .func (.func f) ⟨[]⟩ ⟨b'⟩ := by rw [k4.eval]; exact hge
          have hk : ∀ v, a.eval (.const v) = v := fun _ => rfl
          simp only [resolve, rangeCall, hg', Deferred.ofValue]
          simp [hk]
        · simp only [invoke]
          have e1 : (#[.func (.yield (w.heap.size + 1)) #[] #[]] : Array Value) ++ (⟨b'⟩ : Array Value) = ⟨.func (.yield (w.heap.size + 1)) #[] #[] :: b'⟩ := by apply Array.ext'; simp
          rw [e1]; exact hent1
        · have h2 : CallsIn (fR none) (0 - 1) C.P f ⟨.func (.yield (w.heap.size + 1)) #[] #[] :: b'⟩ W1 _ := callsIn_wide.2 hcall1
          refine CallsIn.mono h2 ?_
          rintro en W2 ⟨v', rfl, e3, f3, hR3, _⟩
          have hx3 : e3 (as.st.new (.obj (.deferred (some [])))).next = some ⟨w.heap.size + 1, 0, 0⟩ := by
            rw [f3.keep _ (.obj (.loop { state := .ready, pending := none, fn := fn, tmps := (slotsList n as.s).toArray, params := ps, assign := assign, body := body, defers := as.st.next })) (by simp [St.new, get_set])]
            exact hL
          have hle3 := f3.le hR2
          have hfol : Fol st0 e0 st3 e3 := (k1.trans (Fol.new_ k2 _ _)).trans ((Fol.new_ hR1 _ _).trans f3)
          split at h
          · rename_i r hr
            obtain ⟨o', ho, hor⟩ := hR3.obj_ (loop?_ok hr) hx3
            obtain ⟨rs, rp, rf, rt, rps, ras, rb, rD⟩ := r
            cases hor with
            | loop hD _ _ _ fn3 ht _ _ _ =>
              rename_i xD t t'
              have fin : ∀ (x : Ax) (c : Option Code), (c = none ∧ x = .normal ∨ ∃ c', c = some c' ∧ jumpA c' = some x) → rp = c → rs ≠ .busy →
                  as' = ⟨as.s, st3.put (as.st.new (.obj (.deferred (some [])))).next (.obj (.loop ⟨.exhausted, rp, rf, ⟨t⟩, rps, ras, rb, rD⟩)), as.st.next :: as.ms⟩ → ax = x →
                  ∃ pe W3, (Instr.endLoop (w.heap.size + 1)).run C.P W2 = .ok pe W3 ∧ (match pe with
                    | none => CodeQ C B w0 n d0 st0 e0 ax as' .normal { a with defers := [markOf w.heap.size] ++ a.defers } W3
                    | some c => c.wpIn (fR none) 0 C.P (CodeQ C B w0 n d0 st0 e0 ax as') { a with defers := [markOf w.heap.size] ++ a.defers } W3) := by
                intro x c hcx hpc hbusy has hax
                subst has; subst hax
                have hend := run_endLoop (P := C.P) ho (by exact hbusy)
                have hR4 := hR3.putObj_ (loop?_ok hr) hx3 (OR.loop hD .exhausted rp rf fn3 ht rps ras rb)
                have hA4 : At C B w0 n d0 st0 e0 ⟨as.s, st3.put (as.st.new (.obj (.deferred (some [])))).next (.obj (.loop ⟨.exhausted, rp, rf, ⟨t⟩, rps, ras, rb, rD⟩)), as.st.next :: as.ms⟩ { a with defers := [markOf w.heap.size] ++ a.defers } (W2.putObj (w.heap.size + 1) (.loop ⟨.exhausted, rp, fn3, ⟨t'⟩, rps, ras, rb, xD.blk⟩)) := by
                  refine ⟨e3, σ, markOf w.heap.size :: ds, hfol.trans (Fol.put_ _ _ _ _), hR4, ((k3.mono hle1).mono hle2).mono hle3, ⟨k4.size, by simp [k4.defers], k4.at_⟩, ⟨⟨⟨w.heap.size, 0, 0⟩, ?_, rfl⟩, ((k5.mono hle1).mono hle2).mono hle3⟩⟩
                  exact hle3 _ _ (hle2 _ _ (upd_self _ _ _))
                refine ⟨rp, _, hend, ?_⟩
                rcases hcx with ⟨h1, rfl⟩ | ⟨c', h1, h2⟩
                · subst h1; subst hpc
                  exact ⟨rfl, hA4⟩
                · subst h1; subst hpc
                  rcases jumpA_some h2 with ⟨i, rfl, rfl⟩ | ⟨rfl, rfl⟩
                  · exact wpIn_exit ⟨rfl, hA4⟩
                  · exact wpIn_ret ⟨rfl, hA4⟩
              simp only at h
              split at h
              · cases h
              · rename_i hbusy
                have hb : rs ≠ .busy := fun e1 => hbusy (by rw [e1])
                cases rp with
                | none =>
                  simp only [Option.some.injEq, Prod.mk.injEq] at h
                  exact fin .normal none (.inl ⟨rfl, rfl⟩) rfl hb h.2.symm h.1.symm
                | some c =>
                  simp only at h
                  cases hx : jumpA c with
                  | none => rw [hx] at h; cases h
                  | some x =>
                    rw [hx] at h
                    simp only [Option.some.injEq, Prod.mk.injEq] at h
                    exact fin x (some c) (.inr ⟨c, rfl, hx⟩) rfl hb h.2.symm h.1.symm
          · cases h
  · cases h
end
end Go.Proofs.YtjjopoigbonjbaaGreatDoor.Ex
namespace Go.Proofs.YtjjopoigbonjbaaGreatDoor.Ex
open Go Go.RowKit
set_option linter.unusedVariables false
set_option linter.unusedSimpArgs false
section
variable {C : Ctx} {B : Nat} {w0 : World}
theorem paramsA_ok {e : Env} {n : Nat} : ∀ (ps : List Tmp) (args args' : List Value) (s : Sl) (σ : Slots), (∀ t ∈ ps, t < n) → LR e args args' → SlR e s σ → SlR e (paramsA (ps.zip args) s) (putPs n σ (ps.zip args'))
  | [], args, args', s, σ, _, _, hs => hs
  | t :: ps, [], args', s, σ, _, ha, hs => by rw [ha.unnil]; exact hs
  | t :: ps, v :: args, args', s, σ, hp, ha, hs => by
    obtain ⟨v', r', rfl, hv, hr⟩ := ha.uncons
    have h1 : SlR e (s.set t v) (put n σ (some t) v') := by
      intro u
      rw [get_set]
      by_cases hu : u = t
      · subst hu; rw [if_pos rfl, put_same _ _ _ _ (hp u List.mem_cons_self)]; exact hv
      · rw [if_neg hu, put_other _ _ _ _ _ hu]; exact hs u
    exact paramsA_ok ps args r' _ _ (fun t ht => hp t (List.mem_cons_of_mem _ ht)) hr h1
theorem zip_list (a : Array Tmp) (l : List Value) : (a.zip (⟨l⟩ : Array Value)).toList = a.toList.zip l := by simp
theorem beginA_some {st st1 : St} {l : Nat} (h : beginA st l = some st1) : ∃ r, st.heap.get l = some (.obj (.loop r)) ∧ r.state = .ready ∧ st1 = st.put l (.obj (.loop { r with state := .busy })) := by
  unfold beginA at h
  split at h
  · rename_i r hr
    split at h
    · rename_i hs
      simp only [Option.some.injEq] at h
      exact ⟨r, loop?_ok hr, hs, h.symm⟩
    · cases h
  · cases h
theorem endRA_some {st st1 : St} {l : Nat} {x : Ax} {v : Value} (h : endRA st l x = some (v, st1)) : ∃ r, st.heap.get l = some (.obj (.loop r)) ∧ v = .bool (codeOf x).isNone ∧ st1 = st.put l (.obj (.loop { r with state := if (codeOf x).isNone then .ready else .done, pending := codeOf x })) := by
  unfold endRA at h
  split at h
  · rename_i r hr
    refine ⟨r, loop?_ok hr, ?_⟩
    split at h
    · rename_i hc
      simp only [Option.some.injEq, Prod.mk.injEq] at h
      rw [hc]
      exact ⟨h.1.symm, by rw [← h.2]; rfl⟩
    · rename_i c hc
      simp only [Option.some.injEq, Prod.mk.injEq] at h
      rw [hc]
      exact ⟨h.1.symm, by rw [← h.2]; rfl⟩
  · cases h
theorem yield_ok (hC : C.OK) {callF : CallF} (H : OpsOK C B w0 callF) (HD : DrawOK C B w0 callF) (HR : RangeOK C B w0 callF) {L l : Nat} {r : Loop} {args args' : List Value} {st st' : St} {v : Value} {e : Env} {w : World} {x : Bind}
    (h : roundA C callF L l r args st = some (v, st')) (hl : st.loop? l = some r) (hR : Rel C B w0 e st w) (ha : LR e args args') (hx : e l = some x) :
    resE C.P ((Instr.yield x.blk ⟨args'⟩).run C.P w) (PostA C B w0 st e st' v) := by
  obtain ⟨o', ho, hor⟩ := hR.obj_ (loop?_ok hl) hx
  obtain ⟨rs, rp, rf, ⟨rt⟩, ⟨rps⟩, ras, rb, rD⟩ := r
  generalize hro : (Obj.loop ⟨rs, rp, rf, ⟨rt⟩, ⟨rps⟩, ras, rb, rD⟩) = ob at hor
  cases hor with
  | loop hD s2 p2 fn2 fn3 ht ps2 a2 b2 =>
    rename_i D2 xD t t'
    injection hro with hro
    injection hro with e1 e2 e3 e4 e5 e6 e7 e8
    injection e4 with e4
    subst e1 e2 e3 e4 e5 e6 e7 e8
    unfold roundA at h
    simp only [llen_eq] at h
    cases hb : (Nat.beq args.length rps.length && lall (fun t => Nat.blt t rt.length) rps) with
    | false => rw [hb] at h; cases h
    | true =>
      rw [hb] at h
      simp only [cond_true] at h
      simp only [Bool.and_eq_true, lall_eq, List.all_eq_true] at hb
      have hlen := Nat.eq_of_beq_eq_true hb.1
      have hps : ∀ t ∈ rps, t < rt.length := fun t ht => Nat.le_of_ble_eq_true (hb.2 t ht)
      have hy := run_yield (P := C.P) (args := (⟨args'⟩ : Array Value)) ho (by simp; rw [← ha.1]; exact hlen)
      rw [hy]
      cases hx1 : execC C callF L rf rt.length false ras ⟨paramsA (rps.zip args) (argsA rt 0 .leaf), st, []⟩ with
      | none => rw [hx1] at h; cases h
      | some r1 =>
        obtain ⟨ax1, as1⟩ := r1
        rw [hx1] at h
        cases ax1 with
        | exit i => cases h
        | ret => cases h
        | normal =>
          simp only at h
          cases hbg : beginA as1.st l with
          | none => rw [hbg] at h; cases h
          | some st1 =>
            rw [hbg] at h
            simp only at h
            cases hx2 : execC C callF L rf rt.length false rb ⟨as1.s, st1, as1.ms⟩ with
            | none => rw [hx2] at h; cases h
            | some r2 =>
              obtain ⟨ax2, as2⟩ := r2
              rw [hx2] at h
              simp only at h
              show RoundIn Fence.wide 0 C.P x.blk fn3 _ ras rb w _
              have hnt : (⟨t'⟩ : Array Value).size = rt.length := by simp; exact ht.1.symm
              have hfit := fits_ps (n := rt.length) (rps.zip args') (argsE ⟨t'⟩) ⟨t'⟩ hnt (fun t => rfl)
              have hsl : SlR e (paramsA (rps.zip args) (argsA rt 0 .leaf)) (putPs rt.length (argsE ⟨t'⟩) (rps.zip args')) := paramsA_ok rps args args' _ _ hps ha (argsA_ok ht)
              have hA : At C B w0 rt.length [] st e ⟨paramsA (rps.zip args) (argsA rt 0 .leaf), st, []⟩ { tmps := (rps.zip args').foldl (fun t (p, v) => t.setIfInBounds p v) (⟨t'⟩ : Array Value), defers := [] } w :=
                ⟨e, _, [], Fol.refl _ _, hR, hsl, hfit, trivial⟩
              refine roundIn_of_wpIn (F := Fence.wide) trivial ?_
              have hW := execC_ok H HD HR (ro := some x.blk) (top := false) (fun h => by cases h) ras _ as1 .normal _ w hx1 hA
              rw [← zip_list ⟨rps⟩ args', Array.foldl_toList] at hW
              refine wpIn_mono hW ?_
              rintro ex a1 w1 ⟨hex, hA1⟩
              subst hex
              obtain ⟨e1, σ1, ds1, k1, k2, k3, k4, k5⟩ := hA1.at_
              obtain ⟨rr, g1, g2, rfl⟩ := beginA_some hbg
              have hx1' : e1 l = some x := by rw [k1.keep _ _ (loop?_ok hl)]; exact hx
              obtain ⟨o1, ho1, hor1⟩ := k2.obj_ g1 hx1'
              obtain ⟨ss, sp, sf, st_, sps, sas, sb, sD⟩ := rr
              simp only at g2
              subst g2
              cases hor1 with
              | loop hD1 _ _ _ fn5 ht1 _ _ _ =>
                refine ⟨_, run_beginRound ho1 rfl, ?_⟩
                have hR1 := k2.putObj_ g1 hx1' (OR.loop hD1 .busy sp sf fn5 ht1 sps sas sb)
                have hA2 : At C B w0 rt.length [] st e ⟨as1.s, as1.st.put l (.obj (.loop ⟨.busy, sp, sf, _, sps, sas, sb, sD⟩)), as1.ms⟩ a1 _ :=
                  ⟨e1, σ1, ds1, k1.trans (Fol.put_ _ _ _ _), hR1, k3, k4, k5⟩
                have hW2 := execC_ok H HD HR (ro := some x.blk) (top := false) (fun h => by cases h) rb _ as2 ax2 _ _ hx2 hA2
                refine wpIn_mono hW2 ?_
                rintro ex a3 w3 ⟨hex, hA3⟩
                subst hex
                obtain ⟨e3, σ3, ds3, j1, j2, j3, j4, j5⟩ := hA3.at_
                obtain ⟨r3, g3, rfl, rfl⟩ := endRA_some h
                have hx3 : e3 l = some x := by rw [j1.keep _ _ (loop?_ok hl)]; exact hx
                obtain ⟨o3, ho3, hor3⟩ := j2.obj_ g3 hx3
                obtain ⟨qs, qp, qf, qt, qps, qas, qb, qD⟩ := r3
                cases hor3 with
                | loop hD3 _ _ _ fn7 ht3 _ _ _ =>
                  have hend := fun jump => run_endRound (P := C.P) jump ho3
                  have hfin : PostA C B w0 st e (as2.st.put l (.obj (.loop ⟨if (codeOf ax2).isNone then .ready else .done, codeOf ax2, qf, _, qps, qas, qb, qD⟩))) (.bool (codeOf ax2).isNone) (.bool (codeOf ax2).isNone) (w3.putObj x.blk _) :=
                    ⟨e3, j1.trans (Fol.put_ _ _ _ _), j2.putObj_ g3 hx3 (OR.loop hD3 (if (codeOf ax2).isNone then .ready else .done) (codeOf ax2) qf fn7 ht3 qps qas qb), .bool _⟩
                  cases ax2 with
                  | normal => exact ⟨_, _, hend none, _, rfl, hfin⟩
                  | ret => exact ⟨_, _, hend (some .ret), _, rfl, hfin⟩
                  | exit i => exact ⟨_, _, hend (some (.exit i)), _, rfl, hfin⟩
  | _ => cases hro
end
end Go.Proofs.YtjjopoigbonjbaaGreatDoor.Ex
namespace Go.Proofs.YtjjopoigbonjbaaGreatDoor.Ex
open Go Go.RowKit
set_option linter.unusedVariables false
set_option linter.unusedSimpArgs false
section
variable {C : Ctx} {B : Nat} {w0 : World}
def ExtOK (C : Ctx) (B : Nat) (w0 : World) (ext : CallF) : Prop := ∀ (f : FuncId) (args : List Value) (st : St) (v : Value) (st' : St), ext (.fn f) args st = some (v, st') → ∀ (e : Env) (w : World) (args' : List Value), Rel C B w0 e st w → LR e args args' → callE C.P f ⟨args'⟩ w (PostA C B w0 st e st' v)
theorem callA_inv {ext ih : CallF} {L f : Nat} {args : List Value} {st st' : St} {v : Value} (h : callA C ext ih L f args st = some (v, st')) :
    ∃ fn c, C.fns.get f = some fn ∧ fn.body = some c ∧ (fn.name == "runtime.NumGoroutine") = false ∧ (ext (.fn f) args st = some (v, st') ∨
      (args.length ≤ fn.ntmps ∧ endA C fn.results.toList (execC C ih L f fn.ntmps true c ⟨argsA args 0 .leaf, st, []⟩) = some (v, st'))) := by
  unfold callA at h
  split at h
  · rename_i fn hf
    split at h
    · rename_i c hb
      cases hn : (fn.name == "runtime.NumGoroutine") with
      | true => rw [hn] at h; cases h
      | false =>
        rw [hn] at h
        simp only [cond_false] at h
        refine ⟨fn, c, hf, hb, hn, ?_⟩
        cases he : ext (.fn f) args st with
        | some r => rw [he] at h; exact .inl h
        | none =>
          rw [he] at h
          simp only [llen_eq] at h
          cases hl : Nat.ble args.length fn.ntmps with
          | false => rw [hl] at h; cases h
          | true => rw [hl] at h; exact .inr ⟨Nat.le_of_ble_eq_true hl, h⟩
    · cases h
  · cases h
theorem callFunc_ent {P : Program} {f : FuncId} {fn : Func} {c : Code} (hf : P.funcs[f]? = some fn) (hb : fn.body = some c) (hn : (fn.name == "runtime.NumGoroutine") = false) (args : Array Value) (w : World) : (callFunc f args).run P w = .ok (.enter f args) w := by
  have hn' : ¬ fn.name = "runtime.NumGoroutine" := by simpa using hn
  simp [callFunc, program, Sem.run, hf, hb, hn']
theorem go_ok (hC : C.OK) {ext : CallF} (hext : ExtOK C B w0 ext) {L : Nat} (hops : ∀ callF, CallOK C B w0 callF → EntOK C callF → OpsOK C B w0 callF) (hdraw : ∀ callF, OpsOK C B w0 callF → DrawOK C B w0 callF) :
    ∀ d, CallOK C B w0 (go C ext L d) ∧ EntOK C (go C ext L d) := by
  intro d
  induction d with
  | zero => exact ⟨(fun t args st v st' h => by cases h), (fun f args st st' v h => by cases h)⟩
  | succ d ih =>
    have H := hops _ ih.1 ih.2
    have HD := hdraw _ H
    have HR := range_ok hC ih.1 ih.2
    refine ⟨?_, ?_⟩
    · intro t args st v st' h e w args' hR ha
      cases t with
      | fn f =>
        have h' : callA C ext (go C ext L d) L f args st = some (v, st') := h
        obtain ⟨fn, c, hf, hb, hn, hcase⟩ := callA_inv h'
        rcases hcase with he | ⟨hl, hx⟩
        · exact hext f args st v st' he e w args' hR ha
        · exact fn_ok hC H HD HR (hC.fns _ _ hf) hb hl hx hR ha
      | yield l =>
        have h' : (match st.loop? l with
          | some r => roundA C (go C ext L d) L l r args st
          | none => none) = some (v, st') := h
        intro x hx
        cases hl : st.loop? l with
        | none => rw [hl] at h'; cases h'
        | some r => rw [hl] at h'; exact yield_ok hC H HD HR h' hl hR ha hx
    · intro f args st st' v h args' w
      have h' : callA C ext (go C ext L d) L f args st = some (v, st') := h
      obtain ⟨fn, c, hf, hb, hn, _⟩ := callA_inv h'
      exact callFunc_ent (hC.fns _ _ hf) hb hn args' w
end
end Go.Proofs.YtjjopoigbonjbaaGreatDoor.Ex
namespace Go.Proofs.YtjjopoigbonjbaaGreatDoor.Ex
open Go Go.RowKit
set_option linter.unusedVariables false
set_option linter.unusedSimpArgs false
/-- An operation yields what is reckoned, and turns nothing. -/
def Yie (C : Ctx) (e : Env) (w : World) (σ : Slots) (o : Oper) (v : Value) : Prop := ∃ v', (execOp (ev σ) o).run C.P w = .ok (.value v') w ∧ VR e v v'
section
variable {C : Ctx} {B : Nat} {w0 : World} {e : Env} {st : St} {w : World} {s : Sl} {σ : Slots} {d : Option Tmp} {ty : TypeId} {pos : String} {after : Array Edge} {g : Option (Nat × Bool)}
theorem compK_inv {op : Op} {i : Ins} (h : compK C op = i) (hi : i ≠ .other .loud) : (∀ x ∈ op.operands.toList, okOpd C x = true) ∧ comp C op = i := by
  unfold compK at h
  cases hb : lall (okOpd C) op.operands.toList with
  | false => rw [hb] at h; exact absurd h.symm hi
  | true => rw [hb] at h; rw [lall_eq, List.all_eq_true] at hb; exact ⟨hb, h⟩
theorem astill_ok {o : Oper} {v : Value} (h : astill C s o = some v) (hsel : ∀ cs b, o.op ≠ .select cs b) (hO : ∀ x ∈ o.op.operands.toList, VR e (evA s x) (ev σ x)) : Yie C e w σ o v := by
  unfold astill at h
  cases hb : lall (fun x => nf (evA s x)) o.op.operands.toList with
  | false => rw [hb] at h; cases h
  | true =>
    rw [hb] at h
    simp only [cond_true] at h
    rw [lall_eq, List.all_eq_true] at hb
    have hag : execOp (evA s) o = execOp (ev σ) o := execOp_congr o hsel fun x hx => nf_eq (hb x (by simpa using hx)) (hO x (by simpa using hx))
    split at h
    · rename_i u hp
      cases hn : nf u with
      | false => rw [hn] at h; cases h
      | true =>
        rw [hn] at h
        simp only [cond_true, Option.some.injEq] at h
        subst h
        exact ⟨u, by rw [← hag]; exact pureRun_ok _ hp w, nf_self hn⟩
    · cases h
theorem VR.int_inv {k : IntKind} {n : Int} {v : Value} (h : VR e (.int k n) v) : v = .int k n := by cases h; rfl
theorem VR.bool_inv {b : Bool} {v : Value} (h : VR e (.bool b) v) : v = .bool b := by cases h; rfl
theorem VR.str_inv {a : ByteArray} {v : Value} (h : VR e (.string a) v) : v = .string a := by cases h; rfl
theorem VR.ptr_inv {b o : Nat} {v : Value} (h : VR e (.pointer (some ⟨b, o, none⟩)) v) : ∃ x, e b = some x ∧ v = .pointer (some ⟨x.blk, o + x.shift, none⟩) := by
  generalize hu : (Value.pointer (some ⟨b, o, none⟩)) = u at h
  cases h <;> cases hu
  exact ⟨_, by assumption, rfl⟩
theorem VR.agg_inv {l : List Value} {v : Value} (h : VR e (.agg ⟨l⟩) v) : ∃ l', v = .agg ⟨l'⟩ ∧ LR e l l' := by
  cases h with
  | agg ha h => exact ⟨_, rfl, ha, h⟩
theorem VR.tuple_inv {l : List Value} {v : Value} (h : VR e (.tuple ⟨l⟩) v) : ∃ l', v = .tuple ⟨l'⟩ ∧ LR e l l' := by
  cases h with
  | tuple ha h => exact ⟨_, rfl, ha, h⟩
theorem numA_ok {dflt n : Nat} {x : Option Operand} (h : numA s dflt x = some n) (hx : ∀ y, x = some y → VR e (evA s y) (ev σ y)) : NumO (ev σ) dflt x n := by
  unfold numA at h
  split at h
  · simp only [Option.some.injEq] at h; exact .inl ⟨rfl, h.symm⟩
  · rename_i y
    split at h
    · rename_i k m hv
      simp only [Option.some.injEq] at h
      subst h
      have := hx y rfl
      rw [hv] at this
      exact .inr ⟨y, k, rfl, this.int_inv⟩
    · cases h
/-! ## One by one -/
theorem y_move {x : Operand} (hx : VR e (evA s x) (ev σ x)) : Yie C e w σ ⟨d, .move x, ty, pos, after, g⟩ (evA s x) := ⟨_, r_move x, hx⟩
theorem y_assign {x : Operand} (hx : VR e (evA s x) (ev σ x)) : Yie C e w σ ⟨d, .assign x, ty, pos, after, g⟩ (evA s x) := ⟨_, r_assign x, hx⟩
theorem y_pick {c x y : Operand} {v : Value} (h : iPick (evA s c) (evA s x) (evA s y) = some v) (hc : VR e (evA s c) (ev σ c)) (hx : VR e (evA s x) (ev σ x)) (hy : VR e (evA s y) (ev σ y)) : Yie C e w σ ⟨d, .pick c x y, ty, pos, after, g⟩ v := by
  unfold iPick at h
  split at h
  · rename_i t hv
    simp only [Option.some.injEq] at h
    subst h
    rw [hv] at hc
    refine ⟨_, r_pick hc.bool_inv, ?_⟩
    cases t
    · exact hy
    · exact hx
  · cases h
theorem y_load (hC : C.OK) (hR : Rel C B w0 e st w) {t : TypeId} {x : Operand} {v : Value} (hs : sizeA C t = some none) (h : iLoad st (evA s x) = some v) (hx : VR e (evA s x) (ev σ x)) : Yie C e w σ ⟨d, .load t x, ty, pos, after, g⟩ v := by
  unfold iLoad at h
  split at h
  · rename_i b off hv
    rw [hv] at hx
    obtain ⟨xb, hb, hσ⟩ := hx.ptr_inv
    obtain ⟨v', h1, h2⟩ := hR.cell_ h hb
    refine ⟨v', ?_, h2⟩
    refine opR_ends C.P ⟨d, .load t x, ty, pos, after, g⟩ σ w _ _ ?_
    show loadR C.P (ev σ x) (shapeOf C.P t) w = _
    rw [hσ, size_ok hC hs]
    show oneR (w.cell? _) w = _
    rw [h1]; rfl
  · cases h
theorem y_loads (hC : C.OK) (hR : Rel C B w0 e st w) {t : TypeId} {x : Operand} {v : Value} {n : Nat} (hs : sizeA C t = some (some n)) (h : iLoads st n (evA s x) = some v) (hx : VR e (evA s x) (ev σ x)) : Yie C e w σ ⟨d, .load t x, ty, pos, after, g⟩ v := by
  unfold iLoads at h
  split at h
  · rename_i b off hv
    rw [hv] at hx
    obtain ⟨xb, hb, hσ⟩ := hx.ptr_inv
    split at h
    · rename_i l hl
      simp only [Option.some.injEq] at h
      subst h
      obtain ⟨l', h1, h2, _⟩ := hR.cells_ hl hb
      refine ⟨.agg ⟨l'⟩, ?_, VR.agg_ h2⟩
      refine opR_ends C.P ⟨d, .load t x, ty, pos, after, g⟩ σ w _ _ ?_
      show loadR C.P (ev σ x) (shapeOf C.P t) w = _
      rw [hσ, size_ok hC hs]
      show manyR (readCells w _ 0 n) w = _
      rw [h1]; rfl
    · cases h
  · cases h
theorem y_fieldAddr {t : TypeId} {x : Operand} {f : Nat} {fs : Array Field} {fd : Field} {i : TypeInfo} {v : Value} (hu : C.P.underlying t = some (.struct fs)) (hf : fs[f]? = some fd) (hi : C.P.info? fd.type = some i) (h0 : i.size ≠ 0) (h : iFieldAddr fd.offset (evA s x) = some v) (hx : VR e (evA s x) (ev σ x)) :
    Yie C e w σ ⟨d, .fieldAddr t x f, ty, pos, after, g⟩ v := by
  unfold iFieldAddr at h
  split at h
  · rename_i b off hv
    rw [hv] at hx
    obtain ⟨xb, hb, hσ⟩ := hx.ptr_inv
    simp only [Option.some.injEq] at h
    subst h
    refine ⟨_, r_fieldAddr hu hf hi h0 hσ, ?_⟩
    have := VR.ptr (o := Nat.add off fd.offset) hb
    rw [show off + xb.shift + fd.offset = Nat.add off fd.offset + xb.shift by show _ = off + fd.offset + xb.shift; omega]
    exact this
  · cases h
theorem y_extract {x : Operand} {i : Nat} {v : Value} (h : iExtract (evA s x) i = some v) (hx : VR e (evA s x) (ev σ x)) : Yie C e w σ ⟨d, .extract x i, ty, pos, after, g⟩ v := by
  unfold iExtract at h
  split at h
  · rename_i l hv
    rw [hv] at hx
    obtain ⟨l', hσ, hl⟩ := hx.tuple_inv
    rw [lget_eq] at h
    obtain ⟨v', h1, h2⟩ := hl.get h
    exact ⟨v', r_extract hσ h1, h2⟩
  · cases h
theorem y_not {t : TypeId} {x : Operand} {v : Value} (h : iNot (evA s x) = some v) (hx : VR e (evA s x) (ev σ x)) : Yie C e w σ ⟨d, .unOp .not t x, ty, pos, after, g⟩ v := by
  unfold iNot at h
  split at h
  · rename_i b hv
    rw [hv] at hx
    simp only [Option.some.injEq] at h
    subst h
    exact ⟨_, r_not hx.bool_inv, .bool _⟩
  · cases h
theorem y_idxS {t : TypeId} {x i : Operand} {el : TypeId} {inf : TypeInfo} {v : Value} (ht : C.P.underlying t = some (.slice el)) (hi : C.P.info? el = some inf) (h : iIdx inf.size (evA s x) (evA s i) = some v) (hx : VR e (evA s x) (ev σ x)) (hy : VR e (evA s i) (ev σ i)) : Yie C e w σ ⟨d, .indexAddr t x i, ty, pos, after, g⟩ v := by
  unfold iIdx at h
  split at h
  · rename_i b off n c k j hv hj
    rw [hv] at hx
    rw [hj] at hy
    cases hb : Nat.blt j n with
    | false => rw [hb] at h; cases h
    | true =>
      rw [hb] at h
      simp only [cond_true, Option.some.injEq] at h
      subst h
      have hlt : j < n := Nat.le_of_ble_eq_true hb
      generalize hσ : ev σ x = xv at hx
      cases hx with
      | sl hb2 =>
        rename_i xb
        refine ⟨_, r_idxS ht hi hσ hy.int_inv hlt, ?_⟩
        have := VR.ptr (o := Nat.add off (Nat.mul j inf.size)) hb2
        rw [show off + xb.shift + j * inf.size = Nat.add off (Nat.mul j inf.size) + xb.shift by show _ = off + j * inf.size + xb.shift; omega]
        exact this
  · cases h
theorem y_idxP {t : TypeId} {x i : Operand} {m el : Nat} {inf : TypeInfo} {v : Value} (ht : C.P.underlying t = some (.array m el)) (hi : C.P.info? el = some inf) (h : iIdxP m inf.size (evA s x) (evA s i) = some v) (hx : VR e (evA s x) (ev σ x)) (hy : VR e (evA s i) (ev σ i)) : Yie C e w σ ⟨d, .indexAddr t x i, ty, pos, after, g⟩ v := by
  unfold iIdxP at h
  split at h
  · rename_i b off k j hv hj
    rw [hv] at hx
    rw [hj] at hy
    cases hb : Nat.blt j m with
    | false => rw [hb] at h; cases h
    | true =>
      rw [hb] at h
      simp only [cond_true, Option.some.injEq] at h
      subst h
      have hlt : j < m := Nat.le_of_ble_eq_true hb
      obtain ⟨xb, hb2, hσ⟩ := hx.ptr_inv
      refine ⟨_, r_idxP ht hi hσ hy.int_inv hlt, ?_⟩
      have := VR.ptr (o := Nat.add off (Nat.mul j inf.size)) hb2
      rw [show off + xb.shift + j * inf.size = Nat.add off (Nat.mul j inf.size) + xb.shift by show _ = off + j * inf.size + xb.shift; omega]
      exact this
  · cases h
theorem y_field {t : TypeId} {x : Operand} {f : Nat} {fs : Array Field} {fd : Field} {v : Value} (ht : C.P.underlying t = some (.struct fs)) (hf : fs[f]? = some fd) (hs : shapeOf C.P fd.type = some none) (h : iField fd.offset (evA s x) = some v) (hx : VR e (evA s x) (ev σ x)) : Yie C e w σ ⟨d, .field t x f, ty, pos, after, g⟩ v := by
  unfold iField at h
  split at h
  · rename_i l hv
    rw [hv] at hx
    obtain ⟨l', hσ, hl⟩ := hx.agg_inv
    rw [lget_eq] at h
    obtain ⟨v', h1, h2⟩ := hl.get h
    exact ⟨v', r_field1 ht hf hs hσ h1, h2⟩
  · cases h
theorem y_fields {t : TypeId} {x : Operand} {f n : Nat} {fs : Array Field} {fd : Field} {v : Value} (ht : C.P.underlying t = some (.struct fs)) (hf : fs[f]? = some fd) (hs : shapeOf C.P fd.type = some (some n)) (h : iFields fd.offset n (evA s x) = some v) (hx : VR e (evA s x) (ev σ x)) : Yie C e w σ ⟨d, .field t x f, ty, pos, after, g⟩ v := by
  unfold iFields at h
  split at h
  · rename_i l hv
    rw [hv] at hx
    obtain ⟨l', hσ, hl⟩ := hx.agg_inv
    cases hb : Nat.ble (fd.offset + n) (llen l) with
    | false => rw [hb] at h; cases h
    | true =>
      rw [hb] at h
      simp only [cond_true, Option.some.injEq, ltake_eq, ldrop_eq] at h
      subst h
      exact ⟨_, r_fieldN ht hf hs hσ, VR.agg_ ((hl.drop _).take _)⟩
  · cases h
theorem y_iface {t : TypeId} {x : Operand} {u : TypeDesc} (ht : C.P.underlying t = some u) (hn : ∀ ms, u ≠ .interface ms) (hx : VR e (evA s x) (ev σ x)) : Yie C e w σ ⟨d, .makeInterface t x, ty, pos, after, g⟩ (.iface t (evA s x)) := ⟨_, r_iface ht hn, .iface t hx⟩
theorem y_func {f : FuncId} {a b : List Operand} (ha : ∀ x ∈ a, VR e (evA s x) (ev σ x)) (hb : ∀ x ∈ b, VR e (evA s x) (ev σ x)) : Yie C e w σ ⟨d, .makeFunc (.func f) ⟨a⟩ ⟨b⟩, ty, pos, after, g⟩ (.func (.func f) ⟨lmap (evA s) a⟩ ⟨lmap (evA s) b⟩) := by
  refine ⟨_, r_func, ?_⟩
  rw [lmap_eq, lmap_eq]
  have h1 : LR e (a.map (evA s)) (a.map (ev σ)) := LR.map_mem a ha
  have h2 : LR e (b.map (evA s)) (b.map (ev σ)) := LR.map_mem b hb
  exact .func f h1.1 h1.2 h2.1 h2.2
theorem y_conv {src dst : TypeId} {x : Operand} {k k' : IntKind} {n : Int} {u : TypeDesc} (hs : C.P.underlying src = some u) (hd : C.P.underlying dst = some (.int k)) (hv : evA s x = .int k' n) (hx : VR e (evA s x) (ev σ x)) : Yie C e w σ ⟨d, .convert src dst x, ty, pos, after, g⟩ (.int k (wrapA k n)) := by
  rw [hv] at hx
  exact ⟨_, r_conv hs hd hx.int_inv, by rw [wrapA_eq]; exact .int _ _⟩
theorem y_bin {op : BinOp} {t u : TypeId} {x y : Operand} {k : IntKind} {a b : Int} {v : Value} (h : ibin op k a b = some v) (hv : evA s x = .int k a) (hw : evA s y = .int k b) (hx : VR e (evA s x) (ev σ x)) (hy : VR e (evA s y) (ev σ y)) : Yie C e w σ ⟨d, .binOp op t x y u, ty, pos, after, g⟩ v := by
  rw [hv] at hx
  rw [hw] at hy
  refine ⟨v, ibin_ok hx.int_inv hy.int_inv h _ _ _ _ _, ?_⟩
  have hn : ∀ f : Nat → Nat → Option Value, (∀ m n, f m n = some v → VR e v v) → n2 a b f = some v → VR e v v := by
    intro f hf h2
    cases a <;> cases b <;> simp only [n2] at h2
    · exact hf _ _ h2
    all_goals cases h2
  have hi : ∀ k m, (some (Value.int k m) : Option Value) = some v → VR e v v := fun k m h => by cases h; exact .int _ _
  have hb : ∀ m, (some (Value.bool m) : Option Value) = some v → VR e v v := fun m h => by cases h; exact .bool _
  have hc : ∀ (c : Bool) (p q : Option Value), (p = some v → VR e v v) → (q = some v → VR e v v) → cond c p q = some v → VR e v v := fun c p q h1 h2 h => by cases c; exact h2 h; exact h1 h
  cases op <;> simp only [ibin] at h <;> first
    | exact hi _ _ h
    | exact hb _ h
    | exact hn _ (fun m n h => hi _ _ h) h
    | exact hn _ (fun m n h => hc _ _ _ (hi _ _) (fun h => by cases h) h) h
    | exact hn _ (fun m n h => hc _ _ _ (fun h => by cases h) (hi _ _) h) h
    | cases h
end
end Go.Proofs.YtjjopoigbonjbaaGreatDoor.Ex
