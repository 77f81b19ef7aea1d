/-
  Texts joined: WCtx, WLive, WRest, WNone, Arrs, Open.
-/
import Derived.Test.YtlgoilobdiimeaaGreatDoorJoin25
import Derived.KernelRfl
import Derived.WideKeyArr2
import Derived.WalkKit
import Derived.Carry
import Derived.OpenShut
import Derived.ChangeMaps5
import Derived.Deep.Slices
namespace Go.Proofs.YtlgoilobdiimeaaGreatDoor.Ex
open Go Go.Proofs Go.RowKit
set_option linter.unusedVariables false
set_option linter.unusedSimpArgs false
noncomputable def tysK : Tr TypeInfo := Tr.ofL 12 Tryz.prog.types.toList
noncomputable def fnsK : Tr Func := Tr.ofL 12 Tryz.prog.funcs.toList
noncomputable def idK : List FK := List.replicate 32 (.int .u8)
noncomputable def flK (t : Nat) : Option (List FK) := cond (Nat.beq t 45) (some idK) (cond (Nat.beq t 147) (some (lapp idK (lapp idK [.int .i64]))) none)
noncomputable def CK : Ctx := ⟨Tryz.prog, tysK, fnsK, fun _ => false, flK⟩
theorem fl_id : FlatT Tryz.prog 2 45 idK := by
  obtain ⟨i, hi, hs⟩ := Option.map_eq_some_iff.1 (show (Tryz.prog.info? 5).map (·.size) = some 1 by kernel_rfl)
  exact .inr (.inr (.inr (.inl ⟨32, 5, [.int .u8], i, Tryz.underlying45, hi, hs, .inl ⟨.u8, Tryz.underlying5, rfl⟩, rfl⟩)))
theorem fl_sight : FlatT Tryz.prog 3 147 (lapp idK (lapp idK [.int .i64])) := by
  obtain ⟨i, hi, hs⟩ := Option.map_eq_some_iff.1 (show (Tryz.prog.info? 45).map (·.size) = some 32 by kernel_rfl)
  obtain ⟨j, hj, hsj⟩ := Option.map_eq_some_iff.1 (show (Tryz.prog.info? 2).map (·.size) = some 1 by kernel_rfl)
  refine .inr (.inr (.inr (.inr ⟨_, Tryz.underlying147, by kernel_rfl, ?_⟩)))
  refine ⟨by decide, rfl, idK, _, i, hi, hs.trans rfl, fl_id, ?_, by rw [lapp_eq]⟩
  refine ⟨by decide, rfl, idK, _, i, hi, hs.trans rfl, fl_id, ?_, by rw [lapp_eq]⟩
  exact ⟨by decide, rfl, [.int .i64], [], j, hj, hsj.trans rfl, .inl ⟨.i64, Tryz.underlying2, rfl⟩, rfl, rfl⟩
theorem info_of {P : Program} {t : Nat} {i : TypeInfo} (h : P.types.toList[t]? = some i) : P.info? t = some i := by
  have h1 : P.types[t]? = some i := by simpa using h
  have hlt : t < P.types.size := (Array.getElem?_eq_some_iff.1 h1).1
  unfold Tables.info?
  rw [if_pos hlt]
  exact h1
theorem func_of {P : Program} {f : Nat} {fn : Func} (h : P.funcs.toList[f]? = some fn) : P.funcs[f]? = some fn := by simpa using h
theorem ctx_ok : CK.OK where
  tys t i h := by
    exact info_of (get_ofL 12 Tryz.prog.types.toList t i h)
  fns f fn h := by
    exact func_of (get_ofL 12 Tryz.prog.funcs.toList f fn h)
  mixed := by kernel_rfl
  fl t l h := by
    have h' : flK t = some l := h
    unfold flK at h'
    cases h1 : Nat.beq t 45 with
    | true =>
      rw [h1] at h'
      cases h'
      rw [Nat.eq_of_beq_eq_true h1]
      exact ⟨2, by omega, fl_id⟩
    | false =>
      rw [h1] at h'
      simp only [cond_false] at h'
      cases h2 : Nat.beq t 147 with
      | true =>
        rw [h2] at h'
        cases h'
        rw [Nat.eq_of_beq_eq_true h2]
        exact ⟨3, by omega, fl_sight⟩
      | false => rw [h2] at h'; cases h'
  deep := Nat.le_of_ble_eq_true (by kernel_rfl)
/-- The first block's bytes, of a plan that gives none. -/
def inp1 : List UInt8 := List.replicate 46 0
def out1 : List UInt8 := [135, 143, 50, 247, 107, 21, 148, 148, 245, 163, 159, 147, 33, 97, 108, 96, 104, 205, 184, 46, 136, 223, 137, 188, 199, 57, 187, 193, 234, 120, 225, 249]
theorem sha_one : sha inp1 = out1 := by decide +kernel
noncomputable def u8s (l : List UInt8) : List Value := lmap (fun n => .int .u8 (.ofNat n.toNat)) l
noncomputable def sumA (st : St) (b off n c : Nat) : Option (Value × St) := match st.heap.get b with
  | some (.cells cs t k) => (match CK.info t with
    | some i => cond (Nat.beq i.size 1 && Nat.ble (off + c) (llen cs) && Nat.ble n c && Nat.ble c (2 ^ 40) && valEqs (valEq 1) (ltake n (ldrop off cs)) (u8s inp1)) (some (.agg ⟨u8s out1⟩, st)) none
    | none => none)
  | _ => none
noncomputable def extK : CallF := fun t args st => match t with
  | .fn f => cond (Nat.beq f 90) (match args with
    | [.slice (some ⟨b, off, none⟩) n c] => sumA st b off n c
    | _ => none) none
  | _ => none
theorem u8s_bl (l : List UInt8) : u8s l = bl l := by
  unfold u8s bl
  rw [lmap_eq]
  rfl
theorem u8s_same {e : Env} {l : List UInt8} {l' : List Value} (h : LR e (u8s l) l') : l' = u8s l := by
  unfold u8s at h ⊢
  rw [lmap_eq] at h ⊢
  induction l generalizing l' with
  | nil => exact h.unnil
  | cons x l ih =>
    obtain ⟨v', r, rfl, hv, hr⟩ := LR.uncons (v := .int .u8 (.ofNat x.toNat)) (l := l.map _) h
    rw [hv.int_inv, ih hr]
    rfl
theorem ext_ok {w0 : World} (hcub : Cubes w0) : ExtOK CK w0.heap.size w0 extK := by
  intro f args st v st' h e w args' hR ha
  have h' : cond (Nat.beq f 90) (match args with
    | [.slice (some ⟨b, off, none⟩) n c] => sumA st b off n c
    | _ => none) none = some (v, st') := h
  cases hf : Nat.beq f 90 with
  | false => rw [hf] at h'; cases h'
  | true =>
    rw [hf] at h'
    simp only [cond_true] at h'
    have hfe := Nat.eq_of_beq_eq_true hf
    subst hfe
    split at h'
    · rename_i b off n c
      obtain ⟨v', r, rfl, hv, hr⟩ := ha.uncons
      rw [hr.unnil]
      generalize hvv : (Value.slice (some ⟨b, off, none⟩) n c) = vv at hv
      cases hv with
      | sl hb =>
        cases hvv
        rename_i xb
        unfold sumA at h'
        split at h'
        · rename_i cs t k hg
          split at h'
          · rename_i i hi
            cases hall : (Nat.beq i.size 1 && Nat.ble (off + c) (llen cs) && Nat.ble n c && Nat.ble c (2 ^ 40) && valEqs (valEq 1) (ltake n (ldrop off cs)) (u8s inp1)) with
            | false => rw [hall] at h'; cases h'
            | true =>
              rw [hall] at h'
              simp only [cond_true, Option.some.injEq, Prod.mk.injEq] at h'
              obtain ⟨rfl, rfl⟩ := h'
              simp only [Bool.and_eq_true, llen_eq] at hall
              obtain ⟨⟨⟨⟨q1, q2⟩, q3⟩, q4⟩, q5⟩ := hall
              have q1 := Nat.eq_of_beq_eq_true q1
              have q2 := Nat.le_of_ble_eq_true q2
              have q3 := Nat.le_of_ble_eq_true q3
              have q4 := Nat.le_of_ble_eq_true q4
              have q5 := valEqs_eq (valEq_eq 1) _ _ q5
              have hcl : st.cells? b off n = some (ltake n (ldrop off cs)) := by
                unfold St.cells?
                rw [hg]
                simp only [llen_eq]
                rw [Nat.ble_eq_true_of_le (by omega)]
                rfl
              obtain ⟨l', g1, g2, g3⟩ := hR.cells_ hcl hb
              rw [q5] at g2 g3
              have g4 := u8s_same g2
              subst g4
              have hn : n = 46 := by rw [← g3, u8s_bl]; rfl
              subst hn
              have hcap : c + xb.room ≤ 9223372036854775807 := by
                obtain ⟨l2, fr, _, _, _, h0, h3⟩ := hR.at_ hg hb
                cases k with
                | grown =>
                  obtain ⟨j, hj, _, hbd, _⟩ := h3 rfl
                  have : j = i := by
                    have := info_ok ctx_ok hi
                    rw [hj] at this
                    exact Option.some.inj this
                  subst this
                  rw [q1, Nat.div_one] at hbd
                  omega
                | _ => have := h0 rfl; omega
              have hrd : RdB w (.slice (some ⟨xb.blk, off + xb.shift, none⟩) 46 (c + xb.room)) inp1 := by
                refine ⟨some ⟨xb.blk, off + xb.shift, none⟩, c + xb.room, rfl, ?_, (fun h => by cases h), (by show 46 ≤ _; omega), hcap⟩
                exact ⟨by simp [bl, inp1], fun _ => ⟨xb.blk, off + xb.shift, rfl, (hR.dom _ _ hb).1, fun j u hj => by
                  have := (readCells_at _ _ 0 _ g1).2 j u (by rw [u8s_bl]; exact hj)
                  rw [Nat.add_zero] at this
                  exact this⟩⟩
              have hc : Cubes w := hcub.keep hR.keep
              refine callE_of (shaSum_any _ inp1 w hrd hc (by decide)) ?_
              rintro v' w' ⟨rfl, hB⟩
              refine ⟨e, Fol.refl _ _, hR.below hB, ?_⟩
              rw [sha_one]
              have : VR e (.agg ⟨u8s out1⟩) (.agg ⟨u8s out1⟩) := VR.agg_ (by
                unfold u8s
                rw [lmap_eq]
                exact LR.map_ (fun _ => .int _ _) _)
              rw [u8s_bl] at this ⊢
              exact this
          · cases h'
        · cases h'
      | _ => cases hvv
    · cases h'
end Go.Proofs.YtlgoilobdiimeaaGreatDoor.Ex
namespace Go.Proofs.YtlgoilobdiimeaaGreatDoor.Ex
open Go Go.Proofs Go.RowKit
set_option linter.unusedVariables false
noncomputable def isTrue (r : Option (Value × St)) : Bool := match r with | some (.bool b, _) => b | _ => false
theorem isTrue_inv {r : Option (Value × St)} (h : isTrue r = true) : ∃ st, r = some (.bool true, st) := by
  unfold isTrue at h
  split at h
  · rename_i b st; exact ⟨st, by rw [h]⟩
  · cases h
theorem live_reckoned : isTrue (go CK extK 100000 60 (.fn 4) [] ⟨.leaf, 0⟩) = true := by kernel_rfl
theorem live_any (w : World) (hc : Cubes w) : callE Tryz.prog 4 #[] w fun v w' => v = .bool true ∧ Below w.heap.size w w' := by
  obtain ⟨st, h⟩ := isTrue_inv live_reckoned
  exact call_none ctx_ok (fun _ => rfl) (ext_ok hc) h rfl LR.nil
end Go.Proofs.YtlgoilobdiimeaaGreatDoor.Ex
namespace Go.Proofs.YtlgoilobdiimeaaGreatDoor.Ex
open Go Go.Proofs Go.RowKit
set_option linter.unusedVariables false
set_option linter.unusedSimpArgs false
noncomputable def restC : Code := match Tryz.f3.body with
  | some (.seq _ (.seq _ b)) => b
  | _ => .skip
/-- A move of which nothing is known. -/
def moveA : List Value := [anyV, anyV, anyV, anyV, anyV, anyV]
noncomputable def st0R : St := ⟨Tr.set .leaf 0 (.cells moveA 25 .exact), 1⟩

noncomputable def ptR (o : Nat) : Value := .pointer (some ⟨0, o, none⟩)
noncomputable def slR : Sl :=
  ((((((((((((((((argsA [.agg ⟨moveA⟩, anyV] 0 .leaf).set 2 (ptR 0)).set 4 (.bool false)).set 7 (.bool true)).set 8 (.bool false)).set 9 (.bool false)).set 10 (ptR 4)).set 11 anyV).set 12 anyV).set 13 (.bool false)).set 14 (.bool false)).set 15 (.bool false)).set 16 (ptR 5)).set 17 anyV).set 18 anyV).set 19 (.bool false)).set 20 (.bool false)
noncomputable def goodR (r : CO) (d : Nat) : Bool := match r with
  | some (.ret, ⟨s, _, []⟩) => (match s.get d with | some (.bool b) => b | _ => false)
  | _ => false
theorem goodR_inv {r : CO} {d : Nat} (h : goodR r d = true) : ∃ s st, r = some (.ret, ⟨s, st, []⟩) ∧ s.get d = some (.bool true) := by
  unfold goodR at h
  split at h
  · rename_i s st
    split at h
    · rename_i b hb; exact ⟨s, st, rfl, by rw [hb, h]⟩
    · cases h
  · cases h
theorem rest_reckoned : goodR (execC CK (go CK extK 100000 60) 100000 3 97 false restC ⟨slR, st0R, []⟩) 4 = true := by kernel_rfl
end Go.Proofs.YtlgoilobdiimeaaGreatDoor.Ex
namespace Go.Proofs.YtlgoilobdiimeaaGreatDoor.Ex
open Go Go.Proofs Go.RowKit
set_option linter.unusedVariables false
set_option linter.unusedSimpArgs false
set_option maxRecDepth 10000
theorem worldNone_any {w : World} (hC : Cubes w) (i : Int) (c0 c1 c2 c3 : Int) {A1 A2 : Option Addr} {n1 k1 n2 k2 : Nat} :
    callE Tryz.prog 3 #[.agg #[.int .i64 c0, .int .i64 c1, .int .i64 c2, .int .i64 c3, .slice A1 n1 k1, .slice A2 n2 k2], .int .i64 i] w fun v w' => v = .bool true ∧ Below w.heap.size w w' := by
  refine calls_W Tryz.func3 rfl rfl rfl (Nat.le_of_ble_eq_true rfl) ?_
  refine W_head fun b0 hb0 => ?_
  simp [go_sem, IntWalk.iteOmega, IntWalk.toNatUp]
  obtain ⟨W1, hW1⟩ : ∃ W1, w.alloc (.cells #[.int .i64 c0, .int .i64 c1, .int .i64 c2, .int .i64 c3, .slice A1 n1 k1, .slice A2 n2 k2] 25) = W1 := ⟨_, rfl⟩
  rw [hW1]
  have hB1 : Below w.heap.size w W1 := by rw [← hW1]; exact ext_alloc _ _
  have hS1 : W1.heap.size = w.heap.size + 1 := by rw [← hW1]; simp
  have hK1 : Blk W1 w.heap.size 25 #[.int .i64 c0, .int .i64 c1, .int .i64 c2, .int .i64 c3, .slice A1 n1 k1, .slice A2 n2 k2] := by rw [← hW1]; exact Blk.self_ rfl
  refine callE_of (live_any W1 (hC.keep hB1)) ?_
  rintro _ w2 ⟨rfl, hB2⟩
  have hK2 := hK1.keep hB2
  have x4 := hK2.cell 4
  have x5 := hK2.cell 5
  have hB12 := hB1.trans (hB2.mono hB1.size)
  by_cases g1 : (10000 : Int) < n1
  · simp [go_sem, IntWalk.iteOmega, IntWalk.toNatUp, x4, x5, g1]
    refine callE_of (live_any w2 ((hC.keep hB1).keep hB2)) ?_
    rintro _ w3 ⟨rfl, hB3⟩
    simp [go_sem, IntWalk.iteOmega, IntWalk.toNatUp]
    exact hB12.trans (hB3.mono hB12.size)
  · by_cases g2 : (1000 : Int) < n2
    · simp [go_sem, IntWalk.iteOmega, IntWalk.toNatUp, x4, x5, g1, g2]
      refine callE_of (live_any w2 ((hC.keep hB1).keep hB2)) ?_
      rintro _ w3 ⟨rfl, hB3⟩
      simp [go_sem, IntWalk.iteOmega, IntWalk.toNatUp]
      exact hB12.trans (hB3.mono hB12.size)
    · simp [go_sem, IntWalk.iteOmega, IntWalk.toNatUp, x4, x5, g1, g2]
      subst hb0
      show W Tryz.prog 97 restC _ w2 _
      have hmv : ∀ e : Env, LR e moveA [.int .i64 c0, .int .i64 c1, .int .i64 c2, .int .i64 c3, .slice A1 n1 k1, .slice A2 n2 k2] := fun e =>
        LR.cons (.any (fun b h => by cases h) rfl) (LR.cons (.any (fun b h => by cases h) rfl) (LR.cons (.any (fun b h => by cases h) rfl) (LR.cons (.any (fun b h => by cases h) rfl) (LR.cons (.any (fun b h => by cases h) rfl) (LR.cons (.any (fun b h => by cases h) rfl) LR.nil)))))
      have hR0 := (rel_none (C := CK) w (fun _ => rfl)).new_ (.cells moveA 25 .exact) (.cells #[.int .i64 c0, .int .i64 c1, .int .i64 c2, .int .i64 c3, .slice A1 n1 k1, .slice A2 n2 k2] 25) 0 0 (cr_exact (hmv _))
      rw [hW1] at hR0
      have hR := hR0.below hB2
      obtain ⟨s9, st9, hx, h9⟩ := goodR_inv rest_reckoned
      have hp : ∀ o, VR (Env.upd (fun _ => none) 0 ⟨w.heap.size, 0, 0⟩) (ptR o) (.pointer (some ⟨w.heap.size, o, none⟩)) := fun o => VR.ptr (x := ⟨w.heap.size, 0, 0⟩) (upd_self _ _ _)
      have hsl := argsA_ok (e := Env.upd (fun _ => none) 0 ⟨w.heap.size, 0, 0⟩) (LR.cons (VR.agg_ (hmv _)) (LR.cons (VR.any (v' := .int .i64 i) (fun b h => by cases h) rfl) LR.nil))
      refine W_exec (C := CK) (B := w.heap.size) (w0 := w) («as» := ⟨slR, st0R, []⟩) ctx_ok (ext_ok hC) rfl rfl hx hR ?_ ?_
      · show SlR _ slR _
        unfold slR
        iterate 16 refine slr_put ?_ (by omega) (by first | exact .bool _ | exact hp _ | exact .any (fun b h => by cases h) rfl)
        exact hsl
      · intro e' s' w' hR' hs'
        have h4 := hs' 4
        rw [show ogetD (s9.get 4) = .bool true by rw [h9]; rfl] at h4
        simp [go_sem, exOf, h4.bool_inv]
        exact hR'.keep
end Go.Proofs.YtlgoilobdiimeaaGreatDoor.Ex
namespace Go.Proofs.YtlgoilobdiimeaaGreatDoor
open Go.RowKit
set_option linter.unusedVariables false
section
variable {H : Type} {enc : TypeId × Value → H} {P : Program} {t e n : Nat} {q : IntKind}
theorem trod_int_same (he : P.underlying e = some (.int q)) (W W' : World) (base base' : Nat) (sp sp' : Nat → Bool) (held held' : Bool) (fuel : Nat) (cs : List Value) :
    DataW.trod enc P W base sp held fuel e cs = DataW.trod enc P W' base' sp' held' fuel e cs := by
  cases fuel with
  | zero => simp [DataW.trod]
  | succ m =>
    unfold DataW.trod; simp only [he]
    rcases cs with _ | ⟨v, _ | ⟨v2, r⟩⟩
    · rfl
    · cases v <;> rfl
    · cases v <;> rfl
theorem trod_arr_same (ht : P.underlying t = some (.array n e)) (he : P.underlying e = some (.int q)) (W W' : World) (base base' : Nat) (sp sp' : Nat → Bool) (held held' : Bool) (fuel : Nat) (cs : List Value) :
    DataW.trod enc P W base sp held fuel t cs = DataW.trod enc P W' base' sp' held' fuel t cs := by
  cases fuel with
  | zero => simp [DataW.trod]
  | succ m => unfold DataW.trod; simp only [ht, trod_int_same he W W' base base' sp sp' held held']
theorem Trod_arr_same (ht : P.underlying t = some (.array n e)) (he : P.underlying e = some (.int q)) {W : World} (W' : World) {base : Nat} (base' : Nat) {sp : Nat → Bool} (sp' : Nat → Bool) {held : Bool} (held' : Bool) {v : Value} {d : DataW H} {ps : List MemPlace}
    (h : DataW.Trod enc P W base sp held t v d ps) : DataW.Trod enc P W' base' sp' held' t v d ps := by
  obtain ⟨fuel, hf⟩ := h
  exact ⟨fuel, by rw [← hf]; exact (trod_arr_same ht he ..).symm⟩
theorem mapM_ints (he : P.underlying e = some (.int q)) {W : World} {base : Nat} {sp : Nat → Bool} {held : Bool} {m : Nat} {cs : List Value} : ∀ (L : List Nat) (ys : List (DataW H × List MemPlace)),
    L.mapM (fun i => DataW.trod enc P W base sp held m e ((cs.drop (i * 1)).take 1)) = some ys → (∀ i ∈ L, ∃ a, cs[i]? = some (.int q a) ∧ (Lit.int q a).wf = true) ∧ ys.flatMap (·.2) = []
  | [], ys, h => by simp at h; subst h; exact ⟨fun i hi => (by cases hi), rfl⟩
  | i :: L, ys, h => by
    rw [List.mapM_cons] at h
    simp only [bind, Option.bind_eq_some_iff, pure, Option.some.injEq] at h
    obtain ⟨y, hy, ys', hys, rfl⟩ := h
    obtain ⟨h1, h2⟩ := mapM_ints he L ys' hys
    obtain ⟨a, ea, rfl, wa⟩ := DataW.trod_int he hy
    refine ⟨fun j hj => ?_, by simpa using h2⟩
    rcases List.mem_cons.1 hj with rfl | hj
    · refine ⟨a, ?_, wa⟩
      rw [Nat.mul_one] at ea
      have := congrArg (·[0]?) ea
      simpa [List.getElem?_take, List.getElem?_drop] using this
    · exact h1 j hj
/-- An array of n bytes by value: there are n bytes, and its reading touches no place. -/
theorem open_bytes (ht : P.underlying t = some (.array n e)) (he : P.underlying e = some (.int .u8)) (h1 : P.cellsOf e = 1) (hn : P.cellsOf t = n) {W : World} {base : Nat} {sp : Nat → Bool} {held : Bool} {xs : Array Value} {d : DataW H} {ps : List MemPlace}
    (hd : DataW.Trod enc P W base sp held t (.agg xs) d ps) : (∃ x : List UInt8, x.length = n ∧ xs = (x.map fun c => Value.int .u8 c.toNat).toArray) ∧ ps = [] := by
  obtain ⟨fuel, hf⟩ := hd
  cases fuel with
  | zero => simp [DataW.trod] at hf
  | succ m =>
    unfold DataW.trod at hf
    simp only [ht, Value.cells, hn, h1] at hf
    split at hf
    · rename_i hlen
      simp only [Option.map_eq_some_iff] at hf
      obtain ⟨ys, hy, e1⟩ := hf
      obtain ⟨h2, h3⟩ := mapM_ints he _ _ hy
      refine ⟨⟨xs.toList.map fun | .int _ a => UInt8.ofNat a.toNat | _ => 0, by simpa using hlen, ?_⟩, by rw [← h3]; exact (congrArg Prod.snd e1).symm⟩
      apply Array.ext'
      rw [List.map_map]
      refine (List.map_id _).symm.trans (List.map_congr_left fun v hv => ?_)
      obtain ⟨i, hi, rfl⟩ := List.mem_iff_getElem.1 hv
      obtain ⟨a, ha, wa⟩ := h2 i (by simp; omega)
      rw [List.getElem?_eq_getElem hi] at ha
      injection ha with ha
      rw [ha]
      have wa' : 0 ≤ a ∧ a ≤ 255 := by have h := wa; simp [Lit.wf] at h; exact h
      simp only [id, Function.comp, UInt8.toNat_ofNat']
      congr 1
      omega
    · cases hf
end
end Go.Proofs.YtlgoilobdiimeaaGreatDoor
namespace Go.Proofs.YtlgoilobdiimeaaGreatDoor
open Go.RowKit Go.ChangeShapes Go.WideShapes
set_option linter.unusedVariables false
section
variable {H : Type} {enc : TypeId × Value → H} {P : Program}
theorem trodAll_below (hl : laidOutB P = true) {W W' : World} (hb : Below W.heap.size W W') : ∀ {ts : List TypeId} {vs : List Value} {ds : List (DataW H)} {ps : List MemPlace}, (∀ t ∈ ts, P.readableRec t = true ∧ t < P.types.size) →
    DataW.TrodAll enc P W 0 (fun _ => true) true ts vs ds ps → (∀ x ∈ ps, x.block < W.heap.size) → DataW.TrodAll enc P W' 0 (fun b => decide (b < W.heap.size)) true ts vs ds ps
  | [], _, _, _, _, h, _ => by
    obtain ⟨rfl, rfl, rfl⟩ := trodAll_nil h
    exact trodAll_mk0
  | t :: ts, _, _, _, hr, h, hlt => by
    obtain ⟨v, vs, d, ds, p, q, rfl, rfl, rfl, h1, h2⟩ := trodAll_cons h
    obtain ⟨r1, r2⟩ := hr t (by simp)
    exact trodAll_cons_mk (Below.trod hl r1 r2 h1 hb fun x hx => hlt x (by simp [hx])) (trodAll_below hl hb (fun t ht => hr t (by simp [ht])) h2 fun x hx => hlt x (by simp [hx]))
/-- What a law's row says behind a walk that answers yes and leaves the old blocks alone. -/
theorem law_post {fn : Func} {s : ChangeSpec} {W W' : World} {args : Array Value} {ds gs : List (DataW H)} {before : List MemPlace} {tb : TypeId} (hl : laidOutB P = true) (hr : fn.params.toList.all (fun t => P.readableRec t && decide (t < P.types.size)) = true)
    (hres : fn.resultTypes = #[tb]) (htb : P.underlying tb = some .bool) (hv : s.vars = []) (hW : DataW.Whole enc P fn.params.toList s.vars false W args.toList ds gs before)
    (hfn : s.fn H (ds ++ gs) = { results := [.lit (.bool true)], args := ds }) (hB : Below W.heap.size W W') : s.post enc P fn false true false false W args (.bool true) W' := by
  have hW' := hW
  obtain ⟨p, q, hA, hV, rfl, hfz, hnd⟩ := hW
  rw [hv] at hV
  obtain ⟨rfl, rfl⟩ := trodVars_none hV
  have hlt : ∀ x ∈ p, x.block < W.heap.size := fun x hx => hW'.lt x (by simp [hx])
  refine ⟨ds, [], p ++ [], [], p, [], hW', ?_, ?_, ?_, ?_, fun h => by cases h⟩
  · rw [hfn, hres]
    exact trodAll_cons_mk (shut_bool htb true) trodAll_mk0
  · rw [hfn]
    refine trodAll_below hl hB (fun t ht => ?_) hA hlt
    have := List.all_eq_true.1 hr t ht
    simpa using this
  · rw [hfn, hv]; rfl
  · exact hB.frame _
/-- A slice value that reads as so many cells, 'size' of them an element. -/
def Sl (w : World) (size : Nat) (v : Value) (n : Nat) (xs : List Value) : Prop := ∃ A c, v = .slice A n c ∧ Rd w size A n xs ∧ (A = none → n = 0 ∧ c = 0) ∧ n ≤ c ∧ c ≤ 9223372036854775807
theorem block_lt {w : World} {a : Addr} {v : Value} (h : w.cell? a = some v) : a.block < w.heap.size := by
  rcases Nat.lt_or_ge a.block w.heap.size with h1 | h1
  · exact h1
  · unfold World.cell? at h; rw [Array.getElem?_eq_none h1] at h; cases h
theorem addr_plain {w : World} {a : Addr} {v : Value} (h : w.cell? a = some v) : a = ⟨a.block, a.off, none⟩ := by
  have := World.cell?_spot h
  obtain ⟨b, o, s⟩ := a
  simp at this
  subst this
  rfl
/-- A slice's cells, opened: the slice, its cells, and each element's reading. -/
theorem open_sl0 {W : World} {b0 : Nat} {sp : Nat → Bool} {held : Bool} {t e : TypeId} {fuel : Nat} {cs : List Value} {x : DataW H × List MemPlace} (ht : P.underlying t = some (.slice e)) (hpos : 0 < P.cellsOf e) (hf : DataW.trod enc P W b0 sp held fuel t cs = some x) :
    ∃ u n xs, cs = [u] ∧ Sl W (P.cellsOf e) u n xs ∧ ∀ i, i < n → ∃ fuel y, DataW.trod enc P W b0 sp held fuel e ((xs.drop (i * P.cellsOf e)).take (P.cellsOf e)) = some y := by
  rcases Deep.open_slice ht hf with ⟨h0, _⟩ | ⟨a, n, c, m, k, D, Pl, hcs, hb, hl, hm, hmm, hx, hi⟩
  · exact ⟨_, 0, [], h0, ⟨none, 0, rfl, Rd.nil_ _ _ _, fun _ => ⟨rfl, rfl⟩, by omega, by omega⟩, fun i hi => by omega⟩
  · have hmn : n ≤ m := by rw [hmm]; split <;> omega
    generalize hC : P.cellsOf e = C at *
    have hcell : ∀ i, i < n → ∃ cs', cs'.length = C ∧ (∀ j, j < C → W.cell? (a.add (i * C + j)) = cs'[j]?) ∧ DataW.trod enc P W b0 sp held k e cs' = some (D i, Pl i) := by
      intro i hin
      obtain ⟨cs', h1, h2⟩ := hi i (by omega)
      obtain ⟨_, h3, h4⟩ := World.cells?_some h1
      refine ⟨cs', h3, fun j hj => ?_, h2⟩
      rw [← h4 j hj, Deep.add_add]
    obtain ⟨F, hF⟩ := Deep.choose_lt (α := List Value) (p := fun i cs' => cs'.length = C ∧ (∀ j, j < C → W.cell? (a.add (i * C + j)) = cs'[j]?) ∧ DataW.trod enc P W b0 sp held k e cs' = some (D i, Pl i)) hcell
    have hlen : ∀ q, q ≤ n → ((List.range q).flatMap F).length = q * C := by
      intro q
      induction q with
      | zero => intro _; simp
      | succ q ih => intro hq; rw [List.range_succ, List.flatMap_append, List.length_append, ih (by omega)]; simp [(hF q (by omega)).1, Nat.succ_mul]
    have hat : ∀ q, q ≤ n → ∀ i, i < q → (((List.range q).flatMap F).drop (i * C)).take C = F i := by
      intro q
      induction q with
      | zero => intro _ i hi; omega
      | succ q ih =>
        intro hq i hi
        have hfl : (List.range (q + 1)).flatMap F = (List.range q).flatMap F ++ F q := by rw [List.range_succ, List.flatMap_append]; simp
        rw [hfl]
        rcases Nat.lt_or_ge i q with h | h
        · have hle : i * C + C ≤ q * C := by rw [← Nat.succ_mul]; exact Nat.mul_le_mul_right _ h
          rw [List.drop_append_of_le_length (by rw [hlen q (by omega)]; omega), List.take_append_of_le_length (by rw [List.length_drop, hlen q (by omega)]; omega)]
          exact ih (by omega) i h
        · obtain rfl : i = q := by omega
          rw [List.drop_append, hlen i (by omega), List.drop_of_length_le (by rw [hlen i (by omega)]; exact Nat.le_refl _), Nat.sub_self]
          simp
          exact List.take_of_length_le (by rw [(hF i (by omega)).1]; exact Nat.le_refl _)
    refine ⟨_, n, (List.range n).flatMap F, hcs, ⟨some a, c, rfl, ⟨hlen n (Nat.le_refl _), fun hn => ?_⟩, (fun h => nomatch h), hl, by unfold maxLen at hm; exact hm⟩, fun i hi => ⟨k, _, by rw [hat n (Nat.le_refl _) i hi]; exact (hF i hi).2.2⟩⟩
    obtain ⟨f1, f2, _⟩ := hF 0 hn
    have h00 := f2 0 hpos
    rw [List.getElem?_eq_getElem (by omega)] at h00
    rw [Nat.zero_mul, Nat.add_zero] at h00
    have ha0 : a.add 0 = a := by obtain ⟨b, o, s⟩ := a; simp [Addr.add]
    rw [ha0] at h00
    have hap := addr_plain h00
    refine ⟨a.block, a.off, by rw [← hap], block_lt h00, fun j u hu => ?_⟩
    have hj : j < n * C := by
      have := (List.getElem?_eq_some_iff.1 hu).1
      rwa [hlen n (Nat.le_refl _)] at this
    have hC0 : 0 < C := hpos
    have hq : j / C < n := Nat.div_lt_of_lt_mul (by rw [Nat.mul_comm]; exact hj)
    have hr : j % C < C := Nat.mod_lt _ hC0
    have hdm : j / C * C + j % C = j := by rw [Nat.mul_comm]; exact Nat.div_add_mod j C
    obtain ⟨g1, g2, _⟩ := hF (j / C) hq
    have h5 := g2 (j % C) hr
    rw [hdm] at h5
    have h6 : (F (j / C))[j % C]? = some u := by
      rw [← hat n (Nat.le_refl _) (j / C) hq, List.getElem?_take, if_pos hr, List.getElem?_drop, hdm]
      exact hu
    rw [h6, hap, add_none] at h5
    exact h5
/-- A slice argument, opened: its cells, and each element's reading. -/
theorem open_sl {W : World} {base b0 : Nat} {sp : Nat → Bool} {held : Bool} {t e : TypeId} {v : Value} {d : DataW H} {ps : List MemPlace} (ht : P.underlying t = some (.slice e)) (hpos : 0 < P.cellsOf e) (hval : Value.okWide P W .any base t v)
    (hd : DataW.Trod enc P W b0 sp held t v d ps) :
    ∃ n xs, Sl W (P.cellsOf e) v n xs ∧ ∀ i, i < n → ∃ fuel y, DataW.trod enc P W b0 sp held fuel e ((xs.drop (i * P.cellsOf e)).take (P.cellsOf e)) = some y := by
  obtain ⟨A, n, c, rfl⟩ := okWide_slice ht hval
  obtain ⟨fuel, hf⟩ := hd
  obtain ⟨u, n', xs, h1, h2, h3⟩ := open_sl0 ht hpos hf
  simp [Value.cells] at h1
  subst h1
  exact ⟨n', xs, h2, h3⟩
/-- The elements of a slice of ints. -/
theorem ints_of {W : World} {b0 : Nat} {sp : Nat → Bool} {held : Bool} {e : TypeId} {k : IntKind} {v : Value} {n : Nat} {xs : List Value} (he : P.underlying e = some (.int k)) (hs : Sl W 1 v n xs)
    (hi : ∀ i, i < n → ∃ fuel y, DataW.trod enc P W b0 sp held fuel e ((xs.drop (i * 1)).take 1) = some y) : ∃ l : List Int, Sl W 1 v l.length (l.map (Value.int k)) ∧ ∀ a ∈ l, (Lit.int k a).wf = true := by
  have hlen : xs.length = n := by obtain ⟨A, c, _, h, _⟩ := hs; have := h.len; omega
  have hel : ∀ i, i < n → ∃ a, xs[i]? = some (.int k a) ∧ (Lit.int k a).wf = true := by
    intro i hin
    obtain ⟨fuel, y, hy⟩ := hi i hin
    obtain ⟨a, ea, _, wa⟩ := DataW.trod_int he hy
    refine ⟨a, ?_, wa⟩
    rw [Nat.mul_one] at ea
    have := congrArg (·[0]?) ea
    simpa [List.getElem?_take, List.getElem?_drop] using this
  let g : Value → Int := fun | .int _ a => a | _ => 0
  have hmap : xs = (xs.map g).map (Value.int k) := by
    apply List.ext_getElem?
    intro i
    rcases Nat.lt_or_ge i n with h | h
    · obtain ⟨a, ha, _⟩ := hel i h
      simp [ha, g]
    · rw [List.getElem?_eq_none (by omega), List.getElem?_eq_none (by simp; omega)]
  refine ⟨xs.map g, by rw [← hmap, List.length_map, hlen]; exact hs, fun a ha => ?_⟩
  obtain ⟨x, hx, rfl⟩ := List.mem_map.1 ha
  obtain ⟨i, hin⟩ := List.mem_iff_getElem?.1 hx
  obtain ⟨b, hb, wb⟩ := hel i (by rw [← hlen]; exact (List.getElem?_eq_some_iff.1 hin).1)
  rw [hin] at hb
  injection hb with hb
  subst hb
  exact wb
/-- A slice of ints of one kind. -/
theorem open_ints1 {W : World} {base b0 : Nat} {sp : Nat → Bool} {held : Bool} {t e : TypeId} {k : IntKind} {v : Value} {d : DataW H} {ps : List MemPlace} (ht : P.underlying t = some (.slice e)) (he : P.underlying e = some (.int k)) (hC : P.cellsOf e = 1) (hval : Value.okWide P W .any base t v)
    (hd : DataW.Trod enc P W b0 sp held t v d ps) : ∃ l : List Int, Sl W 1 v l.length (l.map (Value.int k)) ∧ ∀ a ∈ l, (Lit.int k a).wf = true := by
  obtain ⟨n, xs, hs, hi⟩ := open_sl ht (by omega) hval hd
  rw [hC] at hs hi
  exact ints_of he hs hi
/-- A slice of bytes. -/
theorem open_bytesl {W : World} {base b0 : Nat} {sp : Nat → Bool} {held : Bool} {t e : TypeId} {v : Value} {d : DataW H} {ps : List MemPlace} (ht : P.underlying t = some (.slice e)) (he : P.underlying e = some (.int .u8)) (hC : P.cellsOf e = 1) (hval : Value.okWide P W .any base t v)
    (hd : DataW.Trod enc P W b0 sp held t v d ps) : ∃ l : List UInt8, Sl W 1 v l.length (l.map fun c => Value.int .u8 c.toNat) := by
  obtain ⟨l, hs, hw⟩ := open_ints1 ht he hC hval hd
  have e1 : (l.map fun a => UInt8.ofNat a.toNat).map (fun c => Value.int .u8 c.toNat) = l.map (Value.int .u8) := by
    rw [List.map_map]
    refine List.map_congr_left fun a ha => ?_
    have wa' : 0 ≤ a ∧ a ≤ 255 := bounds_u8 (hw a ha)
    simp only [Function.comp, UInt8.toNat_ofNat']
    congr 1
    omega
  exact ⟨l.map fun a => UInt8.ofNat a.toNat, by rw [e1, List.length_map]; exact hs⟩
theorem bytes_of {W : World} {v : Value} {l : List Int} (hs : Sl W 1 v l.length (l.map (Value.int .u8))) (hw : ∀ a ∈ l, (Lit.int .u8 a).wf = true) : ∃ l : List UInt8, Sl W 1 v l.length (l.map fun c => Value.int .u8 c.toNat) := by
  have e1 : (l.map fun a => UInt8.ofNat a.toNat).map (fun c => Value.int .u8 c.toNat) = l.map (Value.int .u8) := by
    rw [List.map_map]
    refine List.map_congr_left fun a ha => ?_
    have wa' : 0 ≤ a ∧ a ≤ 255 := bounds_u8 (hw a ha)
    simp only [Function.comp, UInt8.toNat_ofNat']
    congr 1
    omega
  exact ⟨l.map fun a => UInt8.ofNat a.toNat, by rw [e1, List.length_map]; exact hs⟩
/-- A slice of slices of bytes. -/
theorem open_bytesls {W : World} {base b0 : Nat} {sp : Nat → Bool} {held : Bool} {t e q : TypeId} {v : Value} {d : DataW H} {ps : List MemPlace} (ht : P.underlying t = some (.slice e)) (he : P.underlying e = some (.slice q)) (hq : P.underlying q = some (.int .u8)) (hC : P.cellsOf e = 1) (hD : P.cellsOf q = 1)
    (hval : Value.okWide P W .any base t v) (hd : DataW.Trod enc P W b0 sp held t v d ps) :
    ∃ (vs : List Value) (ls : List (List UInt8)), vs.length = ls.length ∧ Sl W 1 v ls.length vs ∧ ∀ i, (h : i < vs.length) → (h' : i < ls.length) → Sl W 1 vs[i] ls[i].length (ls[i].map fun c => Value.int .u8 c.toNat) := by
  obtain ⟨n, xs, hs, hi⟩ := open_sl ht (by omega) hval hd
  rw [hC] at hs hi
  have hlen : xs.length = n := by obtain ⟨A, c, _, h, _⟩ := hs; have := h.len; omega
  have key : ∀ i, i < n → ∃ l : List UInt8, ∀ (h : i < xs.length), Sl W 1 xs[i] l.length (l.map fun c => Value.int .u8 c.toNat) := by
    intro i hin
    obtain ⟨fuel, y, hy⟩ := hi i hin
    obtain ⟨u, m, zs, h1, h2, h3⟩ := open_sl0 he (by omega) hy
    rw [hD] at h2 h3
    obtain ⟨l, h4, h5⟩ := ints_of hq h2 h3
    obtain ⟨l', h6⟩ := bytes_of h4 h5
    refine ⟨l', fun h => ?_⟩
    have : xs[i] = u := by
      have h7 := congrArg (·[0]?) h1
      simp [List.getElem?_take, List.getElem?_drop, List.getElem?_eq_getElem h] at h7
      exact h7
    rw [this]; exact h6
  obtain ⟨F, hF⟩ := Deep.choose_lt (α := List UInt8) (p := fun i l => ∀ (h : i < xs.length), Sl W 1 xs[i] l.length (l.map fun c => Value.int .u8 c.toNat)) key
  refine ⟨xs, (List.range n).map F, by simp [hlen], by simpa using hs, fun i h h' => ?_⟩
  have hin : i < n := by simpa using h'
  simp only [List.getElem_map, List.getElem_range]
  exact hF i hin h
end
end Go.Proofs.YtlgoilobdiimeaaGreatDoor
