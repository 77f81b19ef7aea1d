/-
  Texts joined: ExM.
-/
import Derived.Test.YtmcbcoafodmbjaaGreatDoorJoin12
namespace Go.Proofs.YtmcbcoafodmbjaaGreatDoor.Ex
open Go Go.RowKit
set_option linter.unusedVariables false
set_option linter.unusedSimpArgs false
theorem kfind_at {kk : KK} {k : Value} : ∀ {l : List MapEntry} {n i : Nat} {v : Value}, kfind kk k l n = some (some (i, v)) → ∃ a, n ≤ i ∧ l[i - n]? = some a ∧ a.val = v ∧ flatEq kk k a.key = some true
  | [], n, i, v, h => by cases h
  | a :: l, n, i, v, h => by
    rcases kfind_cons h with ⟨h1, h2⟩ | ⟨h1, h2⟩
    · cases h2
      exact ⟨a, Nat.le_refl _, by simp, rfl, h1⟩
    · obtain ⟨b, b1, b2, b3, b4⟩ := kfind_at h2
      refine ⟨b, by omega, ?_, b3, b4⟩
      rw [show i - n = (i - (n + 1)) + 1 by omega, List.getElem?_cons_succ]
      exact b2
theorem cellEq_true {f : FK} {x y : Value} {b : Bool} (h : cellEq f x y = some b) : (b = true → x = y) ∧ ∀ n, Instr.sameBits n x x = true := by
  cases f with
  | int k =>
    obtain ⟨p, q, rfl, rfl, h1⟩ := eqI_inv (x := x) (y := y) h
    refine ⟨fun hb => ?_, fun n => by cases n <;> simp [Instr.sameBits]⟩
    rw [hb] at h1
    have : p = q := by simpa using h1
    rw [this]
  | bool =>
    obtain ⟨p, q, rfl, rfl, h1⟩ := eqB_inv (x := x) (y := y) h
    refine ⟨fun hb => ?_, fun n => by cases n <;> simp [Instr.sameBits]⟩
    rw [hb] at h1
    have : p = q := by simpa using h1
    rw [this]
  | str =>
    obtain ⟨p, q, rfl, rfl, h1⟩ := eqS_inv (x := x) (y := y) h
    refine ⟨fun hb => ?_, fun n => by cases n <;> simp [Instr.sameBits, beq_toListBytes]⟩
    rw [hb] at h1
    have h3 : p = q := by
      have h2 : p.toList = q.toList := by
        rw [str_beq] at h1
        rw [toList_data, toList_data]
        simpa using h1.symm
      have h4 : p.data.toList = q.data.toList := by rw [← toList_data, ← toList_data]; exact h2
      have h5 : p.data = q.data := Array.ext' h4
      cases p; cases q; simp only at h5; rw [h5]
    rw [h3]
theorem cellsEq_true : ∀ {fs : List FK} {l m : List Value} {b : Bool}, cellsEq fs l m = some b → (b = true → l = m) ∧ ∀ n, ∀ x ∈ l.zip l, Instr.sameBits n x.1 x.2 = true
  | [], [], [], b, h => ⟨fun _ => rfl, fun n x hx => by simp at hx⟩
  | [], [], _ :: _, b, h => by cases h
  | [], _ :: _, _, b, h => by cases h
  | f :: fs, [], _, b, h => by cases h
  | f :: fs, _ :: _, [], b, h => by cases h
  | f :: fs, x :: l, y :: m, b, h => by
    obtain ⟨b1, b2, h1, h2, rfl⟩ := cellsEq_cons h
    obtain ⟨c1, c2⟩ := cellEq_true h1
    obtain ⟨d1, d2⟩ := cellsEq_true h2
    refine ⟨fun hb => ?_, fun n z hz => ?_⟩
    · simp only [Bool.and_eq_true] at hb
      rw [c1 hb.1, d1 hb.2]
    · simp only [List.zip_cons_cons, List.mem_cons] at hz
      rcases hz with rfl | hz
      · exact c2 n
      · exact d2 n z hz
theorem flatEq_true {kk : KK} {x y : Value} {b : Bool} (h : flatEq kk x y = some b) : (b = true → x = y) ∧ ∀ n, Instr.sameBits (n + 1) x x = true := by
  cases kk with
  | one f => obtain ⟨h1, h2⟩ := cellEq_true (f := f) h; exact ⟨h1, fun n => h2 _⟩
  | wide l =>
    obtain ⟨xs, ys, rfl, rfl, hc⟩ := wideEq_inv (l := l) h
    obtain ⟨h1, h2⟩ := cellsEq_true hc
    refine ⟨fun hb => by rw [h1 hb], fun n => ?_⟩
    simp only [Instr.sameBits, beq_self_eq_true, Bool.true_and, List.all_eq_true]
    exact h2 n
section
variable {C : Ctx} {B : Nat} {w0 : World} {callF : CallF} {e : Env} {st : St} {w : World} {s : Sl} {σ : Slots} {d : Option Tmp} {ty : TypeId} {pos : String} {after : Array Edge} {g : Option (Nat × Bool)}
theorem MR.modify {l l' : List MapEntry} (h : MR e l l') (i : Nat) {f f' : MapEntry → MapEntry} (hf : ∀ a a', VR e a.key a'.key ∧ VR e a.val a'.val ∧ a.born = a'.born → VR e (f a).key (f' a').key ∧ VR e (f a).val (f' a').val ∧ (f a).born = (f' a').born) : MR e (l.modify i f) (l'.modify i f') := by
  refine ⟨by simp [h.1], fun j a a' ha ha' => ?_⟩
  rw [List.getElem?_modify] at ha ha'
  simp only [Option.map_eq_map, Option.map_eq_some_iff] at ha ha'
  obtain ⟨b, hb, rfl⟩ := ha
  obtain ⟨b', hb', rfl⟩ := ha'
  by_cases hj : i = j
  · rw [if_pos hj, if_pos hj]; exact hf b b' (h.2 j b b' hb hb')
  · rw [if_neg hj, if_neg hj]; exact h.2 j b b' hb hb'
theorem MR.push {l l' : List MapEntry} (h : MR e l l') {a a' : MapEntry} (ha : VR e a.key a'.key ∧ VR e a.val a'.val ∧ a.born = a'.born) : MR e (l ++ [a]) (l' ++ [a']) := by
  refine ⟨by simp [h.1], fun j b b' hb hb' => ?_⟩
  rcases Nat.lt_or_ge j l.length with hj | hj
  · rw [List.getElem?_append_left hj] at hb
    rw [List.getElem?_append_left (by rw [← h.1]; exact hj)] at hb'
    exact h.2 j b b' hb hb'
  · rw [List.getElem?_append_right hj] at hb
    rw [List.getElem?_append_right (by rw [← h.1]; exact hj)] at hb'
    rw [← h.1] at hb'
    cases hk : j - l.length with
    | zero => rw [hk] at hb hb'; simp at hb hb'; subst hb hb'; exact ha
    | succ n => rw [hk] at hb; simp at hb
theorem MR.erase {l l' : List MapEntry} (h : MR e l l') (i : Nat) : MR e (l.eraseIdx i) (l'.eraseIdx i) := by
  refine ⟨by simp [List.length_eraseIdx, h.1], fun j b b' hb hb' => ?_⟩
  rw [List.getElem?_eraseIdx] at hb hb'
  by_cases hj : j < i
  · rw [if_pos hj] at hb hb'; exact h.2 j b b' hb hb'
  · rw [if_neg hj] at hb hb'; exact h.2 _ b b' hb hb'
theorem putObj_same {r : Nat} {o : Obj} (h : w.heap[r]? = some o) : w.putObj r o = w := by
  obtain ⟨hp, tp, dr, os, ou⟩ := w
  simp only [World.putObj]
  congr 1
  apply Array.ext_getElem?
  intro j
  rw [Array.getElem?_setIfInBounds]
  split
  · rename_i e1; subst e1
    split
    · exact h.symm
    · rename_i h2; rw [Array.getElem?_eq_none (by simpa using h2)]
  · rfl
theorem map_at (hR : Rel C B w0 e st w) {m : Operand} {b : Nat} {l : List MapEntry} {c : Nat} (hv : evA s m = .map (some b)) (hm : st.map? b = some (l, c)) (hx : VR e (evA s m) (ev σ m)) :
    ∃ x l', e b = some x ∧ ev σ m = .map (some x.blk) ∧ w.heap[x.blk]? = some (.map ⟨l'⟩ c) ∧ MR e l l' ∧ ∀ {l2 l2' : List MapEntry} {c2 : Nat}, MR e l2 l2' → Rel C B w0 e (st.put b (.obj (.map ⟨l2⟩ c2))) (w.putObj x.blk (.map ⟨l2'⟩ c2)) := by
  rw [hv] at hx
  generalize hσ : ev σ m = xv at hx
  cases hx with
  | map hb =>
    rename_i x
    obtain ⟨o', ho, hor⟩ := hR.obj_ (map?_ok hm) hb
    cases hor with
    | map _ hmr => exact ⟨x, _, hb, rfl, ho, hmr, fun h2 => hR.putObj_ (map?_ok hm) hb (.map _ h2)⟩
theorem modify_arr (l : List MapEntry) (i : Nat) (f : MapEntry → MapEntry) : (⟨l⟩ : Array MapEntry).modify i f = ⟨l.modify i f⟩ := by apply Array.ext'; simp
theorem push_arr (l : List MapEntry) (a : MapEntry) : (⟨l⟩ : Array MapEntry).push a = ⟨l ++ [a]⟩ := by apply Array.ext'; simp
theorem erase_arr (l : List MapEntry) (i : Nat) : (⟨l⟩ : Array MapEntry).eraseIdxIfInBounds i = ⟨l.eraseIdx i⟩ := by
  apply Array.ext'
  simp
theorem stays {kk : KK} {k v : Value} {l : List MapEntry} {i : Nat} (hf : kfind kk k l 0 = some (some (i, v))) (W : World) : (Instr.keyThatStays (((⟨l⟩ : Array MapEntry)[i]?.map (·.key)).getD k) k).run C.P W = .ok k W ∧ ((⟨l⟩ : Array MapEntry)[i]?.map (fun a => (a.born : Int))).getD 0 = (bornAt l i : Int) := by
  obtain ⟨a, _, h2, _, h4⟩ := kfind_at hf
  rw [Nat.sub_zero] at h2
  obtain ⟨h5, h6⟩ := flatEq_true h4
  have h7 : (⟨l⟩ : Array MapEntry)[i]? = some a := by simpa using h2
  refine ⟨?_, ?_⟩
  · rw [h7]
    have h8 : a.key = k := (h5 rfl).symm
    have h9 := h6 9999
    simp [Instr.keyThatStays, h8, h9]
  · rw [h7]
    unfold bornAt
    rw [lget_eq, h2]
    rfl
theorem lou_mapPut (hR : Rel C B w0 e st w) {t kt el : TypeId} {m k x : Operand} {kk : KK} (ht : C.P.underlying t = some (.map kt el)) (hk : KKT C.P kt kk) (hx : VR e (evA s m) (ev σ m)) (hy : VR e (evA s k) (ev σ k)) (hz : VR e (evA s x) (ev σ x)) :
    Lou C B w0 callF e w σ s st ⟨d, .mapUpdate t m k x, ty, pos, after, g⟩ (.mapPut kk m k x) ∧ Lou C B w0 callF e w σ s st ⟨d, .insert t m k x, ty, pos, after, g⟩ (.mapPut kk m k x) := by
  have key : ∀ v st', iMapPut st kk (evA s m) (evA s k) (evA s x) = some (v, st') → ∃ W, (Instr.mapUpdate t (ev σ m) (ev σ k) (ev σ x)).run C.P w = .ok () W ∧ PostA C B w0 st e st' v undef W := by
    intro v st' h'
    unfold iMapPut at h'
    split at h'
    · rename_i b hv
      split at h'
      · rename_i l c hm
        cases hp : plainKey kk (evA s k) <;> rw [hp] at h'
        · cases h'
        simp only [cond_true] at h'
        obtain ⟨xb, l', hb, hσ, hw, hmr, hput⟩ := map_at hR hv hm hx
        have hget := r_getObj (P := C.P) hw (by intro c e f h; cases h)
        have hset : ∀ o2, (setObj xb.blk o2).run C.P w = .ok () (w.putObj xb.blk o2) := fun o2 => r_setObj hw (by intro c e f h; cases h)
        have hchk : (Instr.checkKey false 10000 kt (ev σ k)).run C.P w = .ok () w := plain_check hk (plainKey_same hp hy)
        split at h'
        · rename_i i v1 hf
          simp only [Option.some.injEq, Prod.mk.injEq] at h'
          obtain ⟨rfl, rfl⟩ := h'
          rcases kfind_same hy hf hmr with ⟨h9, _⟩ | ⟨j, v2, v2', h9, hvv, hf'⟩
          · cases h9
          · cases h9
            have hfind := find_ok (w := w) hk hf'
            obtain ⟨hst, _⟩ := stays (C := C) hf' w
            refine ⟨_, ?_, post_put (c := .obj (.map ⟨lmod (fun a => ⟨evA s k, evA s x, a.born⟩) l i⟩ c)) (hput (l2' := l'.modify i fun a => ⟨ev σ k, ev σ x, a.born⟩) ?_) VR.undef_⟩
            · simp only [Instr.mapUpdate, hσ, Sem.run_bind, r_und ht, Result.andThen_ok, hget, hchk, hfind, hst, hset, modify_arr]
            · rw [lmod_eq]
              exact hmr.modify i fun a a' h => ⟨hy, hz, h.2.2⟩
        · rename_i hf
          simp only [Option.some.injEq, Prod.mk.injEq] at h'
          obtain ⟨rfl, rfl⟩ := h'
          rcases kfind_same hy hf hmr with ⟨_, hf'⟩ | ⟨j, v2, v2', h9, _⟩
          · have hfind := find_ok (w := w) hk hf'
            refine ⟨_, ?_, post_put (hput (l2' := l' ++ [⟨ev σ k, ev σ x, c⟩]) ?_) VR.undef_⟩
            · simp only [Instr.mapUpdate, hσ, Sem.run_bind, r_und ht, Result.andThen_ok, hget, hchk, hfind, hset, push_arr]
            · rw [lapp_eq]; exact hmr.push ⟨hy, hz, rfl⟩
          · cases h9
        · cases h'
      · cases h'
    · cases h'
  refine ⟨fun v st' _ h => ?_, fun v st' _ h => ?_⟩
  · obtain ⟨W, h1, h2⟩ := key v st' h
    simp only [execOp, Sem.run_bind, h1, Result.andThen_ok, Sem.run_pure]
    exact h2
  · obtain ⟨W, h1, h2⟩ := key v st' h
    simp only [execOp, Sem.run_bind, h1, Result.andThen_ok, Sem.run_pure]
    exact h2
theorem lou_mapEnt (hR : Rel C B w0 e st w) {t kt el : TypeId} {m k : Operand} {kk : KK} {i : TypeInfo} {z : Value} (ht : C.P.underlying t = some (.map kt el)) (hk : KKT C.P kt kk) (hi : C.P.info? el = some i) (hzr : i.zero = some z) (hnf : ∀ e' : Env, VR e' z z) (hx : VR e (evA s m) (ev σ m)) (hy : VR e (evA s k) (ev σ k)) :
    Lou C B w0 callF e w σ s st ⟨d, .mapEntry t m k, ty, pos, after, g⟩ (.mapEnt kk z m k) := by
  intro v st' _ h
  have h' : iMapEnt st kk z (evA s m) (evA s k) = some (v, st') := h
  unfold iMapEnt at h'
  split at h'
  · rename_i b hv
    split at h'
    · rename_i l c hm
      cases hp : plainKey kk (evA s k) <;> rw [hp] at h'
      · cases h'
      simp only [cond_true] at h'
      obtain ⟨xb, l', hb, hσ, hw, hmr, hput⟩ := map_at hR hv hm hx
      have hget := r_getObj (P := C.P) hw (by intro c e f h; cases h)
      have hset : ∀ o2, (setObj xb.blk o2).run C.P w = .ok () (w.putObj xb.blk o2) := fun o2 => r_setObj hw (by intro c e f h; cases h)
      have hchk : (Instr.checkKey false 10000 kt (ev σ k)).run C.P w = .ok () w := plain_check hk (plainKey_same hp hy)
      split at h'
      · rename_i i v1 hf
        simp only [Option.some.injEq, Prod.mk.injEq] at h'
        obtain ⟨rfl, rfl⟩ := h'
        rcases kfind_same hy hf hmr with ⟨h9, _⟩ | ⟨j, v2, v2', h9, hvv, hf'⟩
        · cases h9
        · cases h9
          have hfind := find_ok (w := w) hk hf'
          obtain ⟨hst, hbn⟩ := stays (C := C) hf' w
          have hbb : bornAt l i = bornAt l' i := by
            obtain ⟨a, _, a2, _, _⟩ := kfind_at hf
            obtain ⟨a', _, a2', _, _⟩ := kfind_at hf'
            rw [Nat.sub_zero] at a2 a2'
            unfold bornAt
            rw [lget_eq, lget_eq, a2, a2']
            exact (hmr.2 i a a' a2 a2').2.2
          have hrun : (execOp (ev σ) ⟨d, .mapEntry t m k, ty, pos, after, g⟩).run C.P w = .ok (.value (.tuple ⟨[v2', .int .i64 (.ofNat (bornAt l' i))]⟩)) (w.putObj xb.blk (.map ⟨l'.modify i fun a => ⟨ev σ k, a.val, a.born⟩⟩ c)) := by
            simp only [execOp, Instr.mapEntry, hσ, Sem.run_bind, r_und ht, Result.andThen_ok, hget, hchk, hfind, hst, hset, modify_arr, Sem.run_pure, hbn]
            rfl
          rw [hrun]
          refine post_put (hput ?_) (VR.tuple_ (LR.cons hvv (LR.cons (by rw [hbb]; exact .int _ _) LR.nil)))
          rw [lmod_eq]
          exact hmr.modify i fun a a' h => ⟨hy, h.2.1, h.2.2⟩
      · rename_i hf
        simp only [Option.some.injEq, Prod.mk.injEq] at h'
        obtain ⟨rfl, rfl⟩ := h'
        rcases kfind_same hy hf hmr with ⟨_, hf'⟩ | ⟨j, v2, v2', h9, _⟩
        · have hfind := find_ok (w := w) hk hf'
          have hrun : (execOp (ev σ) ⟨d, .mapEntry t m k, ty, pos, after, g⟩).run C.P w = .ok (.value (.tuple ⟨[z, .int .i64 (.ofNat c)]⟩)) (w.putObj xb.blk (.map ⟨l' ++ [⟨ev σ k, z, c⟩]⟩ (c + 1))) := by
            simp only [execOp, Instr.mapEntry, hσ, Sem.run_bind, r_und ht, Result.andThen_ok, hget, hchk, hfind, hset, push_arr, r_zero hi hzr, Sem.run_pure]
            rfl
          rw [hrun]
          refine post_put (hput ?_) (VR.tuple_ (LR.cons (hnf e) (LR.cons (.int _ _) LR.nil)))
          rw [lapp_eq]; exact hmr.push ⟨hy, hnf e, rfl⟩
        · cases h9
      · cases h'
    · cases h'
  · cases h'
end
end Go.Proofs.YtmcbcoafodmbjaaGreatDoor.Ex
