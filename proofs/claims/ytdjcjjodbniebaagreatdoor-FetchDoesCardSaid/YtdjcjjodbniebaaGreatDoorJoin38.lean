/-
  Texts joined: FRFail, FRSetA, FRSetK, FLinkL, FRLaw.
-/
import Derived.Test.YtdjcjjodbniebaaGreatDoorJoin37
namespace Go.Proofs.YtdjcjjodbniebaaGreatDoor
open Go.RowKit
set_option linter.unusedVariables false
set_option linter.unusedSimpArgs false
set_option maxRecDepth 10000
def numR (R : RF) (id : List UInt8) : Int := ((atL id R.A).map Prod.fst).getD 0
def failR (R : RF) (id : List UInt8) : Int × RF := if nowR R id = true then (0, { R with A := setA id (numR R id, false) R.A }) else (4, R)
section
variable {w : World} {O : Nat → Prop} {g : Nat} {R : RF} {tv kv av : Value} {vs : List Value} {ds : List (List UInt8 × Bk × Value)}
theorem RIn.ablk (h : RIn w O g R tv kv av vs ds) (h0 : 0 < R.A.length) : ∃ b c cur, av = .slice (some ⟨b, 0, none⟩) R.A.length c ∧ Blk w b 127 cur := by
  have harow := h.arow
  obtain ⟨-, aA, ac, rfl⟩ := own_sl harow
  rcases harow.2 with ⟨e, h0'⟩ | ⟨gg, cap, cur, e, _, hb, _⟩
  · omega
  · injection e with e1 e2 e3
    subst e1 e3
    exact ⟨gg, _, cur, rfl, hb⟩
theorem RIn.putA {ab ac : Nat} (h : RIn w O g R tv kv (.slice (some ⟨ab, 0, none⟩) R.A.length ac) vs ds) (hlen : ∀ x ∈ R.A, (aEnc x).length = 34) {k : Nat} (hk : k < R.A.length) {y : Int × Bool} {j : Nat} {v : Value} (hj : j < 34) (he : aEnc ((R.A[k]).1, y) = (aEnc R.A[k]).set j v) :
    RIn (w.setCell ⟨ab, k * 34 + j, none⟩ v) O g { R with A := R.A.set k ((R.A[k]).1, y) } tv kv (.slice (some ⟨ab, 0, none⟩) R.A.length ac) vs ds ∧ Keeps (fun j => ¬ O j) w (w.setCell ⟨ab, k * 34 + j, none⟩ v) := by
  have hown : (Value.slice (some ⟨ab, 0, none⟩) R.A.length ac).ownBlock = some ab := rfl
  have hOab : O ab := h.aorow ab hown
  have hk1 : Keeps (fun j => j ≠ ab) w (w.setCell ⟨ab, k * 34 + j, none⟩ v) := Keeps.setCell _ _ _ (fun hh => hh rfl)
  have e1 := row_ne h.arow h.blk (by decide)
  have hlt : k * 34 + j < R.A.length * 34 := by
    have : (k + 1) * 34 ≤ R.A.length * 34 := Nat.mul_le_mul_right _ hk
    omega
  have hset := rec_set R.A hlen k hk ((R.A[k]).1, y) j v hj he
  have harow := own_putN h.arow hlt v
  rw [hset] at harow
  refine ⟨⟨h.og, fun j hj => Nat.lt_of_lt_of_le (h.lt j hj) hk1.size, h.zero, hk1.blk h.blk (fun e => e1 (by rw [hown, e])), row_keeps h.trow hk1 (fun j hj e => rows_ne h.arow h.trow (by decide) ab hown (by rw [hj, e])), h.torow, h.vlen, fun i v' l h1 h2 => ⟨row_keeps (h.rows i v' l h1 h2).1 hk1 (fun j hj e => rows_ne h.arow (h.rows i v' l h1 h2).1 (by decide) ab hown (by rw [hj, e])), (h.rows i v' l h1 h2).2⟩, row_keeps h.krow hk1 (fun j hj e => rows_ne h.arow h.krow (by decide) ab hown (by rw [hj, e])), h.korow, h.kmap, fun x hx => ⟨(h.dat x hx).1, row_keeps (h.dat x hx).2.1 hk1 (fun j hj e => rows_ne h.arow (h.dat x hx).2.1 (by decide) ab hown (by rw [hj, e])), (h.dat x hx).2.2⟩, ?_, fun j hj => ?_⟩, Keeps.setCell _ _ _ (fun hh => hh hOab)⟩
  · show World.ownsRow _ 0 127 34 (.slice (some ⟨ab, 0, none⟩) R.A.length ac) (R.A.set k ((R.A[k]).1, y)).length ((R.A.set k ((R.A[k]).1, y)).flatMap aEnc)
    rw [List.length_set]
    exact harow
  · have : ab = j := by simpa [Value.ownBlock] using hj
    rw [← this]
    exact hOab
set_option maxHeartbeats 6400000 in
theorem rfailed_any (h : RIn w O g R tv kv av vs ds) (hok : ROk R) {id : List UInt8} (hid : id.length = 32) :
    callE Tryz.prog 70 #[.pointer (some ⟨g, 0, none⟩), .agg (bl id).toArray] w fun r w' => r = .int .i64 (failR R id).1 ∧ (∃ av', RIn w' O g (failR R id).2 tv kv av' vs ds) ∧ Keeps (fun j => ¬ O j) w w' := by
  have han := hok.an
  have l32 : (bl id).length = 32 := by rw [bl_length]; exact hid
  have kA := ext_alloc w (.cells (bl id).toArray 27)
  have hI : Blk (w.alloc (.cells (bl id).toArray 27)) w.heap.size 27 (bl id).toArray := Blk.self_ rfl
  have x1 := readCells_all hI 32 (by simpa using l32)
  refine calls_E Tryz.func70 rfl rfl rfl (Nat.le_of_ble_eq_true rfl) ?_
  simp [go_sem, IntWalk.iteOmega, IntWalk.toNatUp, x1]
  refine callE_of (rasked_any (h.keep kA) hok hid) ?_
  rintro _ w2 ⟨hcase, k2⟩
  have k02 := kA.trans (k2.mono kA.size)
  have h2 := h.keep k02
  rcases hcase with ⟨k, hk, rfl, hka, hkno⟩ | ⟨rfl, hno⟩
  · have hat := atL_first hk hka hkno
    have hnow : nowR R id = (R.A[k]).2.2 := by unfold nowR; rw [hat]; rfl
    have hnum : numR R id = (R.A[k]).2.1 := by unfold numR; rw [hat]; rfl
    have c36 := h2.c36 hok
    obtain ⟨ab, ac, cur, rfl, hblk⟩ := h2.ablk (by omega)
    obtain ⟨ab', ac', e, hab, hac⟩ := h2.acell hok hk
    injection e with e1 e2 e3
    injection e1 with e1
    injection e1 with e1
    subst e1
    have xa := (hac w2 (Below.refl _ _)).2
    have hkI : (k : Int) < R.A.length := by omega
    have hk0 : ¬ (k : Int) < 0 := by omega
    have hfz := hblk.frozen
    cases hb : (R.A[k]).2.2 with
    | true =>
      rw [hb] at xa hnow
      have hf : failR R id = (0, { R with A := setA id (numR R id, false) R.A }) := by unfold failR; rw [if_pos hnow]
      rw [hf]
      simp [go_sem, IntWalk.iteOmega, IntWalk.toNatUp, hk, hkI, hk0, c36, xa, hfz]
      have hp := h2.putA (aEnc_len hok) hk (y := ((R.A[k]).2.1, false)) (j := 33) (v := .bool false) (by decide) (by
        have l1 : (bl (R.A[k]).1).length = 32 := by rw [bl_length]; exact (hok.a _ (List.getElem_mem hk)).1
        unfold aEnc
        rw [List.set_append_right _ _ (by omega), l1]
        rfl)
      rw [hka] at hp
      rw [setA_first hk hka hkno, hnum]
      exact ⟨⟨_, hp.1⟩, (Keeps.of_ext k02).trans hp.2⟩
    | false =>
      rw [hb] at xa hnow
      have hf : failR R id = (4, R) := by unfold failR; rw [if_neg (by rw [hnow]; decide)]
      rw [hf]
      simp [go_sem, IntWalk.iteOmega, IntWalk.toNatUp, hk, hkI, hk0, c36, xa]
      exact ⟨⟨_, h2⟩, Keeps.of_ext k02⟩
  · have hnow : nowR R id = false := by unfold nowR; rw [atL_no hno]; rfl
    have hf : failR R id = (4, R) := by unfold failR; rw [if_neg (by rw [hnow]; decide)]
    rw [hf]
    simp [go_sem, IntWalk.iteOmega, IntWalk.toNatUp]
    exact ⟨⟨_, h2⟩, Keeps.of_ext k02⟩
end
theorem fold_a (x : List Value) (hx : x.length = 32) : List.foldl (fun (cs : Array Value) (x : Value × Nat) => cs.setIfInBounds x.snd x.fst) #[Value.int IntKind.u8 0, Value.int IntKind.u8 0, Value.int IntKind.u8 0, Value.int IntKind.u8 0, Value.int IntKind.u8 0, Value.int IntKind.u8 0, Value.int IntKind.u8 0, Value.int IntKind.u8 0, Value.int IntKind.u8 0, Value.int IntKind.u8 0, Value.int IntKind.u8 0, Value.int IntKind.u8 0, Value.int IntKind.u8 0, Value.int IntKind.u8 0, Value.int IntKind.u8 0, Value.int IntKind.u8 0, Value.int IntKind.u8 0, Value.int IntKind.u8 0, Value.int IntKind.u8 0, Value.int IntKind.u8 0, Value.int IntKind.u8 0, Value.int IntKind.u8 0, Value.int IntKind.u8 0, Value.int IntKind.u8 0, Value.int IntKind.u8 0, Value.int IntKind.u8 0, Value.int IntKind.u8 0, Value.int IntKind.u8 0, Value.int IntKind.u8 0, Value.int IntKind.u8 0, Value.int IntKind.u8 0, Value.int IntKind.u8 0, Value.int IntKind.i64 0, Value.bool false] x.zipIdx = (x ++ [Value.int .i64 0, Value.bool false]).toArray := by
  rw [foldl_set x 0 _ (by rw [hx]; decide), hx]
  rfl
theorem fold_a34 (x : List Value) (hx : x.length = 34) : List.foldl (fun (cs : Array Value) (x : Value × Nat) => cs.setIfInBounds x.snd x.fst) #[Value.int IntKind.u8 0, Value.int IntKind.u8 0, Value.int IntKind.u8 0, Value.int IntKind.u8 0, Value.int IntKind.u8 0, Value.int IntKind.u8 0, Value.int IntKind.u8 0, Value.int IntKind.u8 0, Value.int IntKind.u8 0, Value.int IntKind.u8 0, Value.int IntKind.u8 0, Value.int IntKind.u8 0, Value.int IntKind.u8 0, Value.int IntKind.u8 0, Value.int IntKind.u8 0, Value.int IntKind.u8 0, Value.int IntKind.u8 0, Value.int IntKind.u8 0, Value.int IntKind.u8 0, Value.int IntKind.u8 0, Value.int IntKind.u8 0, Value.int IntKind.u8 0, Value.int IntKind.u8 0, Value.int IntKind.u8 0, Value.int IntKind.u8 0, Value.int IntKind.u8 0, Value.int IntKind.u8 0, Value.int IntKind.u8 0, Value.int IntKind.u8 0, Value.int IntKind.u8 0, Value.int IntKind.u8 0, Value.int IntKind.u8 0, Value.int IntKind.i64 0, Value.bool false] x.zipIdx = x.toArray := by
  rw [foldl_set x 0 _ (by rw [hx]; decide), hx]
  rw [List.drop_of_length_le (by decide)]
  simp
theorem rcells_set {last : List UInt8} (h : last.length = 32) (height room : Int) (tv kv av v : Value) : (rcells last height room tv kv av).toArray.setIfInBounds 36 v = (rcells last height room tv kv v).toArray := by
  unfold rcells
  rw [List.setIfInBounds_toArray, List.set_append_right _ _ (by rw [bl_length, h]; decide), bl_length, h]
  rfl
section
variable {w : World} {O : Nat → Prop} {g : Nat} {R : RF} {tv kv av : Value} {vs : List Value} {ds : List (List UInt8 × Bk × Value)}
theorem RIn.newA {w9 : World} {av' : Value} {A' : List (List UInt8 × Int × Bool)} (h : RIn w O g R tv kv av vs ds) (hl : R.last.length = 32) (hk : Below w.heap.size w w9) (hown : w9.ownsRow w.heap.size 127 34 av' A'.length (A'.flatMap aEnc)) :
    RIn (w9.setCell ⟨g, 36, none⟩ av') (fun j => O j ∨ av'.ownBlock = some j) g { R with A := A' } tv kv av' vs ds ∧ Mine O (fun j => O j ∨ av'.ownBlock = some j) w (w9.setCell ⟨g, 36, none⟩ av') := by
  have h9 := h.keep hk
  have hk1 : Keeps (fun j => j ≠ g) w9 (w9.setCell ⟨g, 36, none⟩ av') := Keeps.setCell _ _ _ (fun hh => hh rfl)
  have hs := hk.size
  have hlt : ∀ j, (O j ∨ av'.ownBlock = some j) → j < (w9.setCell ⟨g, 36, none⟩ av').heap.size := fun j hj => by
    rw [sz_set]
    rcases hj with hj | hj
    · exact h9.lt j hj
    · exact (hown.lt j hj).2
  have nb : ∀ {e size n : Nat} {v : Value} {xs : List Value} {base : Nat}, w9.ownsRow base e size v n xs → e ≠ 125 → (w9.setCell ⟨g, 36, none⟩ av').ownsRow base e size v n xs := fun hr hne => row_keeps hr hk1 fun j hj e => row_ne hr h9.blk hne (by rw [hj, e])
  refine ⟨⟨.inl h.og, hlt, fun hj => ?_, ?_, nb h9.trow (by decide), fun j hj => .inl (h9.torow j hj), h9.vlen, fun i v l h1 h2 => ⟨nb (h9.rows i v l h1 h2).1 (by decide), fun j hj => .inl ((h9.rows i v l h1 h2).2 j hj)⟩, nb h9.krow (by decide), fun j hj => .inl (h9.korow j hj), h9.kmap, fun x hx => ⟨(h9.dat x hx).1, nb (h9.dat x hx).2.1 (by decide), fun j hj => .inl ((h9.dat x hx).2.2 j hj)⟩, nb (own_mono hown (Nat.zero_le _)) (by decide), fun j hj => .inr hj⟩, fun j hj => hj.imp (fun h => h) fun hj => (hown.lt j hj).1, hlt, (Keeps.of_ext hk).trans (Keeps.setCell _ _ _ fun hh => hh h.og)⟩
  · rcases hj with hj | hj
    · exact h.zero hj
    · have h1 := (hown.lt 0 hj).1
      have h2 := h.lt g h.og
      omega
  · have hb := Blk_set (o := 36) (v := av') h9.blk
    rw [rcells_set hl] at hb
    exact hb
end
theorem rcells_set35 {last : List UInt8} (h : last.length = 32) (height room : Int) (tv kv av v : Value) : (rcells last height room tv kv av).toArray.setIfInBounds 35 v = (rcells last height room tv v av).toArray := by
  unfold rcells
  rw [List.setIfInBounds_toArray, List.set_append_right _ _ (by rw [bl_length, h]; decide), bl_length, h]
  rfl
theorem rcells_set34 {last : List UInt8} (h : last.length = 32) (height room : Int) (tv kv av v : Value) : (rcells last height room tv kv av).toArray.setIfInBounds 34 v = (rcells last height room v kv av).toArray := by
  unfold rcells
  rw [List.setIfInBounds_toArray, List.set_append_right _ _ (by rw [bl_length, h]; decide), bl_length, h]
  rfl
section
variable {w : World} {O : Nat → Prop} {g : Nat} {R : RF} {tv kv av : Value} {vs : List Value} {ds : List (List UInt8 × Bk × Value)}
theorem RIn.newK {w9 : World} {kv' dv : Value} {nm : List UInt8} {b : Bk} (h : RIn w O g R tv kv av vs ds) (hl : R.last.length = 32) (hk : Below w.heap.size w w9) (hown : w9.ownsRow w.heap.size 167 66 kv' (ds ++ [(nm, b, dv)]).length ((ds ++ [(nm, b, dv)]).flatMap kEnc)) (hb : BkOk b) (hd : w9.ownsRow w.heap.size 5 1 dv b.data.length (bl b.data)) :
    RIn (w9.setCell ⟨g, 35, none⟩ kv') (fun j => O j ∨ kv'.ownBlock = some j ∨ dv.ownBlock = some j) g { R with K := R.K ++ [(nm, b)] } tv kv' av vs (ds ++ [(nm, b, dv)]) ∧ Mine O (fun j => O j ∨ kv'.ownBlock = some j ∨ dv.ownBlock = some j) w (w9.setCell ⟨g, 35, none⟩ kv') := by
  have h9 := h.keep hk
  have hk1 : Keeps (fun j => j ≠ g) w9 (w9.setCell ⟨g, 35, none⟩ kv') := Keeps.setCell _ _ _ (fun hh => hh rfl)
  have hs := hk.size
  have hlt : ∀ j, (O j ∨ kv'.ownBlock = some j ∨ dv.ownBlock = some j) → j < (w9.setCell ⟨g, 35, none⟩ kv').heap.size := fun j hj => by
    rw [sz_set]
    rcases hj with hj | hj | hj
    · exact h9.lt j hj
    · exact (hown.lt j hj).2
    · exact (hd.lt j hj).2
  have nb : ∀ {e size n : Nat} {v : Value} {xs : List Value} {base : Nat}, w9.ownsRow base e size v n xs → e ≠ 125 → (w9.setCell ⟨g, 35, none⟩ kv').ownsRow base e size v n xs := fun hr hne => row_keeps hr hk1 fun j hj e => row_ne hr h9.blk hne (by rw [hj, e])
  refine ⟨⟨.inl h.og, hlt, fun hj => ?_, ?_, nb h9.trow (by decide), fun j hj => .inl (h9.torow j hj), h9.vlen, fun i v l h1 h2 => ⟨nb (h9.rows i v l h1 h2).1 (by decide), fun j hj => .inl ((h9.rows i v l h1 h2).2 j hj)⟩, nb (own_mono hown (Nat.zero_le _)) (by decide), fun j hj => .inr (.inl hj), ?_, fun x hx => ?_, nb h9.arow (by decide), fun j hj => .inl (h9.aorow j hj)⟩, fun j hj => ?_, hlt, (Keeps.of_ext hk).trans (Keeps.setCell _ _ _ fun hh => hh h.og)⟩
  · have h2 := h.lt g h.og
    rcases hj with hj | hj | hj
    · exact h.zero hj
    · have h1 := (hown.lt 0 hj).1
      omega
    · have h1 := (hd.lt 0 hj).1
      omega
  · have hb' := Blk_set (o := 35) (v := kv') h9.blk
    rw [rcells_set35 hl] at hb'
    exact hb'
  · rw [List.map_append, h9.kmap]
    rfl
  · rcases List.mem_append.1 hx with hx | hx
    · exact ⟨(h9.dat x hx).1, nb (h9.dat x hx).2.1 (by decide), fun j hj => .inl ((h9.dat x hx).2.2 j hj)⟩
    · obtain rfl : x = (nm, b, dv) := by simpa using hx
      exact ⟨hb, nb (own_mono hd (Nat.zero_le _)) (by decide), fun j hj => .inr (.inr hj)⟩
  · rcases hj with hj | hj | hj
    · exact .inl hj
    · exact .inr (hown.lt j hj).1
    · exact .inr (hd.lt j hj).1
theorem RIn.newT {w9 : World} {tv' v : Value} {nm : List UInt8} {l : List Int} (h : RIn w O g R tv kv av vs ds) (hl : R.last.length = 32) (hk : Below w.heap.size w w9) (hown : w9.ownsRow w.heap.size 132 33 tv' (R.T ++ [(nm, l)]).length ((((R.T ++ [(nm, l)]).map Prod.fst).zip (vs ++ [v])).flatMap tcell)) (hv : w9.ownsRow w.heap.size 3 1 v l.length (intsK .i64 l)) :
    RIn (w9.setCell ⟨g, 34, none⟩ tv') (fun j => O j ∨ tv'.ownBlock = some j ∨ v.ownBlock = some j) g { R with T := R.T ++ [(nm, l)] } tv' kv av (vs ++ [v]) ds ∧ Mine O (fun j => O j ∨ tv'.ownBlock = some j ∨ v.ownBlock = some j) w (w9.setCell ⟨g, 34, none⟩ tv') := by
  have h9 := h.keep hk
  have hk1 : Keeps (fun j => j ≠ g) w9 (w9.setCell ⟨g, 34, none⟩ tv') := Keeps.setCell _ _ _ (fun hh => hh rfl)
  have hs := hk.size
  have hlt : ∀ j, (O j ∨ tv'.ownBlock = some j ∨ v.ownBlock = some j) → j < (w9.setCell ⟨g, 34, none⟩ tv').heap.size := fun j hj => by
    rw [sz_set]
    rcases hj with hj | hj | hj
    · exact h9.lt j hj
    · exact (hown.lt j hj).2
    · exact (hv.lt j hj).2
  have nb : ∀ {e size n : Nat} {v : Value} {xs : List Value} {base : Nat}, w9.ownsRow base e size v n xs → e ≠ 125 → (w9.setCell ⟨g, 34, none⟩ tv').ownsRow base e size v n xs := fun hr hne => row_keeps hr hk1 fun j hj e => row_ne hr h9.blk hne (by rw [hj, e])
  refine ⟨⟨.inl h.og, hlt, fun hj => ?_, ?_, nb (own_mono hown (Nat.zero_le _)) (by decide), fun j hj => .inr (.inl hj), by rw [List.length_append, List.length_append, h9.vlen]; rfl, fun i u m h1 h2 => ?_, nb h9.krow (by decide), fun j hj => .inl (h9.korow j hj), h9.kmap, fun x hx => ⟨(h9.dat x hx).1, nb (h9.dat x hx).2.1 (by decide), fun j hj => .inl ((h9.dat x hx).2.2 j hj)⟩, nb h9.arow (by decide), fun j hj => .inl (h9.aorow j hj)⟩, fun j hj => ?_, hlt, (Keeps.of_ext hk).trans (Keeps.setCell _ _ _ fun hh => hh h.og)⟩
  · have h2 := h.lt g h.og
    rcases hj with hj | hj | hj
    · exact h.zero hj
    · have h1 := (hown.lt 0 hj).1
      omega
    · have h1 := (hv.lt 0 hj).1
      omega
  · have hb' := Blk_set (o := 34) (v := tv') h9.blk
    rw [rcells_set34 hl] at hb'
    exact hb'
  · have h2' : (R.T.map Prod.snd ++ [l])[i]? = some m := by
      have e : (({ R with T := R.T ++ [(nm, l)] } : RF).T).map Prod.snd = R.T.map Prod.snd ++ [l] := by
        show (R.T ++ [(nm, l)]).map Prod.snd = _
        rw [List.map_append]
        rfl
      rw [e] at h2
      exact h2
    by_cases hi : i < vs.length
    · rw [List.getElem?_append_left hi] at h1
      rw [List.getElem?_append_left (by rw [List.length_map, ← h9.vlen]; exact hi)] at h2'
      exact ⟨nb (h9.rows i u m h1 h2').1 (by decide), fun j hj => .inl ((h9.rows i u m h1 h2').2 j hj)⟩
    · have hi1 : i < (vs ++ [v]).length := (List.getElem?_eq_some_iff.1 h1).1
      rw [List.length_append] at hi1
      obtain rfl : i = vs.length := by
        have : i < vs.length + 1 := hi1
        omega
      rw [List.getElem?_append_right (Nat.le_refl _), Nat.sub_self] at h1
      rw [h9.vlen, List.getElem?_append_right (by rw [List.length_map]; exact Nat.le_refl _), List.length_map, Nat.sub_self] at h2'
      obtain rfl : v = u := by simpa using h1
      obtain rfl : l = m := by simpa using h2'
      exact ⟨nb (own_mono hv (Nat.zero_le _)) (by decide), fun j hj => .inr (.inr hj)⟩
  · rcases hj with hj | hj | hj
    · exact .inl hj
    · exact .inr (hown.lt j hj).1
    · exact .inr (hv.lt j hj).1
end
theorem numB_beN : ∀ (n : Nat) (l : List UInt8), l.length = n → numB n (beN l) = l
  | 0, l, h => by
    obtain rfl := List.length_eq_zero_iff.1 h
    rfl
  | n + 1, l, h => by
    have hne : l ≠ [] := by rintro rfl; simp at h
    have e := List.dropLast_concat_getLast hne
    have hl : l.dropLast.length = n := by simp [h]
    have ih := numB_beN n l.dropLast hl
    generalize l.getLast hne = c at e
    generalize l.dropLast = l0 at e ih hl
    subst e
    rw [beN_snoc, numB_succ]
    have hc := c.toNat_lt
    rw [show (beN l0 * 256 + c.toNat) / 256 = beN l0 by omega, ih]
    congr 2
    apply UInt8.toNat_inj.1
    simp
theorem bytes_parse {l : List UInt8} (h : (parseB l).2 = 0) : bytesB (parseB l).1 = l := by
  unfold parseB at h ⊢
  split at h
  · simp at h
  · rename_i h1
    rw [if_neg h1]
    split at h
    · simp at h
    · rename_i h2
      rw [if_neg h2]
      have hend : pEnd l = 0 := Decidable.byContradiction fun hn => h2 (.inl hn)
      have hver : pVer l = 0 := Decidable.byContradiction fun hn => h2 (.inr (.inl hn))
      unfold madeB at h ⊢
      split at h
      · rename_i hck
        rw [if_pos hck]
        show bytesB (pBk l) = l
        have hc2 : (pCnt l).2.2 = 0 ∧ (pCnt l).2.1 = [] := by
          unfold pEnd at hend
          split at hend
          · rename_i hn; exact absurd hend hn
          · rename_i hn
            split at hend
            · rename_i he; exact ⟨Decidable.byContradiction hn, he⟩
            · simp at hend
        have hE3 : pE3 l = 0 := by
          refine Decidable.byContradiction fun hn => ?_
          have := hc2.1
          unfold pCnt cntV at this
          rw [if_pos hn] at this
          exact hn this
        obtain ⟨hE2, hl3⟩ := takeE_zero (show takeE 8 (pR2 l) (pE2 l) = 0 from hE3)
        obtain ⟨hE1, hl2⟩ := takeE_zero (show takeE 32 (pR1 l) (pE1 l) = 0 from hE2)
        obtain ⟨-, hl1⟩ := takeE_zero (show takeE 2 l 0 = 0 from hE1)
        have r1 : pR1 l = l.drop 2 := by unfold pR1 takeR; rw [if_pos ⟨rfl, hl1⟩]
        have v1 : takeL 2 l 0 = l.take 2 := by unfold takeL; rw [if_pos ⟨rfl, hl1⟩]
        have r2 : pR2 l = (pR1 l).drop 32 := by unfold pR2 takeR; rw [if_pos ⟨hE1, hl2⟩]
        have v2 : pPar l = (pR1 l).take 32 := by unfold pPar takeL; rw [if_pos ⟨hE1, hl2⟩]
        have r3 : pR3 l = (pR2 l).drop 8 := by unfold pR3 takeR; rw [if_pos ⟨hE2, hl3⟩]
        have v3 : pHei l = beN ((pR2 l).take 8) := by unfold pHei takeL; rw [if_pos ⟨hE2, hl3⟩]
        have hcn : pCnt l = cntV 4 200 (pR3 l) (pE3 l) := rfl
        unfold cntV at hcn
        rw [if_neg (by rw [hE3]; simp)] at hcn
        split at hcn
        · rw [hcn] at hc2; simp at hc2
        · rename_i g1
          split at hcn
          · rw [hcn] at hc2; simp at hc2
          · split at hcn
            · rw [hcn] at hc2; simp at hc2
            · rename_i g2 g3
              rw [hcn] at hc2
              have hnil : ((pR3 l).drop 4).drop (beN ((pR3 l).take 4)) = [] := hc2.2
              have hdat : (pCnt l).1 = ((pR3 l).drop 4).take (beN ((pR3 l).take 4)) := by rw [hcn]
              have hdl : ((pR3 l).drop 4).length = beN ((pR3 l).take 4) := by
                have h5 := congrArg List.length hnil
                simp only [List.length_drop, List.length_nil] at h5 ⊢
                omega
              have hdat2 : (pCnt l).1 = (pR3 l).drop 4 := by
                rw [hdat, ← hdl, List.take_length]
              have n1 : numB 2 0 = l.take 2 := by
                have := numB_beN 2 (l.take 2) (by rw [List.length_take]; omega)
                rw [← this, ← v1]
                rw [show beN (takeL 2 l 0) = 0 from hver]
              have n2 : numB 8 (pHei l) = (pR2 l).take 8 := by
                rw [v3]
                exact numB_beN 8 _ (by rw [List.length_take]; omega)
              have n3 : numB 4 (pCnt l).1.length = (pR3 l).take 4 := by
                rw [hdat2, hdl]
                exact numB_beN 4 _ (by rw [List.length_take]; omega)
              show numB 2 0 ++ pPar l ++ numB 8 ((pHei l : Int).toNat) ++ numB 4 (pCnt l).1.length ++ (pCnt l).1 = l
              rw [Int.toNat_natCast, n1, n2, n3, hdat2, v2]
              simp only [List.append_assoc]
              rw [List.take_append_drop, r3, List.take_append_drop, r2, List.take_append_drop, r1, List.take_append_drop]
      · simp at h
/-! a row of children above a block, the lowest first -/
def NamedK (S : FS) : Prop := ∀ x ∈ S.kept, (idB x.2).1 = x.1
/-! what each call leaves -/
theorem gotL_kept (id : List UInt8) : ∀ (raws : List (List UInt8)) (S : FS) (ahead : List Bk), NamedK S → NamedK (gotL id raws S ahead).1 ∧ (gotL id raws S ahead).1.last = S.last ∧ (gotL id raws S ahead).1.height = S.height ∧ (gotL id raws S ahead).1.ts = S.ts
  | [], S, ahead, h => ⟨h, rfl, rfl, rfl⟩
  | raw :: rest, S, ahead, h => by
    rw [gotL_cons]
    split
    · exact ⟨h, rfl, rfl, rfl⟩
    · rename_i hp
      split
      · exact ⟨h, rfl, rfl, rfl⟩
      · split
        · exact ⟨h, rfl, rfl, rfl⟩
        · split
          · exact ⟨h, rfl, rfl, rfl⟩
          · have hp' : (parseB raw).2 = 0 := Decidable.byContradiction fun hn => hp hn
            have := gotL_kept id rest { S with kept := S.kept ++ [(sha raw, (parseB raw).1)] } (ahead ++ [(parseB raw).1]) (fun x hx => by
              rcases List.mem_append.1 hx with hx | hx
              · exact h x hx
              · obtain rfl : x = (sha raw, (parseB raw).1) := by simpa using hx
                exact idB_eq (parse_ok hp').2 (by rw [bytes_parse hp']))
            exact this
structure LinkI (S : FS) (lastB : Bk) (T : List (List UInt8)) : Prop where
  last : S.last = sha (bytesB lastB)
  height : S.height = lastB.height
  named : NamedK S
  ts : ∀ t ∈ S.ts, t.1 ∈ T
theorem LinkI.got {S : FS} {lastB : Bk} {T : List (List UInt8)} (h : LinkI S lastB T) (id : List UInt8) (raws : List (List UInt8)) : LinkI (gotF S id raws).2 lastB T := by
  unfold gotF
  split
  · obtain ⟨g1, g2, g3, g4⟩ := gotL_kept id (raws.take 16) { S with asked := delB id S.asked } [] h.named
    exact ⟨g2.trans h.last, g3.trans h.height, g1, fun t ht => h.ts t (by rw [g4] at ht; exact ht)⟩
  · exact h
theorem LinkI.fail {S : FS} {lastB : Bk} {T : List (List UInt8)} (h : LinkI S lastB T) (id : List UInt8) : LinkI (failF S id).2 lastB T := by
  unfold failF
  split
  · exact ⟨h.last, h.height, h.named, h.ts⟩
  · exact h
theorem LinkI.ask {S : FS} {lastB : Bk} {T : List (List UInt8)} (h : LinkI S lastB T) (id : List UInt8) : LinkI (askF S id).2 lastB T := by
  unfold askF
  split
  · exact h
  · split
    · exact h
    · exact ⟨h.last, h.height, h.named, h.ts⟩
theorem LinkI.mono {S : FS} {lastB : Bk} {T T' : List (List UInt8)} (h : LinkI S lastB T) (hT : ∀ x ∈ T, x ∈ T') : LinkI S lastB T' := ⟨h.last, h.height, h.named, fun t ht => hT _ (h.ts t ht)⟩
theorem LinkI.target {S : FS} {lastB : Bk} {T : List (List UInt8)} (h : LinkI S lastB T) (id : List UInt8) (us : List Int) : LinkI (targetF S id us).2 lastB (if (targetF S id us).1 = 0 then T ++ [id] else T) := by
  unfold targetF
  split
  · exact h
  · split
    · exact h
    · refine ⟨h.last, h.height, h.named, fun t ht => ?_⟩
      show t.1 ∈ T ++ [id]
      rcases putAt_mem ht with rfl | ht
      · simp
      · exact List.mem_append_left _ (h.ts t ht)
structure RelR (S : FS) (R : RF) : Prop where
  last : R.last = S.last
  height : R.height = S.height
  room : R.room = S.room
  T : R.T = S.ts
  K : R.K = S.kept
  now : ∀ id, nowR R id = askedB S.asked id
theorem bad_iff {S : FS} {R : RF} (hr : RelR S R) {out : List Bk} {b : Bk} {a : List UInt8} (hb : BkOk b ∧ checkB b = 0) (ha : sha (bytesB b) = a) (hout : ∀ c, out.getLast? = some c → c.parent = a ∧ BkOk c ∧ checkB c = 0) : wayBad S out b ↔ (wayOff R out b ∨ wayOut R b) := by
  have key : ∀ c, out.getLast? = some c → (linkedB c b ≠ 0 ↔ c.height - 1 ≠ b.height) := fun c hc => by
    obtain ⟨h1, h2, h3⟩ := hout c hc
    have hhi := h2.hi
    refine not_congr ⟨fun h => ?_, fun h => ?_⟩
    · have := linkedB_height h
      omega
    · unfold linkedB
      rw [if_neg (by rw [hb.2, h3]; simp), if_neg]
      rintro (h' | h' | h')
      · exact h' (by rw [h1, ha])
      · omega
      · omega
  unfold wayBad wayOff wayOut
  rw [hr.height, hr.last]
  constructor
  · rintro (h | h | ⟨c, hc, h⟩)
    · exact .inr (.inl h)
    · exact .inr (.inr h)
    · exact .inl ⟨c, hc, (key c hc).1 h⟩
  · rintro (⟨c, hc, h⟩ | h | h)
    · exact .inr (.inr ⟨c, hc, (key c hc).2 h⟩)
    · exact .inl h
    · exact .inr (.inl h)
theorem way_go_eq {S : FS} {R : RF} (hr : RelR S R) (hok : FOk S) (hn : NamedK S) : ∀ (n : Nat) (out : List Bk) (a : List UInt8), out.length + n = S.kept.length + 1 → WayI S out → (∀ c, out.getLast? = some c → c.parent = a ∧ BkOk c ∧ checkB c = 0) →
    (wayL S n out a).2.1 = (wayR R n out a).2.2 ∧ ((wayR R n out a).2.2 ≠ 2 → (wayR R n out a).1 = (wayL S n out a).1 ∧ (wayR R n out a).2.1 = (wayL S n out a).2.2)
  | 0, out, a, hl, hw, hout => by
    have := hw.len
    omega
  | n + 1, out, a, hl, hw, hout => by
    by_cases ha : a = S.last
    · subst ha
      rw [wayL_last, wayR_last hr.last.symm]
      exact ⟨rfl, fun _ => ⟨rfl, rfl⟩⟩
    · have ha' : a ≠ R.last := by rw [hr.last]; exact ha
      cases hkp : keptOf S a with
      | none =>
        have hk' : atL a R.K = none := by rw [hr.K]; exact hkp
        rw [wayL_missing ha hkp, wayR_none ha' hk']
        exact ⟨rfl, fun _ => ⟨rfl, rfl⟩⟩
      | some b =>
        have hk' : atL a R.K = some b := by rw [hr.K]; exact hkp
        have hbk := hok.kept _ (atL_mem hkp)
        have hnm := hn _ (atL_mem hkp)
        have hsha : sha (bytesB b) = a := by
          have h1 := hnm
          dsimp only at h1
          rw [← h1]
          exact (idB_eq hbk.2 rfl).symm
        have hiff := bad_iff hr hbk hsha hout
        by_cases hb : wayBad S out b
        · rw [wayL_dead ha hkp hb]
          by_cases hof : wayOff R out b
          · rw [wayR_off ha' hk' hof]
            exact ⟨rfl, fun h => absurd rfl h⟩
          · rw [wayR_out ha' hk' hof ((hiff.1 hb).resolve_left hof)]
            exact ⟨rfl, fun h => absurd rfl h⟩
        · have hof : ¬ wayOff R out b := fun h => hb (hiff.2 (.inl h))
          have ho : ¬ wayOut R b := fun h => hb (hiff.2 (.inr h))
          rw [wayL_next ha hkp hb, wayR_next ha' hk' hof ho]
          refine way_go_eq hr hok hn n _ _ (by rw [List.length_append]; show out.length + 1 + n = _; omega) (hw.snoc hkp hb) fun c hc => ?_
          rw [List.getLast?_append] at hc
          obtain rfl : b = c := by simpa using hc
          exact ⟨rfl, hbk⟩
theorem way_eq {S : FS} {R : RF} (hr : RelR S R) (hok : FOk S) (hn : NamedK S) (a : List UInt8) : (wayF S a).2.1 = (endR R a).2.2 ∧ ((endR R a).2.2 ≠ 2 → (endR R a).1 = (wayF S a).1 ∧ (endR R a).2.1 = (wayF S a).2.2) := by
  unfold wayF endR
  rw [hr.K]
  exact way_go_eq hr hok hn _ [] a (by simp) ⟨by simp, by simp⟩ (by simp)
theorem state_eq {S : FS} {R : RF} (hr : RelR S R) (hok : FOk S) (hn : NamedK S) (a : List UInt8) : stateR R a = stateF S a := by
  unfold stateR stateF
  rw [hr.T, (way_eq hr hok hn a).1]
theorem putAt_names {α : Type} (a : List UInt8) (v : α) : ∀ L : List (List UInt8 × α), (putAt a v L).map Prod.fst = if a ∈ L.map Prod.fst then L.map Prod.fst else L.map Prod.fst ++ [a]
  | [] => by simp [putAt]
  | x :: L => by
    have ih := putAt_names a v L
    unfold putAt
    by_cases h : a = x.1
    · simp [h]
    · simp only [h, if_false, List.map_cons, List.mem_cons, false_or]
      rw [ih]
      by_cases h2 : a ∈ L.map Prod.fst
      · rw [if_pos h2, if_pos h2]
      · rw [if_neg h2, if_neg h2]
        rfl
theorem miss_go_eq {S : FS} {R : RF} (hr : RelR S R) (hok : FOk S) (hn : NamedK S) : ∀ (L : List (List UInt8 × List Int)) (M : List (List UInt8 × List Int)), (L.foldl (missStep S) M).map Prod.fst = L.foldl (missStepR R) (M.map Prod.fst)
  | [], M => rfl
  | t :: L, M => by
    show ((L.foldl (missStep S) (missStep S M t)).map Prod.fst) = L.foldl (missStepR R) (missStepR R (M.map Prod.fst) t)
    rw [miss_go_eq hr hok hn L]
    congr 1
    obtain ⟨h1, h2⟩ := way_eq hr hok hn t.1
    unfold missStep missStepR
    rw [h1]
    by_cases h0 : (endR R t.1).2.2 = 0
    · have hne := (h2 (by rw [h0]; decide)).2
      rw [if_pos h0, ← hne, putAt_names]
      by_cases hm : (endR R t.1).2.1 ∈ M.map Prod.fst
      · rw [if_pos hm, if_pos (.inr hm)]
      · rw [if_neg hm, if_neg]
        rintro (h | h)
        · exact h h0
        · exact hm h
    · rw [if_neg h0, if_pos (.inl h0)]
theorem miss_eq {S : FS} {R : RF} (hr : RelR S R) (hok : FOk S) (hn : NamedK S) : missR R = (missL S).map Prod.fst := by
  unfold missR missL
  rw [hr.T, miss_go_eq hr hok hn]
  rfl
theorem done_eq {S : FS} {R : RF} (hr : RelR S R) (hok : FOk S) (hn : NamedK S) : missR R = [] ↔ missL S = [] := by
  rw [miss_eq hr hok hn]
  simp
theorem wants_eq {S : FS} {R : RF} (hr : RelR S R) (hok : FOk S) (hn : NamedK S) : wantsR R = wantsF S := by
  unfold wantsR wantsF
  rw [miss_eq hr hok hn]
  unfold freeL
  congr 1
  funext x
  rw [hr.now]
end Go.Proofs.YtdjcjjodbniebaaGreatDoor
