/-
  Texts joined: FEntry, FAsk, FSmall.
-/
import Derived.Test.YtdjcjjodbniebaaGreatDoorJoin21
import Derived.WideKeyEntry
namespace Go.Proofs.YtdjcjjodbniebaaGreatDoor
open Go.RowKit
set_option linter.unusedVariables false
set_option linter.unusedSimpArgs false
theorem putId_len {a : List UInt8} {v : Value} (ha : a.length = 32) : ∀ {L : List (List UInt8 × Value)}, (∀ x ∈ L, x.1.length = 32) → ∀ x ∈ putId a v L, x.1.length = 32
  | [], _, x, hx => by
    simp [putId] at hx; subst hx; exact ha
  | y :: L, hL, x, hx => by
    unfold putId at hx
    split at hx
    · rcases List.mem_cons.1 hx with rfl | hx
      · exact ha
      · exact hL x (List.mem_cons_of_mem _ hx)
    · rcases List.mem_cons.1 hx with rfl | hx
      · exact hL x (List.mem_cons_self ..)
      · exact putId_len ha (fun z hz => hL z (List.mem_cons_of_mem _ hz)) x hx
theorem atId_put {a : List UInt8} {v : Value} : ∀ {L : List (List UInt8 × Value)}, atId a (putId a v L) = some v
  | [] => by simp [putId, atId]
  | y :: L => by
    unfold putId
    split
    · simp [atId]
    · rename_i h; simp [atId, h, atId_put]
theorem run_entryI {P : Program} {kt : TypeId} (K : IdKey P kt) {w : World} {r : Nat} {L : List (List UInt8 × Value)} {t et : TypeId} (h : MpI w r L) (hm : P.underlying t = some (.map kt et)) (a : List UInt8) (ha : a.length = 32) {z : Value} (hz : ∀ w, (zeroValue et).run P w = .ok z w) :
    ∃ (v0 : Value) (st : Nat) (w1 : World) (L1 : List (List UInt8 × Value)), (Instr.mapEntry t (.map (some r)) (idv a)).run P w = .ok (.tuple #[v0, goInt st]) w1 ∧ v0 = (atId a L).getD z ∧ MpI w1 r L1 ∧ atId a L1 = some v0 ∧ TurnedAt w w1 r ∧
      ∀ (w2 : World) (val : Value), w2.heap[r]? = w1.heap[r]? → ∃ w3, (Instr.entryStore t (.map (some r)) (goInt st) val).run P w2 = .ok () w3 ∧ MpI w3 r (putId a val L) ∧ TurnedAt w2 w3 r := by
  obtain ⟨es, c, h1, h2, hS, hl⟩ := h
  have hf := run_findI K (w := w) (r := r) (L := L) ⟨es, c, h1, h2, hS, hl⟩ a ha h1 w
  obtain ⟨s1, s2, s3⟩ := id hS
  rcases findI K a ha es.toList L 0 h2 hl with ⟨p1, p2, p4⟩ | ⟨i, u, p1, p2, p3, p4, p5⟩
  · have hat : ∀ x ∈ es.toList, x.key ≠ idv a := fun x hx e => atId_none p1 h2 x hx e
    refine ⟨z, c, { w with heap := w.heap.setIfInBounds r (.map (es.push { key := idv a, val := z, born := c }) (c + 1)) }, putId a z L, ?_, by rw [p1]; rfl, ⟨_, _, (MapKept.heap_set h1).1, ?_, MapKept.stamped_push hS hat, putId_len ha hl⟩, atId_put, turned_set _ _ _, fun w2 val hw2 => ?_⟩
    · unfold Instr.mapEntry
      simp only [Sem.run_bind, run_underlying hm, Result.andThen, MapKept.run_getObj_map h1, Sem.run_pure, K.check a ha]
      simp [hf, p2 w, hz, Result.andThen, MapKept.run_setObj_map _ h1]
    · rw [putId_new p1]; simp [h2]
    · have h12 : w2.heap[r]? = some (.map (es.push { key := idv a, val := z, born := c }) (c + 1)) := hw2.trans (MapKept.heap_set h1).1
      have hidx : (es.push ⟨idv a, z, c⟩).findIdx? (fun e => ((e.born : Nat) : Int) == ((c : Nat) : Int)) = some es.size := by
        rw [WideElems.findIdx_arr]
        have := WideElems.findIdx_born (l := (es.push ⟨idv a, z, c⟩).toList) (j := es.size) (e0 := ⟨idv a, z, c⟩) (by
          simp only [Array.toList_push, List.map_append, List.map_cons, List.map_nil]
          refine List.nodup_append.2 ⟨s2, by simp, fun a ha c hc e1 => ?_⟩
          simp only [List.mem_singleton] at hc
          obtain ⟨x, hx, rfl⟩ := List.mem_map.1 ha
          have := s1 x hx
          omega) (by simp)
        exact this
      have hmod : (es.push ⟨idv a, z, c⟩).modify es.size (fun e => { e with val := val }) = es.push ⟨idv a, val, c⟩ := by
        apply Array.ext'
        rw [Array.toList_modify, Array.toList_push, Array.toList_push, ← Array.length_toList, WideElems.modify_last]
      refine ⟨{ w2 with heap := w2.heap.setIfInBounds r (.map (es.push { key := idv a, val := val, born := c }) (c + 1)) }, ?_, ⟨_, _, (MapKept.heap_set h12).1, ?_, MapKept.stamped_push hS hat, putId_len ha hl⟩, turned_set _ _ _⟩
      · simp [Instr.entryStore, MapKept.run_getObj_map h12, asInt, asIntOf, goInt, hidx, hmod, MapKept.run_setObj_map _ h12, Result.andThen]
      · rw [putId_new p1]; simp [h2]
  · obtain ⟨q, hq⟩ := p3
    have hj : es[i]? = some (es.toList[i]'q) := by simp [show i < es.size from q]
    have hjl : es.toList[i]? = some (es.toList[i]'q) := List.getElem?_eq_getElem q
    have hb : Instr.sameBits 10000 (((es[i]?).map (·.key)).getD (idv a)) (idv a) = true := by
      rw [hj]
      simp only [Option.map_some, Option.getD_some, hq]
      exact sameBits_idv _
    have hsame : es.modify i (fun e => { e with key := idv a }) = es := by
      apply Array.ext'
      rw [Array.toList_modify, ChangeMaps.modify_eq_set _ _ _ _ hjl]
      have : ({ es.toList[i]'q with key := idv a } : MapEntry) = es.toList[i]'q := by rw [← hq]
      rw [this]
      exact WideElems.set_self _ _ _ hjl
    refine ⟨u, (es.toList[i]'q).born, { w with heap := w.heap.setIfInBounds r (.map es c) }, L, ?_, by rw [p1]; rfl, ⟨_, _, (MapKept.heap_set h1).1, h2, hS, hl⟩, p1, turned_set _ _ _, fun w2 val hw2 => ?_⟩
    · unfold Instr.mapEntry
      simp only [Sem.run_bind, run_underlying hm, Result.andThen, MapKept.run_getObj_map h1, Sem.run_pure, K.check a ha]
      have hb' : Instr.sameBits 10000 ((es[i]?.map fun x => x.key).getD (idv a)) (idv a) = true := hb
      simp [hf, p2 w, Result.andThen, MapKept.run_setObj_map _ h1, Instr.keyThatStays, hb', hsame]
      rw [hj]
      rfl
    · have h12 : w2.heap[r]? = some (.map es c) := hw2.trans (MapKept.heap_set h1).1
      have hidx : es.findIdx? (fun e => ((e.born : Nat) : Int) == (((es.toList[i]'q).born : Nat) : Int)) = some i := by
        rw [WideElems.findIdx_arr]
        exact WideElems.findIdx_born s2 hjl
      have hmod : es.modify i (fun e => { e with val := val }) = es.modify i (fun e' => { e' with key := idv a, val := val }) := by
        apply Array.ext'
        rw [Array.toList_modify, Array.toList_modify, ChangeMaps.modify_eq_set _ _ _ _ hjl, ChangeMaps.modify_eq_set _ _ _ _ hjl, ← hq]
      refine ⟨{ w2 with heap := w2.heap.setIfInBounds r (.map (es.modify i fun e => { e with key := idv a, val := val }) c) }, ?_, ⟨_, _, (MapKept.heap_set h12).1, ?_, MapKept.stamped_modify hS _ _ (fun _ _ => rfl) fun e _ he => ?_, putId_len ha hl⟩, turned_set _ _ _⟩
      · have hidx' := hidx
        simp only [Array.getElem_toList] at hidx'
        simp [Instr.entryStore, MapKept.run_getObj_map h12, asInt, asIntOf, goInt, hidx', hmod, MapKept.run_setObj_map _ h12, Result.andThen]
      · rw [← p4 val _ rfl]; simp
      · rw [hj] at he
        injection he with he
        rw [← he, hq]
end Go.Proofs.YtdjcjjodbniebaaGreatDoor
namespace Go.Proofs.YtdjcjjodbniebaaGreatDoor
open Go.RowKit
set_option linter.unusedVariables false
set_option linter.unusedSimpArgs false
set_option maxRecDepth 10000
theorem blk_map {w : World} {g r : Nat} {t : TypeId} {cs : Array Value} {L : List (List UInt8 × Value)} (h : Blk w g t cs) (hm : MpI w r L) : g ≠ r := by
  obtain ⟨es, c, h1, _⟩ := hm
  rintro rfl
  unfold Blk at h
  rw [h1] at h
  injection h with h
  cases h
theorem zero_int (w : World) : (zeroValue 3).run Tryz.prog w = .ok (.int .i64 0) w := rfl
theorem TurnedAt.keeps {w w' : World} {r : Nat} (h : TurnedAt w w' r) {O : Nat → Prop} (hr : ¬ O r) : Keeps O w w' := ⟨h.os, h.tape, h.output, Nat.le_of_eq h.size.symm, fun g _ hg => h.far g (fun e => hr (e ▸ hg))⟩
theorem TurnedAt.held {w w' : World} {r : Nat} (h : TurnedAt w w' r) {N : Nat → Prop} (hr : ¬ N r) {W : World} (hw : heldE N W w) : heldE N W w' :=
  ⟨by rw [h.size]; exact hw.1, fun g hg hl => (h.far g (fun e => hr (e ▸ hg))).trans (hw.2 g hg hl)⟩
theorem FIn.c35 {last : List UInt8} {height room : Int} {tv : Value} {rk ra ro : Nat} (hl : last.length = 32) : (fcells last height room tv rk ra ro).toArray[35]? = some (.map (some rk)) := by
  rw [List.getElem?_toArray]; exact fcells_at hl 3
section
variable {w w' : World} {O : Nat → Prop} {f : Nat} {S : FS} {tv : Value} {rk ra ro : Nat} {vs : List Value} {K : List (List UInt8 × Bk × Value)}
theorem FIn.rest (h : FIn w O f S tv rk ra ro vs K) {r : Nat} {L : List (List UInt8 × Value)} (hm : MpI w r L) (hk : Keeps (fun j => j ≠ r) w w') :
    Blk w' f 72 (fcells S.last S.height S.room tv rk ra ro).toArray ∧ w'.ownsRow 0 97 33 tv S.ts.length (flatT ((S.ts.map Prod.fst).zip vs)) ∧ RowsI w' O vs (S.ts.map Prod.snd) ∧
    (∀ x ∈ K, BkOk x.2.1 ∧ w'.ownsRow 0 5 1 x.2.2 x.2.1.data.length (bl x.2.1.data) ∧ ∀ j, x.2.2.ownBlock = some j → O j) ∧ (∀ r' L', r' ≠ r → MpI w r' L' → MpI w' r' L') ∧ ∀ j, O j → j < w'.heap.size :=
  ⟨hk.blk h.blk (blk_map h.blk hm), row_keeps h.row hk (fun j hj e => row_map h.row hm (e ▸ hj)), ⟨h.rows.len, fun x u m h1 h2 => ⟨row_keeps (h.rows.at_ x u m h1 h2).1 hk (fun j hj e => row_map (h.rows.at_ x u m h1 h2).1 hm (e ▸ hj)), (h.rows.at_ x u m h1 h2).2⟩, h.rows.apart⟩,
    fun x hx => ⟨(h.dat x hx).1, row_keeps (h.dat x hx).2.1 hk (fun j hj e => row_map (h.dat x hx).2.1 hm (e ▸ hj)), (h.dat x hx).2.2⟩, fun r' L' hr hm' => hm'.keeps hk hr, fun j hj => Nat.lt_of_lt_of_le (h.lt j hj) hk.size⟩
theorem FIn.setOften (h : FIn w O f S tv rk ra ro vs K) (hk : Keeps (fun j => j ≠ ro) w w') {L : List (List UInt8 × Int)} (hm : MpI w' ro (intsL L)) : FIn w' O f { S with often := L } tv rk ra ro vs K := by
  obtain ⟨h1, h2, h3, h4, h5, h6⟩ := h.rest h.mo hk
  exact ⟨h.of, h.ok, h.oa, h.oo, h.ka, h.ko, h.ao, h6, h.zero, h1, h2, h.orow, h3, h.kept, h5 _ _ h.ko h.mpk, h4, h5 _ _ h.ao h.ma, hm⟩
theorem FIn.setAsked (h : FIn w O f S tv rk ra ro vs K) (hk : Keeps (fun j => j ≠ ra) w w') {L : List (List UInt8 × Bool)} (hm : MpI w' ra (boolsL L)) : FIn w' O f { S with asked := L } tv rk ra ro vs K := by
  obtain ⟨h1, h2, h3, h4, h5, h6⟩ := h.rest h.ma hk
  exact ⟨h.of, h.ok, h.oa, h.oo, h.ka, h.ko, h.ao, h6, h.zero, h1, h2, h.orow, h3, h.kept, h5 _ _ h.ka h.mpk, h4, hm, h5 _ _ (Ne.symm h.ao) h.mo⟩
end
noncomputable def askF (S : FS) (id : List UInt8) : (Int × Int) × FS :=
  if (atL id (missL S)).getD [] = [] then ((0, 4), S)
  else if askedB S.asked id = true then ((0, 7), S)
  else ((((atL id (missL S)).getD []).getD (((atL id S.often).getD 0).toNat % ((atL id (missL S)).getD []).length) 0, 0), { S with often := putAt id ((atL id S.often).getD 0 + 1) S.often, asked := putAt id true S.asked })
def OftenOk (n : Nat) (S : FS) : Prop := ∀ x ∈ S.often, 0 ≤ x.2 ∧ x.2 ≤ n
theorem intsL_at (a : List UInt8) (L : List (List UInt8 × Int)) : (atId a (intsL L)).getD (.int .i64 0) = .int .i64 ((atL a L).getD 0) := by
  unfold intsL
  rw [atId_map (fun x : Int => Value.int .i64 x)]
  cases atL a L <;> rfl
set_option maxHeartbeats 3200000 in
theorem fask_any {w : World} {O : Nat → Prop} {f : Nat} {S : FS} {tv : Value} {rk ra ro : Nat} {vs : List Value} {K : List (List UInt8 × Bk × Value)} (h : FIn w O f S tv rk ra ro vs K) (hok : FOk S) (hC : Cubes w) {n : Nat} (hn : OftenOk n S) (hn2 : n < 4611686018427387904) {id : List UInt8} (hid : id.length = 32) :
    callE Tryz.prog 17 #[.pointer (some ⟨f, 0, none⟩), .agg (bl id).toArray] w fun r w' => r = .tuple #[.int .i64 (askF S id).1.1, .int .i64 (askF S id).1.2] ∧ FIn w' O f (askF S id).2 tv rk ra ro vs K ∧ Keeps (fun j => ¬ O j) w w' := by
  have l32 : (bl id).length = 32 := by rw [bl_length]; exact hid
  have kA := ext_alloc w (.cells (bl id).toArray 27)
  have hI : Blk (w.alloc (.cells (bl id).toArray 27)) w.heap.size 27 (bl id).toArray := Blk.self_ rfl
  have hFA := h.keep kA
  have r0 := fun k => callE_eq noinit_fnone (fnone_made hFA.blk (FIn.c35 hok.last)) k
  refine calls_E Tryz.func17 rfl rfl rfl (Nat.le_of_ble_eq_true rfl) ?_
  simp [go_sem, IntWalk.iteOmega, IntWalk.toNatUp, r0]
  generalize w.alloc (.cells (bl id).toArray 27) = w1 at *
  refine callE_of (fmissed_any hFA hok (hC.keep kA)) ?_
  rintro _ w2 ⟨ov, us, rfl, hov, hM, hR, hW, k2⟩
  have kB := kA.trans (k2.mono kA.size)
  have hF2 := hFA.keep k2
  have hI2 := hI.keep k2
  have x1 := readCells_all hI2 32 (by simpa using l32)
  have hl2 : (Instr.lookup 99 (.map (some w1.heap.size)) (.agg (bl id).toArray) false).run Tryz.prog w2 = .ok ((atId id (((missL S).map Prod.fst).zip us)).getD (.slice none 0 0)) w2 := (run_lookupI idKey hM Tryz.underlying99 id hid (zero_row w2)).2
  have hul : us.length = (missL S).length := by have := hR.len; simpa using this
  have hP := hW.at_ id
  obtain ⟨wv, hwv, hwr⟩ : ∃ wv, (atId id (((missL S).map Prod.fst).zip us)).getD (.slice none 0 0) = wv ∧ w2.ownsRow 0 3 1 wv ((atL id (missL S)).getD []).length (intsK .i64 ((atL id (missL S)).getD [])) := by
    cases hx : atL id (missL S) with
    | none =>
      rw [(zip_none hul hx (.slice none 0 0)).1]
      exact ⟨_, rfl, World.ownsRow_nil _ _ _ _⟩
    | some l0 =>
      obtain ⟨k, q1, q2, q3⟩ := zip_some hx
      obtain ⟨v0, hk, q5, _⟩ := q3 us hul
      rw [q5]
      exact ⟨v0, rfl, (hR.at_ k v0 l0 hk (by simp [q1])).1⟩
  rw [hwv] at hl2
  have haskF : askF S id = if (atL id (missL S)).getD [] = [] then ((0, 4), S) else if askedB S.asked id = true then ((0, 7), S) else ((((atL id (missL S)).getD []).getD (((atL id S.often).getD 0).toNat % ((atL id (missL S)).getD []).length) 0, 0), { S with often := putAt id ((atL id S.often).getD 0 + 1) S.often, asked := putAt id true S.asked }) := rfl
  generalize (atL id (missL S)).getD [] = who at *
  obtain ⟨-, wA, wc, rfl⟩ := own_sl hwr
  by_cases h0 : who = []
  · subst h0
    rw [if_pos rfl] at haskF
    simp [go_sem, IntWalk.iteOmega, IntWalk.toNatUp, x1, hl2, haskF]
    exact ⟨hF2, Keeps.of_ext kB⟩
  · rw [if_neg h0] at haskF
    have hpos : 0 < who.length := List.length_pos_iff.2 h0
    have hpos' : ((who.length : Int) == 0) = false := by simp; exact h0
    obtain ⟨gb, go, rfl, hgb, hgc⟩ := (Rd.of_own hwr).cells (by omega)
    have hc36 := ((hF2.keep (ext_drew w2)).cells hok.last).2.2.2.2.1
    have x2 := readCells_all hI2.drew 32 (by simpa using l32)
    have hlook := (run_lookupI idKey (hF2.ma.keep (ext_drew w2)) Tryz.underlying69 id hid (zero_bool _)).2
    rw [boolsL_at] at hlook
    have hlook' : (Instr.lookup 69 (.map (some ra)) (.agg (bl id).toArray) false).run Tryz.prog w2.drew = .ok (.bool (askedB S.asked id)) w2.drew := hlook
    by_cases hb : askedB S.asked id = true
    · rw [if_pos hb] at haskF
      simp [go_sem, IntWalk.iteOmega, IntWalk.toNatUp, x1, hl2, hpos', haskF]
      refine W_still follows (by kernel_rfl) ?_
      simp [go_sem, IntWalk.iteOmega, IntWalk.toNatUp, hc36, x2, hlook', hb, haskF]
      exact ⟨hF2.keep (ext_drew w2), Keeps.of_ext kB.drew⟩
    · rw [if_neg hb] at haskF
      have hb' : askedB S.asked id = false := by simpa using hb
      simp [go_sem, IntWalk.iteOmega, IntWalk.toNatUp, x1, hl2, hpos', haskF]
      refine W_still follows (by kernel_rfl) ?_
      simp [go_sem, IntWalk.iteOmega, IntWalk.toNatUp, hc36, x2, hlook', hb']
      have hF3 := hF2.keep (ext_drew w2)
      have hI3 := hI2.drew
      have hwr3 := row_below hwr (ext_drew w2)
      have kC := kB.drew
      generalize w2.drew = w3 at *
      obtain ⟨cnt, hcnt, hc1, hc2⟩ : ∃ c : Int, (atL id S.often).getD 0 = c ∧ 0 ≤ c ∧ c ≤ n := by
        cases hx : atL id S.often with
        | none => exact ⟨0, rfl, by omega, by omega⟩
        | some c => exact ⟨c, rfl, (hn _ (atL_mem hx)).1, (hn _ (atL_mem hx)).2⟩
      have hlo : ∀ (W : World) (hm : MpI W ro (intsL S.often)), (Instr.lookup 70 (.map (some ro)) (.agg (bl id).toArray) false).run Tryz.prog W = .ok (.int .i64 cnt) W := fun W hm => by
        have := (run_lookupI idKey hm Tryz.underlying70 id hid (zero_int W)).2
        rw [intsL_at, hcnt] at this
        exact this
      rw [hcnt] at haskF
      have hml : cnt.toNat % who.length < who.length := Nat.mod_lt _ hpos
      have hc37 := ((hF3.keep (ext_drew w3)).cells hok.last).2.2.2.2.2
      have hlo3 := hlo w3.drew (hF3.mo.keep (ext_drew w3))
      have x3 := readCells_all hI3.drew 32 (by simpa using l32)
      obtain ⟨gb2, go2, e2, hgb2, hgc2⟩ := (Rd.of_own hwr3).cells (by omega)
      injection e2 with e2
      injection e2 with e2 e2'
      subst e2; subst e2'
      have x4 : w3.drew.cell? ⟨gb, go + cnt.toNat % who.length, none⟩ = some (.int .i64 (who.getD (cnt.toNat % who.length) 0)) := hgc2 _ _ (by simp [intsK, hml])
      refine W_still follows (by kernel_rfl) ?_
      have hE : cnt.tmod ↑who.length = ((cnt.toNat % who.length : Nat) : Int) := by rw [Int.tmod_eq_emod_of_nonneg hc1, Int.natCast_emod, Int.toNat_of_nonneg hc1]
      have hml' : ((cnt.toNat % who.length : Nat) : Int) < who.length := by omega
      generalize hmd : cnt.toNat % who.length = md at *
      generalize hvv : who.getD md 0 = vv at *
      simp [go_sem, IntWalk.iteOmega, IntWalk.toNatUp, hc37, x3, hlo3, h0, hE, hml, hml', x4]
      have hF4 := hF3.keep (ext_drew w3)
      have hI4 := hI3.drew
      have kD := kC.drew
      generalize w3.drew = w4 at *
      have hfr : f ≠ ro := blk_map hF4.blk hF4.mo
      have hir : w.heap.size ≠ ro := blk_map hI4 hF4.mo
      refine W_flow (fun g => g ≠ ro) (.pure 0 (.pure 1 (.pure 2 (.pure 3 (.pure 4 (.two 5 (.pure 6 (.one 7 (.pure 8 (.one 9 (.done))))) 7 (.pure 8 (.one 5 (.pure 6 (.one 9 (.done))))))))))) follows (by kernel_rfl) ?_
      have hr := held_refl (fun g => g ≠ ro) w4.drew
      have hF5 := hF4.keep (ext_drew w4)
      have hI5 := hI4.drew
      have kE := kD.drew
      generalize w4.drew = w5 at *
      have hc37 := (hF5.cells hok.last).2.2.2.2.2
      have hfl := hF5.blk.lt
      have hil := hI5.lt
      have x5 := readCells_all hI5 32 (by simpa using l32)
      have hlo5 := hlo w5 hF5.mo
      obtain ⟨v0, st, w6, L1, hme, hv0, hm6, hat6, ht6, hst⟩ := run_entryI idKey hF5.mo Tryz.underlying70 id hid zero_int
      rw [intsL_at, hcnt] at hv0
      subst hv0
      have hme' : (Instr.mapEntry 70 (.map (some ro)) (.agg (bl id).toArray)).run Tryz.prog w5 = .ok (.tuple #[.int .i64 cnt, goInt st]) w6 := hme
      have hlo6 : (Instr.lookup 70 (.map (some ro)) (.agg (bl id).toArray) false).run Tryz.prog w6 = .ok (.int .i64 cnt) w6 := by
        have := (run_lookupI idKey hm6 Tryz.underlying70 id hid (zero_int w6)).2
        rw [hat6] at this
        exact this
      have hr6 := ht6.held (N := fun g => g ≠ ro) (by simp) hr
      obtain ⟨w7, hes, hm7, ht7⟩ := hst w6 (.int .i64 (cnt + 1)) rfl
      have hes' : (Instr.entryStore 70 (.map (some ro)) (.int .i64 st) (.int .i64 (cnt + 1))).run Tryz.prog w6 = .ok () w7 := hes
      have hr7 := ht7.held (N := fun g => g ≠ ro) (by simp) hr6
      have hw1 : IntKind.i64.wrap (cnt + 1) = cnt + 1 := by rw [wrap_i64_if, if_pos (by omega)]
      simp [go_sem, IntWalk.iteOmega, IntWalk.toNatUp, hc37, x5, hfr, hir, hfl, hil, hr, hlo5, hme', hlo6, hr6, hw1, hes', hr7]
      have hF7 := hF5.setOften ((ht6.keeps (by simp)).trans (ht7.keeps (by simp))) (L := putAt id (cnt + 1) S.often) (by rw [intsL, ← putId_map (fun x : Int => Value.int .i64 x)]; exact hm7)
      have kF : Keeps (fun j => ¬ O j) w w7 := (Keeps.of_ext kE).trans ((ht6.keeps (fun h => h hF5.oo)).trans (ht7.keeps (fun h => h hF5.oo)))
      have hI7 : Blk w7 w.heap.size 27 (bl id).toArray := ht7.blk (ht6.blk hI5 hir) hir
      have hfra : f ≠ ra := blk_map hF5.blk hF5.ma
      have hira : w.heap.size ≠ ra := blk_map hI5 hF5.ma
      refine ⟨?_, ?_⟩ <;>
      · refine W_flow (fun g => g ≠ ra) (.pure 0 (.pure 1 (.pure 2 (.pure 3 (.pure 4 (.one 5 (.done))))))) follows (by kernel_rfl) ?_
        have hq := held_refl (fun g => g ≠ ra) w7.drew
        have hF8 := hF7.keep (ext_drew w7)
        have hc36 := (hF8.cells hok.last).2.2.2.2.1
        have hfl8 : f < w7.heap.size := hF8.blk.lt
        have hil8 : w.heap.size < w7.heap.size := hI7.lt
        have x8 := readCells_all hI7.drew 32 (by simpa using l32)
        obtain ⟨w9, hup, hm9, ht9⟩ := run_mapUpdateI idKey hF8.ma Tryz.underlying69 id hid (.bool true)
        have hup' : (Instr.mapUpdate 69 (.map (some ra)) (.agg (bl id).toArray) (.bool true)).run Tryz.prog w7.drew = .ok () w9 := hup
        have hq9 := ht9.held (N := fun g => g ≠ ra) (by simp) hq
        simp [go_sem, IntWalk.iteOmega, IntWalk.toNatUp, hc36, hfl8, hil8, hq, x8, hfra, hira, hup', hq9, haskF]
        have hF9 := hF8.setAsked (ht9.keeps (by simp)) (L := putAt id true S.asked) (by rw [boolsL, ← putId_map (fun x : Bool => Value.bool x)]; exact hm9)
        exact ⟨hF9, kF.trans ((Keeps.drew _ _).trans (ht9.keeps (fun h => h hF5.oa)))⟩
def failF (S : FS) (id : List UInt8) : Int × FS := if askedB S.asked id = true then (0, { S with asked := delB id S.asked }) else (4, S)
theorem FIn.c36 {last : List UInt8} {height room : Int} {tv : Value} {rk ra ro : Nat} (hl : last.length = 32) : (fcells last height room tv rk ra ro).toArray[36]? = some (.map (some ra)) := by
  rw [List.getElem?_toArray]; exact fcells_at hl 4
theorem FIn.c34 {last : List UInt8} {height room : Int} {tv : Value} {rk ra ro : Nat} (hl : last.length = 32) : (fcells last height room tv rk ra ro).toArray[34]? = some tv := by
  rw [List.getElem?_toArray]; exact fcells_at hl 2
section
variable {w : World} {O : Nat → Prop} {f : Nat} {S : FS} {tv : Value} {rk ra ro : Nat} {vs : List Value} {K : List (List UInt8 × Bk × Value)}
theorem ffail_any (h : FIn w O f S tv rk ra ro vs K) (hok : FOk S) {id : List UInt8} (hid : id.length = 32) :
    callE Tryz.prog 18 #[.pointer (some ⟨f, 0, none⟩), .agg (bl id).toArray] w fun r w' => r = .int .i64 (failF S id).1 ∧ FIn w' O f (failF S id).2 tv rk ra ro vs K ∧ Keeps (fun j => ¬ O j) w w' := by
  refine callE_of (ffailed_any h.blk (FIn.c35 hok.last) (FIn.c36 hok.last) h.ma (blk_map h.blk h.ma) hid) ?_
  rintro r w' (⟨hb, rfl, hk⟩ | ⟨hb, rfl, hm, hg⟩)
  · have e : failF S id = (4, S) := by unfold failF; rw [hb]; simp
    rw [e]
    exact ⟨rfl, h.keep hk, Keeps.of_ext hk⟩
  · have e : failF S id = (0, { S with asked := delB id S.asked }) := by unfold failF; rw [if_pos hb]
    rw [e]
    exact ⟨rfl, h.setAsked (Keeps.grown hg fun k hk h => h (by injection hk with hk; exact hk.symm)) hm, Keeps.grown hg fun k hk ho => ho (by injection hk with hk; subst hk; exact h.oa)⟩
theorem fdone_any (h : FIn w O f S tv rk ra ro vs K) (hok : FOk S) (hC : Cubes w) :
    callE Tryz.prog 16 #[.pointer (some ⟨f, 0, none⟩)] w fun r w' => r = .bool (decide (missL S = [])) ∧ Below w.heap.size w w' := by
  have r0 := fun k => callE_eq noinit_fnone (fnone_made h.blk (FIn.c35 hok.last)) k
  refine calls_E Tryz.func16 rfl rfl rfl (Nat.le_of_ble_eq_true rfl) ?_
  simp [go_sem, IntWalk.iteOmega, IntWalk.toNatUp, r0]
  refine callE_of (fmissed_any h hok hC) ?_
  rintro _ w2 ⟨ov, us, rfl, hov, hM, hR, hW, k2⟩
  obtain ⟨-, A, c, rfl⟩ := own_sl hov
  generalize missL S = L at *
  have e : ((L.length : Int) == 0) = decide (L = []) := by rw [Bool.eq_iff_iff]; simp
  simp [go_sem, IntWalk.iteOmega, IntWalk.toNatUp, e]
  exact k2
theorem noinit_flen : Tryz.prog.inits.idxOf? 31 = none := by kernel_rfl
theorem flen_runs (h : FIn w O f S tv rk ra ro vs K) (hok : FOk S) : Runs Tryz.prog 31 #[.pointer (some ⟨f, 0, none⟩)] w (.int .i64 S.kept.length) w := by
  have r0 := fun k => callE_eq noinit_fnone (fnone_made h.blk (FIn.c35 hok.last)) k
  have hc := (h.cells hok.last).2.2.2.1
  obtain ⟨es, c, h1, h2, _⟩ := id h.mpk
  have hl : es.size = S.kept.length := by
    have := congrArg List.length h2
    have hk := congrArg List.length h.kept
    simp [keptL] at this hk
    omega
  have hlen : (Builtin.len_ #[68] 3 #[.map (some rk)]).run Tryz.prog w = .ok (.int .i64 S.kept.length) w := by
    rw [← hl]
    simp [Builtin.len_, run_underlying Tryz.underlying68, MapKept.run_getObj_map h1, goInt, Result.andThen]
  refine runs_of_callE ?_
  refine calls_E Tryz.func31 rfl rfl rfl (Nat.le_of_ble_eq_true rfl) ?_
  simp [go_sem, IntWalk.iteOmega, IntWalk.toNatUp, r0, hc, hlen]
noncomputable def stateF (S : FS) (id : List UInt8) : Int × Int := if ∀ t ∈ S.ts, t.1 ≠ id then (0, 4) else ((wayF S id).2.1, 0)
theorem fplaceF_any (h : FIn w O f S tv rk ra ro vs K) (hok : FOk S) {id : List UInt8} (hid : id.length = 32) :
    callE Tryz.prog 46 #[.pointer (some ⟨f, 0, none⟩), .agg (bl id).toArray] w fun r w' => ((∃ k : Nat, ∃ hk : k < S.ts.length, r = .int .i64 k ∧ S.ts[k].1 = id ∧ ∀ m (hm : m < S.ts.length), m < k → S.ts[m].1 ≠ id) ∨ (r = .int .i64 (-1) ∧ ∀ t ∈ S.ts, t.1 ≠ id)) ∧ Below w.heap.size w w' := by
  have hvl : vs.length = S.ts.length := by have := h.rows.len; simpa using this
  have hzl : ((S.ts.map Prod.fst).zip vs).length = S.ts.length := by simp [hvl]
  obtain ⟨-, tA, tc, rfl⟩ := own_sl h.row
  have hts : ∀ t ∈ (S.ts.map Prod.fst).zip vs, t.1.length = 32 := fun x hx => by
    obtain ⟨y, hy, e⟩ := List.mem_map.1 (List.of_mem_zip hx).1
    rw [← e]
    exact (hok.ts _ hy).1
  have hrd := Rd.of_own h.row
  have h34 : (fcells S.last S.height S.room (.slice tA S.ts.length tc) rk ra ro).toArray[34]? = some (.slice tA ((S.ts.map Prod.fst).zip vs).length tc) := by rw [hzl]; exact FIn.c34 hok.last
  rw [← hzl] at hrd
  have names : ∀ m (hm : m < S.ts.length), ((S.ts.map Prod.fst).zip vs)[m]'(by omega) = (S.ts[m].1, vs[m]'(by omega)) := fun m hm => by simp
  refine callE_of (fplace_any h.blk h34 hid hts hrd (by rw [hzl]; have := hok.tsn; omega)) ?_
  rintro r w2 ⟨hr, k2⟩
  refine ⟨?_, k2⟩
  rcases hr with ⟨k, hk, rfl, hkn, hko⟩ | ⟨rfl, hno⟩
  · have hk' : k < S.ts.length := by omega
    rw [names k hk'] at hkn
    exact .inl ⟨k, hk', rfl, hkn, fun m hm hmk => by have := hko m (by omega) hmk; rw [names m hm] at this; exact this⟩
  · refine .inr ⟨rfl, fun t ht => ?_⟩
    obtain ⟨m, hm, rfl⟩ := List.getElem_of_mem ht
    have := hno m (by omega)
    rw [names m hm] at this
    exact this
theorem fstate_any (h : FIn w O f S tv rk ra ro vs K) (hok : FOk S) (hC : Cubes w) {id : List UInt8} (hid : id.length = 32) :
    callE Tryz.prog 30 #[.pointer (some ⟨f, 0, none⟩), .agg (bl id).toArray] w fun r w' => r = .tuple #[.int .i64 (stateF S id).1, .int .i64 (stateF S id).2] ∧ Below w.heap.size w w' := by
  have l32 : (bl id).length = 32 := by rw [bl_length]; exact hid
  have kA := ext_alloc w (.cells (bl id).toArray 27)
  have hI : Blk (w.alloc (.cells (bl id).toArray 27)) w.heap.size 27 (bl id).toArray := Blk.self_ rfl
  have hFA := h.keep kA
  have r0 := fun k => callE_eq noinit_fnone (fnone_made hFA.blk (FIn.c35 hok.last)) k
  have x1 := readCells_all hI 32 (by simpa using l32)
  refine calls_E Tryz.func30 rfl rfl rfl (Nat.le_of_ble_eq_true rfl) ?_
  simp [go_sem, IntWalk.iteOmega, IntWalk.toNatUp, r0, x1]
  generalize w.alloc (.cells (bl id).toArray 27) = w1 at *
  refine callE_of (fplaceF_any hFA hok hid) ?_
  rintro r w2 ⟨hr, k2⟩
  have kB := kA.trans (k2.mono kA.size)
  rcases hr with ⟨k, hk, rfl, hkn, _⟩ | ⟨rfl, hno⟩
  · have hk' : k < S.ts.length := hk
    have e : stateF S id = ((wayF S id).2.1, 0) := by
      unfold stateF
      rw [if_neg]
      exact fun hall => hall _ (List.getElem_mem hk') hkn
    have hkp : ¬ ((k : Int) < 0) := by omega
    have x2 := readCells_all (hI.keep k2) 32 (by simpa using l32)
    simp [go_sem, IntWalk.iteOmega, IntWalk.toNatUp, hkp, x2]
    refine callE_of (fway_any (hFA.keep k2) hok (hC.keep kB) hid) ?_
    rintro _ w3 ⟨wv, xs, rfl, hxs, hwr, hxK, hWI, hat, k3⟩
    have z2 : ∀ (k : Array Value) (t : TypeId), k.size = 32 → canWrite (w3.alloc (.cells k t)) ⟨w3.heap.size, 0, none⟩ 0 32 = true := fun k t hk => canWrite_all (Blk.self_ rfl) 32 hk
    have z3 : ∀ (k : Array Value) (t : TypeId) (l : List Value), k.size = 32 → l.length = 32 → storeSeg (w3.alloc (.cells k t)) ⟨w3.heap.size, 0, none⟩ 0 l = (w3.alloc (.cells k t)).setRow w3.heap.size l.toArray := fun k t l hk hl => storeSeg_all (Blk.self_ rfl) l (by omega)
    have la : (bl (wayF S id).2.2).length = 32 := by rw [bl_length]; exact hat
    have kC := kB.trans (k3.mono kB.size)
    simp [go_sem, IntWalk.iteOmega, IntWalk.toNatUp, z2, z3, la, bl_one, e]
    exact below_setRow (kC.alloc kC.size _) kC.size _
  · have e : stateF S id = (0, 4) := by
      unfold stateF
      rw [if_pos hno]
    simp [go_sem, IntWalk.iteOmega, IntWalk.toNatUp, e]
    exact kB
end
end Go.Proofs.YtdjcjjodbniebaaGreatDoor
