/-
  Texts joined: FRefB, FLinked, FRefI, FBks, MapId, FKey, Build1.
-/
import Derived.Test.YtmcbcoafodmbjaaGreatDoorJoin32
import Derived.MapKept
import Derived.WideKeyRuns
import Derived.Great.BuildSlice

/-
  flurryref03.Bytes.
-/
namespace Go.Proofs.YtmcbcoafodmbjaaGreatDoor
open Go.RowKit
set_option linter.unusedVariables false
set_option linter.unusedSimpArgs false
set_option maxRecDepth 10000
theorem append_rdB {w0 w1 : World} {base n : Nat} {v u : Value} {xs ys : List UInt8} {k : Kont} (hown : w1.ownsRow base 5 1 v n (bl xs)) (hu : RdB w1 u ys) (hle : w0.heap.size ≤ base) (hbs : base ≤ w1.heap.size) (hB : Below w0.heap.size w0 w1)
    (hn : n + ys.length ≤ 70368744177664) (hk : ∀ v' w', w'.ownsRow base 5 1 v' (n + ys.length) (bl (xs ++ ys)) → base ≤ w'.heap.size → Below w0.heap.size w0 w' → k v' w') :
    resE Tryz.prog (appendR Tryz.prog 37 37 37 v u w1) k := by
  obtain ⟨A, c, rfl, hr, -, -, -⟩ := hu
  refine appendE base 5 1 1 Tryz.underlying37 el5 hown hr (bl_one ys) (by unfold maxLen; omega) (by omega) hbs ?_
  intro v' w' hown' hgr _
  exact hk v' w' (by rw [bl_append]; exact hown') (Nat.le_trans hbs hgr.size) (hB.grown hgr (by have := hB.size; omega) (fun k hk => by have := (hown.lt k hk).1; omega))
set_option maxHeartbeats 3200000 in
theorem rbytes_any {w : World} {b : Bk} {dv : Value} (hok : BkOk b) (hd : RdB w dv b.data) :
    callE Tryz.prog 143 #[.agg (bkv b dv).toArray] w fun r w' => ((checkB b = 30 ∧ r = .tuple #[.slice none 0 0, .int .i64 30]) ∨
      (checkB b = 0 ∧ ∃ u, r = .tuple #[u, .int .i64 0] ∧ RdB w' u (bytesB b))) ∧ Below w.heap.size w w' := by
  have kA := ext_alloc w (.cells (bkv b dv).toArray 39)
  have l34 : ∀ dv : Value, (bkv b dv).length = 34 := fun dv => bkv_len hok.len
  refine calls_E Tryz.func143 rfl rfl rfl (Nat.le_of_ble_eq_true rfl) ?_
  have hX : Blk (w.alloc (.cells (bkv b dv).toArray 39)) w.heap.size 39 (bkv b dv).toArray := Blk.self_ rfl
  have x0 := readCells_all hX 34 (by simp [l34])
  simp [go_sem, IntWalk.iteOmega, IntWalk.toNatUp, x0]
  generalize (w.alloc (.cells (bkv b dv).toArray 39)) = w2 at *
  refine callE_of (rbcheck_any hok (hd.keep kA)) ?_
  rintro v w3 ⟨rfl, hb⟩
  have hX3 := hX.keep hb
  have k3 := kA.trans (hb.mono kA.size)
  rcases checkB_or b with e0 | e0
  · simp [go_sem, IntWalk.iteOmega, IntWalk.toNatUp, e0]
    have hdl := checkB_data e0
    have hh0 := checkB_height e0
    have f1 : IntKind.u64.wrap b.height = b.height := by rw [wrap_u64_if, if_pos (by have := hok.hi; omega)]
    have f2 : IntKind.u64.wrap (b.data.length : Int) = b.data.length := by rw [wrap_u64_if, if_pos (by omega)]
    have hown0 : (w3.alloc (.cells #[.int .u8 0, .int .u8 0] 5)).ownsRow w3.heap.size 5 1 (.slice (some ⟨w3.heap.size, 0, none⟩) 2 2) 2 (bl (numB 2 0)) :=
      ⟨rfl, .inr ⟨w3.heap.size, 2, _, rfl, Nat.le_refl _, heap_alloc_new w3 _, Nat.le_refl _, by unfold maxLen; omega, rfl, rfl⟩⟩
    refine W_loop (fun st wr => ∃ (i : Nat) (v : Value), i ≤ 32 ∧ st 1 = .pointer (some ⟨w.heap.size, 0, none⟩) ∧ st 5 = v ∧ st 6 = .int .i64 i ∧ wr.ownsRow w3.heap.size 5 1 v (2 + i) (bl (numB 2 0 ++ b.parent.take i)) ∧ w3.heap.size ≤ wr.heap.size ∧ Below w3.heap.size w3 wr) (fun st _ => 32 - (intOf (st 6)).toNat) ?_ ?_
    · exact ⟨0, .slice (some ⟨w3.heap.size, 0, none⟩) 2 2, by omega, by simp [go_sem], by simp [go_sem], by simp [go_sem], by simpa using hown0, by simp, ext_alloc _ _⟩
    · rintro st wr ⟨i, v, hi, e1, e5, e6, hown, hsz, hB⟩
      have hXr := hX3.keep hB
      by_cases hlt : i < 32
      · have hlt' : (i : Int) < 32 := by omega
        have hip : i < b.parent.length := by rw [hok.len]; exact hlt
        have x1 := bkv_id (dv := dv) hok.len (bl_at2 b.parent i hip)
        simp [go_sem, IntWalk.iteOmega, IntWalk.toNatUp, e1, e5, e6, hlt, hlt', hXr.cell, x1]
        refine append_byte (w0 := w3) (b.parent[i]) rfl hown (Nat.le_refl _) hsz hB (by omega) ?_
        clear hB hown hsz
        intro v w4 hown hsz hB
        simp [go_sem, IntWalk.iteOmega, IntWalk.toNatUp, e6]
        refine roundEnd.mk ⟨i + 1, v, by omega, by simp [go_sem, e1], by simp [go_sem], by simp [go_sem], ?_, hsz, hB⟩ ?_
        · rw [take_snoc hip, ← List.append_assoc]; exact hown
        · simp [go_sem, intOf]; omega
      · obtain rfl : i = 32 := by omega
        rw [List.take_of_length_le (by rw [hok.len]; omega)] at hown
        have c32 : wr.cell? ⟨w.heap.size, 32, none⟩ = some (.int .i64 b.height) := by rw [hXr.cell, List.getElem?_toArray]; exact bkv_32 hok.len
        have hx : (Value.int IntKind.u64 b.height) = .int .u64 (b.height.toNat : Int) := by congr 1; omega
        obtain ⟨-, A5, c5, rfl⟩ := own_sl hown
        simp [go_sem, IntWalk.iteOmega, IntWalk.toNatUp, e1, e5, e6, c32, f1]
        rw [hx]
        refine callE_of (rnum_any 8 b.height.toNat (by omega) (by omega) (by have := hok.hi; omega) wr) ?_
        rintro u w4 ⟨hu, hb4⟩
        simp [go_sem, IntWalk.iteOmega, IntWalk.toNatUp]
        refine append_rdB (w0 := w3) (n := 2 + 32) (own_keep hown hb4) hu (Nat.le_refl _) (Nat.le_trans hsz hb4.size) (hB.trans (hb4.mono hsz)) (by rw [numB_len]; omega) ?_
        clear hown hB hsz hXr hb4 hu
        intro v5 w5 hown hsz hB
        have hX5 := hX3.keep hB
        have c33 : w5.cell? ⟨w.heap.size, 33, none⟩ = some dv := by rw [hX5.cell, List.getElem?_toArray]; exact bkv_33 hok.len
        obtain ⟨Ad, cd, rfl, hrd, -⟩ := id hd
        simp [go_sem, IntWalk.iteOmega, IntWalk.toNatUp, e1, c33, f2]
        refine callE_of (rnum_any 4 b.data.length (by omega) (by omega) (by omega) w5) ?_
        rintro u w6 ⟨hu, hb6⟩
        obtain ⟨-, A6, c6, rfl⟩ := own_sl hown
        simp [go_sem, IntWalk.iteOmega, IntWalk.toNatUp]
        refine append_rdB (w0 := w3) (own_keep hown hb6) hu (Nat.le_refl _) (Nat.le_trans hsz hb6.size) (hB.trans (hb6.mono hsz)) (by rw [numB_len, numB_len]; omega) ?_
        clear hown hB hsz hb6 hu
        intro v7 w7 hown hsz hB
        have hX7 := hX3.keep hB
        have c33 : w7.cell? ⟨w.heap.size, 33, none⟩ = some (.slice Ad b.data.length cd) := by rw [hX7.cell, List.getElem?_toArray]; exact bkv_33 hok.len
        have k7 := k3.trans (hB.mono k3.size)
        obtain ⟨-, A8, c8, rfl⟩ := own_sl hown
        simp [go_sem, IntWalk.iteOmega, IntWalk.toNatUp, e1, c33]
        refine append_rdB (w0 := w3) hown (hd.keep k7) (Nat.le_refl _) hsz hB (by rw [numB_len, numB_len]; omega) ?_
        clear hown hB hsz
        intro v9 w9 hown hsz hB
        have ho : w9.ownsRow w3.heap.size 5 1 v9 (bytesB b).length (bl (bytesB b)) := by
          have e : (bytesB b).length = 2 + 32 + (numB 8 b.height.toNat).length + (numB 4 b.data.length).length + b.data.length := by simp [bytesB, numB_len, hok.len]; omega
          rw [e]
          unfold bytesB
          exact hown
        have hr := own_rdB ho
        obtain ⟨-, A9, c9, rfl⟩ := own_sl ho
        simp [go_sem, IntWalk.iteOmega, IntWalk.toNatUp]
        exact ⟨⟨e0, hr⟩, k3.trans (hB.mono k3.size)⟩
  · simp [go_sem, IntWalk.iteOmega, IntWalk.toNatUp, e0]
    exact k3
end Go.Proofs.YtmcbcoafodmbjaaGreatDoor

/-
  block.Linked.
-/
namespace Go.Proofs.YtmcbcoafodmbjaaGreatDoor
open Go.RowKit
set_option linter.unusedVariables false
set_option linter.unusedSimpArgs false
set_option maxRecDepth 10000
theorem idB_len (b : Bk) : (idB b).1.length = 32 := by
  unfold idB
  split
  · exact sha_length _
  · simp [zeroId]
end Go.Proofs.YtmcbcoafodmbjaaGreatDoor

/-
  flurryref03.ID, Linked.
-/
namespace Go.Proofs.YtmcbcoafodmbjaaGreatDoor
open Go.RowKit
set_option linter.unusedVariables false
set_option linter.unusedSimpArgs false
set_option maxRecDepth 10000
set_option maxHeartbeats 3200000 in
theorem rid_any {w : World} {b : Bk} {dv : Value} (hok : BkOk b) (hd : RdB w dv b.data) :
    callE Tryz.prog 98 #[.agg (bkv b dv).toArray] w fun r w' => r = .tuple #[.agg (bl (idB b).1).toArray, .int .i64 (idB b).2] ∧ Below w.heap.size w w' := by
  have kA := ext_alloc w (.cells (bkv b dv).toArray 39)
  have l34 : ∀ dv : Value, (bkv b dv).length = 34 := fun dv => bkv_len hok.len
  have x0 : ∀ k t, readCells ((w.alloc (.cells (bkv b dv).toArray 39)).alloc (.cells k t)) ⟨w.heap.size, 0, none⟩ 0 34 = some (bkv b dv) := fun k t => by
    have := readCells_all (Blk.more (o := .cells k t) (Blk.self_ (w := w) (t := 39) (cs := (bkv b dv).toArray) rfl)) 34 (by simp [l34])
    simpa using this
  refine calls_E Tryz.func98 rfl rfl rfl (Nat.le_of_ble_eq_true rfl) ?_
  simp [go_sem, IntWalk.iteOmega, IntWalk.toNatUp, x0]
  have kB := kA.alloc kA.size (.cells zeroI.toArray 36)
  have hZ : Blk ((w.alloc (.cells (bkv b dv).toArray 39)).alloc (.cells zeroI.toArray 36)) (w.heap.size + 1) 36 zeroI.toArray := Blk.self_ (by simp)
  change callE _ _ _ ((w.alloc (.cells (bkv b dv).toArray 39)).alloc (.cells zeroI.toArray 36)) _
  generalize (w.alloc (.cells (bkv b dv).toArray 39)).alloc (.cells zeroI.toArray 36) = w2 at *
  refine callE_of (rbytes_any hok (hd.keep kB)) ?_
  rintro v w3 ⟨hv, hb⟩
  have hZ3 := hZ.keep hb
  have k3 := kB.trans (hb.mono kB.size)
  rcases hv with ⟨e0, rfl⟩ | ⟨e0, u, rfl, hu⟩
  · have em : idB b = (zeroId, 30) := by unfold idB; rw [if_neg (by omega)]
    have x2 := canWrite_all hZ3 32 rfl
    have x3 : ∀ l : List Value, l.length = 32 → storeSeg w3 ⟨w.heap.size + 1, 0, none⟩ 0 l = w3.setRow (w.heap.size + 1) l.toArray := fun l hl => storeSeg_all hZ3 l (by rw [hl]; rfl)
    have x4 : ∀ l : List Value, l.length = 32 → readCells (w3.setRow (w.heap.size + 1) l.toArray) ⟨w.heap.size + 1, 0, none⟩ 0 32 = some l := fun l hl => readCells_all (Blk_setRow hZ3) 32 (by simpa using hl)
    simp [go_sem, IntWalk.iteOmega, IntWalk.toNatUp, x2, x3, x4]
    simp only [em]
    exact ⟨by first | trivial | exact ⟨rfl, trivial⟩ | exact ⟨trivial, trivial⟩ | rfl | exact ⟨rfl, rfl⟩, below_setRow k3 (by omega) _⟩
  · have em : idB b = (sha (bytesB b), 0) := by unfold idB; rw [if_pos e0]
    obtain ⟨Au, cu, rfl, hu1, hu2, hu3, hu4⟩ := hu
    simp [go_sem, IntWalk.iteOmega, IntWalk.toNatUp]
    refine callE_of (refSum_any Au cu (bytesB b) w3 hu1 hu2 (by have := bytesB_len hok e0; omega)) ?_
    rintro v w4 ⟨rfl, hb4⟩
    have hZ4 := hZ3.keep hb4
    have x2 := canWrite_all hZ4 32 rfl
    have ls : (bl (sha (bytesB b))).length = 32 := by rw [bl_length]; exact sha_length _
    have x3 := storeSeg_all hZ4 (bl (sha (bytesB b))) (by rw [ls]; rfl)
    have x4 : readCells (w4.setRow (w.heap.size + 1) (bl (sha (bytesB b))).toArray) ⟨w.heap.size + 1, 0, none⟩ 0 32 = some (bl (sha (bytesB b))) := readCells_all (Blk_setRow hZ4) 32 (by simpa using ls)
    simp [go_sem, IntWalk.iteOmega, IntWalk.toNatUp, x2, x3, x4, ls, bl_one]
    simp only [em]
    exact ⟨by first | trivial | exact ⟨rfl, trivial⟩ | exact ⟨trivial, trivial⟩ | rfl | exact ⟨rfl, rfl⟩, below_setRow (k3.trans (hb4.mono k3.size)) (by omega) _⟩
end Go.Proofs.YtmcbcoafodmbjaaGreatDoor

/-
  Slices of blocks; flurryref09.SameAll.
-/
namespace Go.Proofs.YtmcbcoafodmbjaaGreatDoor
open Go.RowKit
set_option linter.unusedVariables false
set_option linter.unusedSimpArgs false
set_option maxRecDepth 10000
def flat (xs : List (Bk × Value)) : List Value := xs.flatMap fun x => bkv x.1 x.2
def BksR (w : World) (v : Value) (bs : List Bk) : Prop := ∃ A c xs, v = .slice A bs.length c ∧ xs.map Prod.fst = bs ∧ Rd w 34 A bs.length (flat xs) ∧ bs.length ≤ c ∧ c ≤ 9223372036854775807 ∧ ∀ x ∈ xs, BkOk x.1 ∧ RdB w x.2 x.1.data
theorem BksR.keep {w w' : World} {v : Value} {bs : List Bk} (h : BksR w v bs) (hb : Below w.heap.size w w') : BksR w' v bs := by
  obtain ⟨A, c, xs, h1, h2, h3, h4, h5, h6⟩ := h
  exact ⟨A, c, xs, h1, h2, h3.keep hb, h4, h5, fun x hx => ⟨(h6 x hx).1, (h6 x hx).2.keep hb⟩⟩
theorem map_at {xs : List (Bk × Value)} {bs : List Bk} (h : xs.map Prod.fst = bs) {i : Nat} (hi : i < bs.length) : ∃ dv, xs[i]? = some (bs[i], dv) := by
  subst h
  have hi' : i < xs.length := by simpa using hi
  refine ⟨xs[i].2, ?_⟩
  rw [List.getElem?_eq_getElem hi']
  simp
theorem readCells_cells {w : World} {b o : Nat} : ∀ (n i : Nat) (l : List Value), l.length = n → (∀ j v, l[j]? = some v → w.cell? ⟨b, o + i + j, none⟩ = some v) → readCells w ⟨b, o, none⟩ i n = some l := by
  intro n
  induction n with
  | zero => intro i l hl _; rw [List.length_eq_zero_iff.1 hl]; rfl
  | succ n ih =>
    intro i l hl h
    rcases l with _ | ⟨v, l⟩
    · simp at hl
    · have h0 := h 0 v rfl
      have h1 := ih (i + 1) l (by simpa using hl) (fun j u hj => by have := h (j + 1) u (by simpa using hj); rw [show o + (i + 1) + j = o + i + (j + 1) by omega]; exact this)
      simp only [readCells, add_none, h1]
      rw [show o + i = o + i + 0 from rfl, h0]
      rfl
end Go.Proofs.YtmcbcoafodmbjaaGreatDoor
namespace Go.Proofs.YtmcbcoafodmbjaaGreatDoor
open Go.RowKit
set_option linter.unusedVariables false
set_option linter.unusedSimpArgs false
def idv (l : List UInt8) : Value := .agg (l.map fun c => Value.int .u8 (c.toNat : Int)).toArray
theorem idv_inj {a b : List UInt8} (h : idv a = idv b) : a = b := by
  unfold idv at h
  injection h with h
  have h : a.map (fun c => Value.int .u8 (c.toNat : Int)) = b.map (fun c => Value.int .u8 (c.toNat : Int)) := by simpa using congrArg Array.toList h
  have key : ∀ a b : List UInt8, a.map (fun c => Value.int .u8 (c.toNat : Int)) = b.map (fun c => Value.int .u8 (c.toNat : Int)) → a = b := by
    intro a
    induction a with
    | nil => intro b h; cases b with
      | nil => rfl
      | cons y b => simp at h
    | cons x a ih => intro b h; cases b with
      | nil => simp at h
      | cons y b =>
        simp only [List.map_cons, List.cons.injEq, Value.int.injEq, true_and] at h
        rw [ih b h.2, UInt8.toNat_inj.1 (Int.ofNat.inj h.1)]
  exact key a b h
structure IdKey (P : Program) (kt : TypeId) : Prop where
  wide : (match P.underlying kt with | some (.array _ _) | some (.struct _) => true | _ => false) = true
  eq : ∀ x y : List UInt8, x.length = 32 → y.length = 32 → ∀ w, (Op.equal kt (idv x) (idv y)).run P w = .ok (x == y) w
  check : ∀ x : List UInt8, x.length = 32 → ∀ em w, (Instr.checkKey em 10000 kt (idv x)).run P w = .ok () w
def MpI (w : World) (r : Nat) (L : List (List UInt8 × Value)) : Prop := ∃ es clock, w.heap[r]? = some (.map es clock) ∧ es.toList.map (fun e => (e.key, e.val)) = L.map (fun x => (idv x.1, x.2)) ∧ MapKept.Stamped es clock ∧ ∀ x ∈ L, x.1.length = 32
def atId (a : List UInt8) : List (List UInt8 × Value) → Option Value
  | [] => none
  | x :: L => if a = x.1 then some x.2 else atId a L
def putId (a : List UInt8) (v : Value) : List (List UInt8 × Value) → List (List UInt8 × Value)
  | [] => [(a, v)]
  | x :: L => if a = x.1 then (a, v) :: L else x :: putId a v L
def delId (a : List UInt8) : List (List UInt8 × Value) → List (List UInt8 × Value)
  | [] => []
  | x :: L => if a = x.1 then L else x :: delId a L
theorem MpI.lt {w : World} {r : Nat} {L : List (List UInt8 × Value)} (h : MpI w r L) : r < w.heap.size := by
  obtain ⟨es, c, h1, _⟩ := h
  exact (Array.getElem?_eq_some_iff.1 h1).1
theorem MpI.far {w w' : World} {r : Nat} {L : List (List UInt8 × Value)} (h : MpI w r L) (he : w'.heap[r]? = w.heap[r]?) : MpI w' r L := by
  obtain ⟨es, c, h1, h2⟩ := h
  exact ⟨es, c, he.trans h1, h2⟩
theorem MpI.below {w w' : World} {B r : Nat} {L : List (List UInt8 × Value)} (h : MpI w r L) (hb : Below B w w') (hr : r < B) : MpI w' r L := h.far (hb.block r hr)
theorem MpI.keep {w w' : World} {r : Nat} {L : List (List UInt8 × Value)} (h : MpI w r L) (hb : Below w.heap.size w w') : MpI w' r L := h.below hb h.lt
theorem atId_none {a : List UInt8} : ∀ {L : List (List UInt8 × Value)} {es : List MapEntry}, atId a L = none → es.map (fun e => (e.key, e.val)) = L.map (fun x => (idv x.1, x.2)) → ∀ x ∈ es, x.key ≠ idv a
  | [], [], _, _, x, hx, _ => by cases hx
  | [], _ :: _, _, h, _, _, _ => by simp at h
  | _ :: _, [], _, h, _, _, _ => by simp at h
  | y :: L, e :: es, h0, h, x, hx, hk => by
    simp only [List.map_cons, List.cons.injEq, Prod.mk.injEq] at h
    unfold atId at h0
    split at h0
    · cases h0
    · rename_i hne
      rcases List.mem_cons.1 hx with rfl | hx
      · rw [h.1.1] at hk
        exact hne (idv_inj hk).symm
      · exact atId_none h0 h.2 x hx hk
theorem putId_new {a : List UInt8} {v : Value} : ∀ {L : List (List UInt8 × Value)}, atId a L = none → putId a v L = L ++ [(a, v)]
  | [], _ => rfl
  | x :: L, h => by
    unfold atId at h
    split at h
    · cases h
    · rename_i hx; simp [putId, hx, putId_new h]
theorem findI {P : Program} {kt : TypeId} (K : IdKey P kt) (a : List UInt8) (ha : a.length = 32) : ∀ (es : List MapEntry) (L : List (List UInt8 × Value)) (n : Nat), es.map (fun e => (e.key, e.val)) = L.map (fun x => (idv x.1, x.2)) → (∀ x ∈ L, x.1.length = 32) →
    (atId a L = none ∧ (∀ w, (Instr.findAsking kt (idv a) es n).run P w = .ok none w) ∧ delId a L = L) ∨
    (∃ i u, atId a L = some u ∧ (∀ w, (Instr.findAsking kt (idv a) es n).run P w = .ok (some (n + i, u)) w) ∧ (∃ h : i < es.length, es[i].key = idv a) ∧
      (∀ v f, (f : MapEntry → MapEntry) = (fun e => { e with key := idv a, val := v }) → (es.modify i f).map (fun e => (e.key, e.val)) = (putId a v L).map fun x => (idv x.1, x.2)) ∧
      (es.eraseIdx i).map (fun e => (e.key, e.val)) = (delId a L).map fun x => (idv x.1, x.2))
  | [], [], n, h, _ => .inl ⟨rfl, fun w => by simp [Instr.findAsking], rfl⟩
  | [], _ :: _, n, h, _ => by simp at h
  | _ :: _, [], n, h, _ => by simp at h
  | e :: es, x :: L, n, h, hL => by
    simp only [List.map_cons, List.cons.injEq, Prod.mk.injEq] at h
    obtain ⟨⟨h1, h2⟩, h3⟩ := h
    have heq := K.eq a x.1 ha (hL x (List.mem_cons_self ..))
    rw [← h1] at heq
    by_cases hx : a = x.1
    · have hb : (a == x.1) = true := by simpa using hx
      refine .inr ⟨0, x.2, by simp [atId, hx], fun w => by simp [Instr.findAsking, heq, hb, h2], ⟨by simp, by simp [h1, hx]⟩, ?_, ?_⟩
      · rintro v f rfl
        simp [putId, hx, h3]
      · simp [delId, hx, h3]
    · have hb : (a == x.1) = false := by simpa using hx
      rcases findI K a ha es L (n + 1) h3 (fun y hy => hL y (List.mem_cons_of_mem _ hy)) with ⟨p1, p2, p4⟩ | ⟨i, u, p1, p2, ⟨p3, p3'⟩, p4, p5⟩
      · refine .inl ⟨by simp [atId, hx, p1], fun w => by simp [Instr.findAsking, heq, hb, p2], by simp [delId, hx, p4]⟩
      · refine .inr ⟨i + 1, u, by simp [atId, hx, p1], fun w => by simp [Instr.findAsking, heq, hb, p2]; omega, ⟨by simpa using p3, by simpa using p3'⟩, ?_, ?_⟩
        · rintro v f rfl
          simp [putId, hx, h1, h2, p4 v _ rfl]
        · simp [delId, hx, h1, h2, p5]
structure TurnedAt (w w' : World) (r : Nat) : Prop where
  os : w'.os = w.os
  tape : w'.tape = w.tape
  output : w'.output = w.output
  size : w'.heap.size = w.heap.size
  far : ∀ b, b ≠ r → w'.heap[b]? = w.heap[b]?
theorem TurnedAt.below {w w' : World} {r B : Nat} (h : TurnedAt w w' r) {a : World} (hb : Below B a w) (hr : B ≤ r) : Below B a w' :=
  ⟨h.os.trans hb.os, h.tape.trans hb.tape, h.output.trans hb.output, by rw [h.size]; exact hb.size, fun k hk => (h.far k (by omega)).trans (hb.block k hk)⟩
theorem TurnedAt.blk {w w' : World} {r : Nat} (h : TurnedAt w w' r) {g : Nat} {t : TypeId} {cs : Array Value} (hB : Blk w g t cs) (hg : g ≠ r) : Blk w' g t cs := (h.far g hg).trans hB
theorem turned_set (w : World) (r : Nat) (o : Obj) : TurnedAt w { w with heap := w.heap.setIfInBounds r o } r :=
  ⟨rfl, rfl, rfl, by simp, fun b hb => by simp [Array.getElem?_setIfInBounds_ne (Ne.symm hb)]⟩
theorem sameBits_idv (l : List UInt8) : Instr.sameBits 10000 (idv l) (idv l) = true := by
  show Instr.sameBits (9999 + 1) (.agg _) (.agg _) = true
  simp only [Instr.sameBits, beq_self_eq_true, Bool.true_and, List.all_eq_true]
  intro x hx
  have key : ∀ (r : List Value), (∀ v ∈ r, ∃ c : UInt8, v = .int .u8 (c.toNat : Int)) → ∀ x ∈ r.zip r, Instr.sameBits 9999 x.1 x.2 = true := by
    intro r
    induction r with
    | nil => intro _ x hx; simp at hx
    | cons a r ih =>
      intro h x hx
      rw [List.zip_cons_cons] at hx
      rcases List.mem_cons.1 hx with rfl | hx
      · obtain ⟨c, rfl⟩ := h a (List.mem_cons_self ..)
        simp [Instr.sameBits]
      · exact ih (fun v hv => h v (List.mem_cons_of_mem _ hv)) x hx
  exact key _ (fun v hv => by simp at hv; obtain ⟨c, _, rfl⟩ := hv; exact ⟨c, rfl⟩) x hx
section
variable {P : Program} {kt : TypeId} {w : World} {r : Nat} {L : List (List UInt8 × Value)} {t et : TypeId}
theorem run_findI (K : IdKey P kt) (h : MpI w r L) (a : List UInt8) (ha : a.length = 32) {es : Array MapEntry} {c : Nat} (h1 : w.heap[r]? = some (.map es c)) (w' : World) :
    (Instr.findKey kt (idv a) es.toList).run P w' = (Instr.findAsking kt (idv a) es.toList).run P w' := _root_.Go.run_findKey_eq w' K.wide _ _
theorem run_mapUpdateI (K : IdKey P kt) (h : MpI w r L) (hm : P.underlying t = some (.map kt et)) (a : List UInt8) (ha : a.length = 32) (v : Value) :
    ∃ w', (Instr.mapUpdate t (.map (some r)) (idv a) v).run P w = .ok () w' ∧ MpI w' r (putId a v L) ∧ TurnedAt w w' r := by
  obtain ⟨es, c, h1, h2, hS, hl⟩ := h
  have hf := run_findI K (w := w) (r := r) (L := L) ⟨es, c, h1, h2, hS, hl⟩ a ha h1 w
  have hlp : ∀ x ∈ putId a v L, x.1.length = 32 := by
    have key : ∀ L : List (List UInt8 × Value), (∀ x ∈ L, x.1.length = 32) → ∀ x ∈ putId a v L, x.1.length = 32 := by
      intro L
      induction L with
      | nil => intro _ x hx; simp [putId] at hx; subst hx; exact ha
      | cons y L ih =>
        intro hL x hx
        unfold putId at hx
        split at hx
        · rcases List.mem_cons.1 hx with rfl | hx
          · exact ha
          · exact hL x (List.mem_cons_of_mem _ hx)
        · rcases List.mem_cons.1 hx with rfl | hx
          · exact hL x (List.mem_cons_self ..)
          · exact ih (fun z hz => hL z (List.mem_cons_of_mem _ hz)) x hx
    exact key L hl
  rcases findI K a ha es.toList L 0 h2 hl with ⟨p1, p2, p4⟩ | ⟨i, u, p1, p2, p3, p4, p5⟩
  · refine ⟨{ w with heap := w.heap.setIfInBounds r (.map (es.push { key := idv a, val := v, born := c }) (c + 1)) }, ?_, ⟨_, _, (MapKept.heap_set h1).1, ?_, MapKept.stamped_push hS fun x hx e => atId_none p1 h2 x hx e, hlp⟩, turned_set _ _ _⟩
    · unfold Instr.mapUpdate
      simp only [Sem.run_bind, run_underlying hm, Result.andThen, MapKept.run_getObj_map h1, Sem.run_pure, K.check a ha]
      simp [hf, p2 w, Result.andThen, MapKept.run_setObj_map _ h1]
    · rw [putId_new p1]; simp [h2]
  · obtain ⟨q, hq⟩ := p3
    have hb : Instr.sameBits 10000 (((es[i]?).map (·.key)).getD (idv a)) (idv a) = true := by
      rw [show es[i]? = some (es.toList[i]'q) by simp [show i < es.size from q]]
      simp only [Option.map_some, Option.getD_some, hq]
      exact sameBits_idv _
    refine ⟨{ w with heap := w.heap.setIfInBounds r (.map (es.modify i fun e => { e with key := idv a, val := v }) c) }, ?_, ⟨_, _, (MapKept.heap_set h1).1, ?_, MapKept.stamped_modify hS _ _ (fun _ _ => rfl) fun e _ he => ?_, hlp⟩, turned_set _ _ _⟩
    · unfold Instr.mapUpdate
      simp only [Sem.run_bind, run_underlying hm, Result.andThen, MapKept.run_getObj_map h1, Sem.run_pure, K.check a ha]
      simp [hf, p2 w, Result.andThen, MapKept.run_setObj_map _ h1, Instr.keyThatStays, hb]
    · rw [← p4 v _ rfl]; simp
    · rw [← Array.getElem?_toList, List.getElem?_eq_getElem q] at he
      injection he with he
      rw [← he, hq]
end
theorem MpI_made (w : World) : MpI (w.alloc (.map #[] 0)) w.heap.size [] := ⟨#[], 0, heap_alloc_new w _, rfl, MapKept.stamped_empty _, by simp⟩
end Go.Proofs.YtmcbcoafodmbjaaGreatDoor

/-
  Names as keys of maps.
-/
namespace Go.Proofs.YtmcbcoafodmbjaaGreatDoor
open Go.RowKit
set_option linter.unusedVariables false
set_option linter.unusedSimpArgs false
set_option maxRecDepth 10000
theorem check_u8 (em : Bool) (n : Nat) (c : Int) (w : World) : (Instr.checkKey em (n + 1) 5 (.int .u8 c)).run Tryz.prog w = .ok () w := by
  simp [Instr.checkKey, run_underlying Tryz.underlying5]
theorem idKey : IdKey Tryz.prog 36 where
  wide := by rw [Tryz.underlying36]
  eq := fun x y hx hy w => id_eq x y hx hy w
  check := fun x hx em w => by
    have hs : ∀ w, (sizeOf 5).run Tryz.prog w = .ok 1 w := fun w => by rw [run_sizeOf_shape (t := none) shape5]; rfl
    show (Instr.checkKey em (9999 + 1) 36 (.agg (bl x).toArray)).run Tryz.prog w = _
    rw [Instr.checkKey]
    simp only [Sem.run_bind, run_underlying Tryz.underlying36, Result.andThen_ok]
    simp only [Std.Legacy.Range.forIn_eq_forIn_range', Std.Legacy.Range.size, Nat.sub_zero, Nat.add_one_sub_one, Nat.div_one]
    have each : ∀ j ∈ List.range' 0 32, ∃ c : Int, (bl x)[j]? = some (.int .u8 c) := fun j hj => by
      have hj' : j < 32 := by simpa [List.mem_range'] using hj
      exact ⟨_, bl_at2 x j (by omega)⟩
    generalize List.range' 0 32 = is at each
    induction is with
    | nil => simp
    | cons j is ih =>
      obtain ⟨c, hc⟩ := each j (by simp)
      have ih' := ih fun j hj => each j (by simp [hj])
      have hp : (part 5 (bl x).toArray (j * 1)).run Tryz.prog w = .ok (.int .u8 c) w := by
        simp [part, run_isAgg shape5, hc]
      simp only [List.forIn_cons, Sem.run_bind, hs, Result.andThen_ok, hp, check_u8 em 9998 c w, Sem.run_pure]
      exact ih'
end Go.Proofs.YtmcbcoafodmbjaaGreatDoor
namespace Go.Proofs.YtmcbcoafodmbjaaGreatDoor
open Go.RowKit
set_option linter.unusedVariables false
theorem fold_all : ∀ (l : List Value) (k : Nat) (a : Array Value), k + l.length ≤ a.size → ((l.zipIdx k).foldl (fun a x => a.setIfInBounds x.2 x.1) a).toList = a.toList.take k ++ l ++ a.toList.drop (k + l.length)
  | [], k, a, _ => by simp
  | v :: l, k, a, h => by
    simp only [List.length_cons] at h
    have := fold_all l (k + 1) (a.setIfInBounds k v) (by simp; omega)
    simp only [List.zipIdx_cons, List.foldl_cons, this, Array.toList_setIfInBounds, List.length_cons]
    have hk : k < a.toList.length := by simp; omega
    have e1 : (a.toList.set k v).take (k + 1) = a.toList.take k ++ [v] := by
      rw [List.take_set, List.take_succ_eq_append_getElem hk, List.set_append_right _ _ (by simp; omega)]
      simp [Nat.min_eq_left (Nat.le_of_lt hk)]
      rw [show min k a.size = k by have := hk; simp at this; omega]
      simp
    rw [e1, List.drop_set_of_lt (by omega), show k + 1 + l.length = k + (l.length + 1) by omega]
    simp
theorem run_build1 {P : Program} {t e : TypeId} {z : Value} {size bytes : Nat} (ht : P.underlying t = some (.slice e)) (hi : (P.info? e).map (fun i => (i.zero, i.size, i.bytes)) = some (some z, size, bytes)) (hs : 0 < size) (hm : size ≤ 16777216) (v : Value) (hv : v.cells.size = size) (w : World) :
    (Instr.buildSlice t 1 #[(0, v)]).run P w = .ok (.slice (some ⟨w.heap.size, 0, none⟩) 1 1) (w.alloc (.cells v.cells e)) := by
  obtain ⟨i, h1, h2⟩ := Option.map_eq_some_iff.1 hi
  injection h2 with e1 h3
  injection h3 with e2 e3
  subst e2
  refine run_buildSlice w t e 1 #[(0, v)] v.cells i z ht h1 e1 (by omega) (by omega) ?_
  simp only [Instr.fill, Nat.zero_mul, Nat.one_mul, Nat.zero_add]
  rw [if_neg (by simp [hv])]
  congr 1
  apply Array.ext'
  rw [← Array.foldl_toList, Array.toList_zipIdx]
  have := fold_all v.cells.toList 0 ((Array.range i.size).map fun x => z.cells[x % z.cells.size]!) (by simp [hv])
  simp only [this]
  simp [hv]
theorem opR_build1 {P : Program} {t e : TypeId} {z : Value} {size bytes : Nat} (ht : P.underlying t = some (.slice e)) (hi : (P.info? e).map (fun i => (i.zero, i.size, i.bytes)) = some (some z, size, bytes)) (hs : 0 < size) (hm : size ≤ 16777216) {d : Option Tmp} {ty : TypeId} {pos : String} {after : Array Edge} {s : Slots} {w : World} {x : Operand} (hv : (ev s x).cells.size = size) :
    opR P ⟨d, .buildSlice t 1 #[(0, x)], ty, pos, after, none⟩ s w = .ok (.value (.slice (some ⟨w.heap.size, 0, none⟩) 1 1)) (w.alloc (.cells (ev s x).cells e)) := by
  have h := run_build1 ht hi hs hm (ev s x) hv w
  show (execOp (ev s) ⟨d, .buildSlice t 1 #[(0, x)], ty, pos, after, none⟩).run P w = _
  unfold execOp
  simp only [Sem.run_bind]
  have e1 : (#[(0, x)] : Array (Nat × Operand)).map (fun p => (p.1, ev s p.2)) = #[(0, ev s x)] := by simp
  rw [show (Array.map (fun (x : Nat × Operand) => match x with | (i, x) => (i, ev s x)) #[(0, x)]) = #[(0, ev s x)] from e1, h]
  rfl
theorem resE_build1 {P : Program} {t e : TypeId} {z : Value} {size bytes : Nat} (ht : P.underlying t = some (.slice e)) (hi : (P.info? e).map (fun i => (i.zero, i.size, i.bytes)) = some (some z, size, bytes)) (hs : 0 < size) (hm : size ≤ 16777216) {d : Option Tmp} {ty : TypeId} {pos : String} {after : Array Edge} {s : Slots} {w : World} {k : Kont} {x : Operand} {v : Value} (hx : ev s x = v) (hv : v.cells.size = size) (hk : k (.slice (some ⟨w.heap.size, 0, none⟩) 1 1) (w.alloc (.cells v.cells e))) :
    resE P (opR P ⟨d, .buildSlice t 1 #[(0, x)], ty, pos, after, none⟩ s w) k := by
  have h := run_build1 ht hi hs hm v hv w
  have h2 : opR P ⟨d, .buildSlice t 1 #[(0, x)], ty, pos, after, none⟩ s w = .ok (.value (.slice (some ⟨w.heap.size, 0, none⟩) 1 1)) (w.alloc (.cells v.cells e)) := by
    show (execOp (ev s) ⟨d, .buildSlice t 1 #[(0, x)], ty, pos, after, none⟩).run P w = _
    unfold execOp
    simp only [Sem.run_bind]
    have e1 : (#[(0, x)] : Array (Nat × Operand)).map (fun p => (p.1, ev s p.2)) = #[(0, v)] := by simp [hx]
    rw [show (Array.map (fun (x : Nat × Operand) => match x with | (i, x) => (i, ev s x)) #[(0, x)]) = #[(0, v)] from e1, h]
    rfl
  rw [h2]
  exact hk
end Go.Proofs.YtmcbcoafodmbjaaGreatDoor
