/-
  Texts joined: PMoveW, PHeadA.
-/
import Derived.Test.YtpmmfabendnhiaaDoorJoin14
namespace Go.Proofs.YtpmmfabendnhiaaDoor
open Go.RowKit
open Go.Lib (strCells byteCells decDigits)
set_option linter.unusedVariables false
set_option linter.unusedSimpArgs false
set_option maxRecDepth 10000
def nums (l : List Nat) : List Value := l.map fun n : Nat => .int .u64 (n : Int)
/-- A move's value; its bytes and draws are rows of its own. -/
def mvCells (m : Mv) (vb vd : Value) : Array Value := #[.int .i64 m.kind, .int .i64 m.node, .int .i64 m.rcv, .int .i64 m.n, vb, vd]
def MvO (w : World) (B : Nat) (m : Mv) (vb vd : Value) : Prop := w.ownsRow B 5 1 vb m.bytes.length (byteCells m.bytes) ∧ w.ownsRow B 53 1 vd m.draws.length (nums m.draws)
def zeroMv : Array Value := #[.int .i64 0, .int .i64 0, .int .i64 0, .int .i64 0, .slice none 0 0, .slice none 0 0]
structure MvAt (W w : World) (tb mb : Nat) (k a t n : Nat) (b : List UInt8) (vb : Value) (d : List Nat) (vd : Value) (x : Tks) : Prop where
  res : Blk w W.heap.size 48 zeroMv
  tak : TakAt w 0 tb x.1 x.2
  mv : Blk w mb 48 #[.int .i64 k, .int .i64 a, .int .i64 t, .int .i64 n, vb, vd]
  row : w.ownsRow W.heap.size 5 1 vb b.length (byteCells b)
  rowd : w.ownsRow (mb + 1) 53 1 vd d.length (nums d)
  below : Below W.heap.size W w
  lo : W.heap.size < tb
  lo2 : tb < mb
  small : ∀ s ∈ x.1, s.length ≤ 50000
  len : x.1.length ≤ 50000
theorem TakAt.set {w : World} {lo tb mb i : Nat} {ws : Wds} {bad : Bool} {v : Value} (h : TakAt w lo tb ws bad) (hne : tb < mb) : TakAt (w.setCell ⟨mb, i, none⟩ v) lo tb ws bad := by
  obtain ⟨A, c, hb, hrd, hA, h1, h2, h3⟩ := h
  exact ⟨A, c, hb.farCell (by omega) _, Rd_on hrd (Keeps.setCell w ⟨mb, i, none⟩ v (O := fun j => j ≠ mb) (fun h => h rfl)) (fun j hj => by have := h3 j hj; omega), hA, h1, h2, h3⟩
variable {W w w' : World} {tb mb : Nat} {k a t n : Nat} {b : List UInt8} {vb : Value} {d : List Nat} {vd : Value} {x : Tks}
/-- a word is taken -/
theorem MvAt.took (h : MvAt W w tb mb k a t n b vb d vd x) {bad : Bool} (ht : TakAt w' 0 tb x.1.tail bad) (hk : Tk tb w w') : MvAt W w' tb mb k a t n b vb d vd (x.1.tail, bad) := by
  obtain ⟨A, c, hb, _⟩ := h.tak
  exact ⟨hk.blk h.res (Nat.ne_of_lt h.lo), ht, hk.blk h.mv (Nat.ne_of_gt h.lo2), row_keeps h.row hk fun j hj e => row_ne h.row hb (by decide) (by rw [hj, e]), row_keeps h.rowd hk fun j hj e => row_ne h.rowd hb (by decide) (by rw [hj, e]), h.below.trans (hk.below h.below.size fun j hj e => by have := h.lo; omega), h.lo, h.lo2, fun s hs => h.small s (List.mem_of_mem_tail hs), by have := h.len; simp; omega⟩
/-- something new is made -/
theorem MvAt.keep (h : MvAt W w tb mb k a t n b vb d vd x) (hk : Below w.heap.size w w') : MvAt W w' tb mb k a t n b vb d vd x :=
  ⟨h.res.keep hk, h.tak.keep hk, h.mv.keep hk, row_below h.row hk, row_below h.rowd hk, h.below.trans (hk.mono h.below.size), h.lo, h.lo2, h.small, h.len⟩
theorem MvAt.fail (h : MvAt W w tb mb k a t n b vb d vd x) : MvAt W (w.setCell ⟨tb, 1, none⟩ (.bool true)) tb mb k a t n b vb d vd (x.1, true) := by
  obtain ⟨h3, k3⟩ := h.tak.fail
  obtain ⟨A, c, hb, _⟩ := h.tak
  exact ⟨k3.blk h.res (Nat.ne_of_lt h.lo), h3, k3.blk h.mv (Nat.ne_of_gt h.lo2), row_keeps h.row k3 fun j hj e => row_ne h.row hb (by decide) (by rw [hj, e]), row_keeps h.rowd k3 fun j hj e => row_ne h.rowd hb (by decide) (by rw [hj, e]), h.below.trans (k3.below h.below.size fun j hj e => by have := h.lo; omega), h.lo, h.lo2, h.small, h.len⟩
/-- a field is set -/
theorem MvAt.sets (h : MvAt W w tb mb k a t n b vb d vd x) (i : Nat) (v : Value) {a' t' n' : Nat} {b' : List UInt8} {vb' : Value} {d' : List Nat} {vd' : Value} (hc : (#[.int .i64 k, .int .i64 a, .int .i64 t, .int .i64 n, vb, vd] : Array Value).setIfInBounds i v = #[.int .i64 k, .int .i64 a', .int .i64 t', .int .i64 n', vb', vd'])
    (hr : w.ownsRow W.heap.size 5 1 vb' b'.length (byteCells b')) (hd : w.ownsRow (mb + 1) 53 1 vd' d'.length (nums d')) : MvAt W (w.setCell ⟨mb, i, none⟩ v) tb mb k a' t' n' b' vb' d' vd' x := by
  have hk : Keeps (fun j => j ≠ mb) w (w.setCell ⟨mb, i, none⟩ v) := Keeps.setCell w ⟨mb, i, none⟩ v (fun h => h rfl)
  have l1 := h.lo
  have l2 := h.lo2
  exact ⟨hk.blk h.res (by omega), h.tak.set h.lo2, hc ▸ Blk_set h.mv, row_keeps hr hk fun j hj e => row_ne hr h.mv (by decide) (by rw [hj, e]), row_keeps hd hk fun j hj e => row_ne hd h.mv (by decide) (by rw [hj, e]), h.below.trans (hk.below h.below.size fun j hj e => by omega), h.lo, h.lo2, h.small, h.len⟩
/-- a draw is put behind the others -/
theorem MvAt.app (h : MvAt W w tb mb k a t n b vb d vd x) {d' : List Nat} {vd' : Value} (hg : w.grownBy w' vd.ownBlock) (ho : w'.ownsRow (mb + 1) 53 1 vd' d'.length (nums d')) : MvAt W (w'.setCell ⟨mb, 5, none⟩ vd') tb mb k a t n b vb d' vd' x := by
  have hk : Keeps (fun j => vd.ownBlock ≠ some j) w w' := Keeps.grown hg fun k e h => h e
  have hlo : ∀ j, vd.ownBlock = some j → mb < j := fun j e => (h.rowd.lt j e).1
  have l1 := h.lo
  have l2 := h.lo2
  have hm : Blk w' mb 48 #[.int .i64 k, .int .i64 a, .int .i64 t, .int .i64 n, vb, vd] := hk.blk h.mv fun e => by have := hlo _ e; omega
  have hr : Blk w' W.heap.size 48 zeroMv := hk.blk h.res fun e => by have := hlo _ e; omega
  have hv : w'.ownsRow W.heap.size 5 1 vb b.length (byteCells b) := row_keeps h.row hk fun j hj => rows_ne h.row h.rowd (by decide) j hj
  have hb : Below W.heap.size W w' := h.below.trans (hk.below h.below.size fun j hj e => by have := hlo _ e; omega)
  have ht : TakAt w' 0 tb x.1 x.2 := by
    obtain ⟨A, c, q1, q2, q3, q4, q5, q6⟩ := h.tak
    exact ⟨A, c, hk.blk q1 fun e => by have := hlo _ e; omega, Rd_on q2 hk fun j hj e => by have := hlo _ e; have := q6 j hj; omega, q3, q4, q5, q6⟩
  have k2 : Keeps (fun j => j ≠ mb) w' (w'.setCell ⟨mb, 5, none⟩ vd') := Keeps.setCell w' ⟨mb, 5, none⟩ vd' (fun h => h rfl)
  exact ⟨k2.blk hr (by omega), ht.set h.lo2, Blk_set hm, row_keeps hv k2 fun j hj e => row_ne hv hm (by decide) (by rw [hj, e]), row_keeps ho k2 fun j hj e => row_ne ho hm (by decide) (by rw [hj, e]), hb.trans (k2.below hb.size fun j hj e => by omega), h.lo, h.lo2, h.small, h.len⟩
theorem go_small : ∀ (l cur : List UInt8) (s : List UInt8), s ∈ wordsGo cur l → s.length ≤ cur.length + l.length
  | [], cur, s, h => by simp [wordsGo] at h; subst h; simp
  | c :: r, cur, s, h => by
    unfold wordsGo at h
    split at h
    · rcases List.mem_cons.1 h with rfl | h
      · omega
      · have := go_small r [] s h; simp at this ⊢; omega
    · have := go_small r _ s h; simp at this ⊢; omega
theorem words_small {l s : List UInt8} (h : s ∈ wordsV l) : s.length ≤ l.length := by
  have := go_small l [] s h
  simpa using this
theorem go_len : ∀ (l cur : List UInt8), (wordsGo cur l).length ≤ l.length + 1
  | [], cur => by simp [wordsGo]
  | c :: r, cur => by
    unfold wordsGo
    split
    · have := go_len r []; simp; omega
    · have := go_len r (cur ++ [c]); simp; omega
theorem words_len (l : List UInt8) : (wordsV l).length ≤ l.length + 1 := go_len l []
set_option maxHeartbeats 6400000 in
theorem move_any (l : List UInt8) (hl : l.length ≤ 20000) (w : World) : callE Tryd.prog 11 #[.string (strOf l)] w fun v w' => (match moveV 4009 l with | none => v = .tuple #[.agg zeroMv, .int .i64 270] | some m => ∃ vb vd, v = .tuple #[.agg (mvCells m vb vd), .int .i64 0] ∧ MvO w' w.heap.size m vb vd) ∧ Below w.heap.size w w' := by
  have hsm := fun s (h : s ∈ wordsV l) => words_small h
  have hln := words_len l
  obtain ⟨x, ws, hws⟩ : ∃ x ws, wordsV l = x :: ws := by
    cases h : wordsV l with
    | nil => exact absurd h (go_ne l [])
    | cons x ws => exact ⟨x, ws, rfl⟩
  rw [move_relax hws]
  rw [hws] at hsm hln
  have hk : kindV x ≤ 11 := by
    by_cases h : kindV x = 0
    · omega
    · exact (kindV_name h).2
  refine calls_E Tryd.func11 rfl rfl rfl (Nat.le_of_ble_eq_true rfl) ?_
  simp [go_sem, IntWalk.iteOmega, IntWalk.toNatUp]
  have kR := ext_alloc w (.cells zeroMv 48)
  have hR : Blk (w.alloc (.cells zeroMv 48)) w.heap.size 48 zeroMv := Blk.self_ rfl
  rw [zeroMv] at kR
  rw [show zeroMv = #[.int .i64 0, .int .i64 0, .int .i64 0, .int .i64 0, .slice none 0 0, .slice none 0 0] from rfl] at hR
  generalize w.alloc (.cells #[.int .i64 0, .int .i64 0, .int .i64 0, .int .i64 0, .slice none 0 0, .slice none 0 0] 48) = w0 at *
  refine callE_of (words_any l (by omega) w0) ?_
  rintro v1 w1 ⟨o1, k1⟩
  rw [hws] at o1
  have kk1 := kR.trans (k1.mono kR.size)
  have hR1 := hR.keep k1
  obtain ⟨⟨A, c, e1, hrd, hA, hc1, hc2⟩, A', c', e2⟩ := own_sl o1
  have hlt := o1.lt
  subst e1
  clear e2 o1
  simp [go_sem, IntWalk.iteOmega, IntWalk.toNatUp]
  have hT : TakAt (w1.alloc (.cells #[.slice A (x :: ws).length c, .bool false] 77)) 0 w1.heap.size (x :: ws) false := ⟨A, c, Blk.self_ rfl, hrd.keep (ext_alloc _ _), hA, hc1, hc2, fun j hj => ⟨Nat.zero_le _, atB_lt hrd hj⟩⟩
  have kA := ext_alloc w1 (.cells #[.slice A (x :: ws).length c, .bool false] 77)
  simp only [List.length_cons] at hT kA
  have kk2 := kk1.trans (kA.mono kk1.size)
  have hR2 := hR1.keep kA
  have htl := hT.blk
  push_cast
  generalize w1.alloc (.cells #[.slice A (ws.length + 1) c, .bool false] 77) = w2 at *
  generalize htb : w1.heap.size = tb at *
  have hlo : w.heap.size < tb := by have := hR1.lt; omega
  refine callE_of (word_any hT) ?_
  rintro _ w3 ⟨rfl, hT3, k3⟩
  simp only [List.headD_cons, List.tail_cons, List.isEmpty_cons, Bool.or_false] at hT3 ⊢
  simp [go_sem, IntWalk.iteOmega, IntWalk.toNatUp]
  refine callE_of (kind_any x w3) ?_
  rintro _ w4 ⟨rfl, rfl⟩
  have hR3 := k3.blk hR2 (Nat.ne_of_lt hlo)
  have kk3 := kk2.trans (k3.below kk2.size fun j hj e => by omega)
  have hsm' : ∀ s ∈ ws, s.length ≤ 50000 := fun s hs => by have := hsm s (List.mem_cons_of_mem _ hs); omega
  have hln' : ws.length ≤ 50000 := by simp at hln; omega
  clear hrd hA hc1 hc2 hlt hR2 hR1 kk1 kk2 kR k1 hR htl kA hsm hln k3
  generalize kindV x = k at *
  have htm : tb < w4.heap.size := by obtain ⟨v, hv⟩ := hT3.blk; exact hv.lt
  have kA := ext_alloc w4 (.cells #[.int .i64 k, .int .i64 0, .int .i64 0, .int .i64 0, .slice none 0 0, .slice none 0 0] 48)
  have M : MvAt w (w4.alloc (.cells #[.int .i64 k, .int .i64 0, .int .i64 0, .int .i64 0, .slice none 0 0, .slice none 0 0] 48)) tb w4.heap.size k 0 0 0 [] (.slice none 0 0) [] (.slice none 0 0) (ws, false) :=
    ⟨hR3.keep kA, hT3.keep kA, Blk.self_ rfl, World.ownsRow_nil _ _ _ _, World.ownsRow_nil _ _ _ _, kk3.trans (kA.mono kk3.size), hlo, htm, hsm', hln'⟩
  simp [go_sem, IntWalk.iteOmega, IntWalk.toNatUp, formE k hk]
  obtain ⟨b1, b2, b4, b8, b16⟩ := bits_at ⟨k, by omega⟩
  simp only at b1 b2 b4 b8 b16
  clear hR3 kk3 hT3 kA hT
  generalize w4.alloc (.cells #[.int .i64 k, .int .i64 0, .int .i64 0, .int .i64 0, .slice none 0 0, .slice none 0 0] 48) = w5 at *
  generalize w4.heap.size = mb at *
  refine condC_cut (fun s wr => s 2 = .pointer (some ⟨w.heap.size, 0, none⟩) ∧ s 4 = .pointer (some ⟨tb, 0, none⟩) ∧ s 5 = .pointer (some ⟨mb, 0, none⟩) ∧ s 7 = .int .i64 (bitsK k) ∧ MvAt w wr tb mb k (s1 k ws).1 0 0 [] (.slice none 0 0) [] (.slice none 0 0) (s1 k ws).2) ?_ ?_
  · cases hb : hN k with
    | true =>
      have q : (bits .and .i64 (bitsK k) 1 != 0) = true := by rw [b1, hb]; rfl
      simp [go_sem, IntWalk.iteOmega, IntWalk.toNatUp, q]
      refine callE_of (tnum_any M.tak M.small) ?_
      rintro _ w6 ⟨rfl, h6, k6⟩
      have M6 := M.took h6 k6
      have e := M6.sets 1 (.int .i64 ((numT ws).getD 0)) rfl M6.row M6.rowd
      simp [go_sem, IntWalk.iteOmega, IntWalk.toNatUp, M6.mv.cell, M6.mv.frozen, M6.mv.lt]
      exact atCut.mk ⟨by simp [go_sem], by simp [go_sem], by simp [go_sem], by simp [go_sem], by unfold s1 stN; rw [hb]; exact e⟩
    | false =>
      have q : (bits .and .i64 (bitsK k) 1 != 0) = false := by rw [b1, hb]; rfl
      simp [go_sem, IntWalk.iteOmega, IntWalk.toNatUp, q]
      exact atCut.mk ⟨by simp [go_sem], by simp [go_sem], by simp [go_sem], by simp [go_sem], by unfold s1 stN; rw [hb]; exact M⟩
  clear M b1
  rintro s w6 ⟨e2, e4, e5, e7, M⟩
  simp [go_sem, IntWalk.iteOmega, IntWalk.toNatUp, e2, e4, e5, e7]
  refine condC_cut (fun s wr => s 2 = .pointer (some ⟨w.heap.size, 0, none⟩) ∧ s 4 = .pointer (some ⟨tb, 0, none⟩) ∧ s 5 = .pointer (some ⟨mb, 0, none⟩) ∧ s 7 = .int .i64 (bitsK k) ∧ MvAt w wr tb mb k (s1 k ws).1 (s2 k ws).1 0 [] (.slice none 0 0) [] (.slice none 0 0) (s2 k ws).2) ?_ ?_
  · cases hb : hT k with
    | true =>
      have q : (bits .and .i64 (bitsK k) 2 != 0) = true := by rw [b2, hb]; rfl
      simp [go_sem, IntWalk.iteOmega, IntWalk.toNatUp, q, e2, e4, e5, e7]
      refine callE_of (tnum_any M.tak M.small) ?_
      rintro _ w7 ⟨rfl, h6, k6⟩
      have M6 := M.took h6 k6
      have e := M6.sets 2 (.int .i64 ((numT (s1 k ws).2.1).getD 0)) rfl M6.row M6.rowd
      simp [go_sem, IntWalk.iteOmega, IntWalk.toNatUp, M6.mv.cell, M6.mv.frozen, M6.mv.lt, e2, e4, e5, e7]
      exact atCut.mk ⟨by simp [go_sem, e2], by simp [go_sem, e4], by simp [go_sem, e5], by simp [go_sem, e7], by unfold s2 stN; rw [hb]; exact e⟩
    | false =>
      have q : (bits .and .i64 (bitsK k) 2 != 0) = false := by rw [b2, hb]; rfl
      simp [go_sem, IntWalk.iteOmega, IntWalk.toNatUp, q]
      exact atCut.mk ⟨by simp [go_sem, e2], by simp [go_sem, e4], by simp [go_sem, e5], by simp [go_sem, e7], by unfold s2 stN; rw [hb]; exact M⟩
  clear M b2 e2 e4 e5 e7
  rintro s w7 ⟨e2, e4, e5, e7, M⟩
  simp [go_sem, IntWalk.iteOmega, IntWalk.toNatUp, e2, e4, e5, e7]
  refine condC_cut (fun s wr => s 2 = .pointer (some ⟨w.heap.size, 0, none⟩) ∧ s 4 = .pointer (some ⟨tb, 0, none⟩) ∧ s 5 = .pointer (some ⟨mb, 0, none⟩) ∧ s 7 = .int .i64 (bitsK k) ∧ MvAt w wr tb mb k (s1 k ws).1 (s2 k ws).1 (s3 k ws).1 [] (.slice none 0 0) [] (.slice none 0 0) (s3 k ws).2) ?_ ?_
  · cases hb : hK k with
    | true =>
      have q : (bits .and .i64 (bitsK k) 4 != 0) = true := by rw [b4, hb]; rfl
      simp [go_sem, IntWalk.iteOmega, IntWalk.toNatUp, q, e2, e4, e5, e7]
      refine callE_of (tnum_any M.tak M.small) ?_
      rintro _ w8 ⟨rfl, h6, k6⟩
      have M6 := M.took h6 k6
      have e := M6.sets 3 (.int .i64 ((numT (s2 k ws).2.1).getD 0)) rfl M6.row M6.rowd
      simp [go_sem, IntWalk.iteOmega, IntWalk.toNatUp, M6.mv.cell, M6.mv.frozen, M6.mv.lt, e2, e4, e5, e7]
      exact atCut.mk ⟨by simp [go_sem, e2], by simp [go_sem, e4], by simp [go_sem, e5], by simp [go_sem, e7], by unfold s3 stN; rw [hb]; exact e⟩
    | false =>
      have q : (bits .and .i64 (bitsK k) 4 != 0) = false := by rw [b4, hb]; rfl
      simp [go_sem, IntWalk.iteOmega, IntWalk.toNatUp, q]
      exact atCut.mk ⟨by simp [go_sem, e2], by simp [go_sem, e4], by simp [go_sem, e5], by simp [go_sem, e7], by unfold s3 stN; rw [hb]; exact M⟩
  clear M b4 e2 e4 e5 e7
  rintro s w8 ⟨e2, e4, e5, e7, M⟩
  simp [go_sem, IntWalk.iteOmega, IntWalk.toNatUp, e2, e4, e5, e7]
  refine condC_cut (fun s wr => s 2 = .pointer (some ⟨w.heap.size, 0, none⟩) ∧ s 4 = .pointer (some ⟨tb, 0, none⟩) ∧ s 5 = .pointer (some ⟨mb, 0, none⟩) ∧ ∃ vb, MvAt w wr tb mb k (s1 k ws).1 (s2 k ws).1 (s3 k ws).1 (s4 k ws).1 vb [] (.slice none 0 0) (s4 k ws).2) ?_ ?_
  · cases hb : hB k with
    | true =>
      have q : (bits .and .i64 (bitsK k) 8 != 0) = true := by rw [b8, hb]; rfl
      simp [go_sem, IntWalk.iteOmega, IntWalk.toNatUp, q, e2, e4, e5, e7]
      refine callE_of (tbytes_any M.tak M.small) ?_
      rintro u w9 ⟨ho, h6, k6⟩
      have M6 := M.took h6 k6
      have e := M6.sets 4 u (b' := bytesL ((s3 k ws).2.1.headD [])) rfl (row_low ho M.below.size) M6.rowd
      have e4' : s4 k ws = (bytesL ((s3 k ws).2.1.headD []), (s3 k ws).2.1.tail, (s3 k ws).2.2 || (bytesV ((s3 k ws).2.1.headD [])).isNone) := by unfold s4 stB; rw [hb]; rfl
      rw [e4']
      generalize (s3 k ws).2.1.headD [] = hd at *
      obtain ⟨-, A9, c9, rfl⟩ := own_sl ho
      simp [go_sem, IntWalk.iteOmega, IntWalk.toNatUp, M6.mv.cell, M6.mv.frozen, M6.mv.lt, e2, e4, e5, e7]
      exact atCut.mk ⟨by simp [go_sem, e2], by simp [go_sem, e4], by simp [go_sem, e5], _, e⟩
    | false =>
      have q : (bits .and .i64 (bitsK k) 8 != 0) = false := by rw [b8, hb]; rfl
      simp [go_sem, IntWalk.iteOmega, IntWalk.toNatUp, q]
      exact atCut.mk ⟨by simp [go_sem, e2], by simp [go_sem, e4], by simp [go_sem, e5], _, by unfold s4 stB; rw [hb]; exact M⟩
  clear M b8 b16 e2 e4 e5 e7
  rintro s w9 ⟨e2, e4, e5, vb, M⟩
  obtain ⟨A, c, hb, hr⟩ := id M.tak
  simp [go_sem, IntWalk.iteOmega, IntWalk.toNatUp, e2, e4, e5, hb.cell]
  have hL : (s4 k ws).2.1.length ≤ 50000 := M.len
  have hS : ∀ y ∈ (s4 k ws).2.1, y.length ≤ 50000 := M.small
  obtain ⟨L, hLe⟩ : ∃ L, (s4 k ws).2.1 = L := ⟨_, rfl⟩
  obtain ⟨d4, hde⟩ : ∃ d4, (s4 k ws).2.2 = d4 := ⟨_, rfl⟩
  have hx : (s4 k ws).2 = (L, d4) := by rw [← hLe, ← hde]
  have hbad : badR k ws = (d4 || drawsX L) := by unfold badR; rw [hLe, hde]
  have hmv : mvR k ws = ⟨k, (s1 k ws).1, (s2 k ws).1, (s3 k ws).1, (s4 k ws).1, drawsG L⟩ := by unfold mvR; rw [hLe]
  rw [hx] at M
  rw [hLe] at hL hS
  rw [hbad, hmv]
  simp only [hLe]
  clear hb hr hx hLe hde hbad hmv hln'
  generalize (s1 k ws).1 = a at *
  generalize (s2 k ws).1 = t at *
  generalize (s3 k ws).1 = n at *
  generalize (s4 k ws).1 = b at *
  refine W_loop (fun s wr => ∃ (i : Nat) (vd : Value), i ≤ L.length ∧ s 2 = .pointer (some ⟨w.heap.size, 0, none⟩) ∧ s 4 = .pointer (some ⟨tb, 0, none⟩) ∧ s 5 = .pointer (some ⟨mb, 0, none⟩) ∧ s 52 = .int .i64 L.length ∧ s 53 = .int .i64 i ∧ MvAt w wr tb mb k a t n b vb (drawsG (L.take i)) vd (L.drop i, d4 || drawsX (L.take i))) (fun s _ => L.length - (intOf (s 53)).toNat) ?_ ?_
  · exact ⟨0, .slice none 0 0, by omega, by simp [go_sem, e2], by simp [go_sem, e4], by simp [go_sem, e5], by simp [go_sem], by simp [go_sem], by simpa [drawsG, drawsX] using M⟩
  clear M
  rintro s1 wr ⟨i, vd, hi, e2, e4, e5, e52, e53, M⟩
  by_cases hlt : i < L.length
  · have hlt' : (i : Int) < L.length := by omega
    have hd : L.drop i = L[i] :: L.drop (i + 1) := List.drop_eq_getElem_cons hlt
    have hy : (L[i]).length ≤ 50000 := hS _ (List.getElem_mem hlt)
    have ht : L.take (i + 1) = L.take i ++ [L[i]] := by rw [List.take_add_one, List.getElem?_eq_getElem hlt]; rfl
    rw [hd] at M
    generalize L[i] = y at *
    simp [go_sem, IntWalk.iteOmega, IntWalk.toNatUp, e2, e4, e5, e52, e53, hlt']
    refine callE_of (word_any M.tak) ?_
    rintro _ w10 ⟨rfl, h6, k6⟩
    have M6 := M.took h6 k6
    simp only [List.headD_cons, List.tail_cons, List.isEmpty_cons, Bool.or_false] at M6 ⊢
    clear M h6 k6
    simp [go_sem, IntWalk.iteOmega, IntWalk.toNatUp]
    refine callE_of (number_any y hy w10) ?_
    rintro _ w11 ⟨rfl, k7⟩
    have M7 := M6.keep k7
    clear M6 k7
    obtain ⟨nv, ne, hR, hnv, hnb⟩ : ∃ (nv : Nat) (ne : Int), numR y = .tuple #[.int .u64 nv, .int .i64 ne] ∧ nv = (numV y).getD 0 ∧ ((ne != 0) = (numV y).isNone) := by
      unfold numR
      cases numV y with
      | none => exact ⟨0, 8, rfl, rfl, rfl⟩
      | some m => exact ⟨m, 0, rfl, rfl, rfl⟩
    simp [go_sem, IntWalk.iteOmega, IntWalk.toNatUp, hR, e2, e4, e5, e52, e53]
    refine condC_cut (fun s wr => s 2 = .pointer (some ⟨w.heap.size, 0, none⟩) ∧ s 4 = .pointer (some ⟨tb, 0, none⟩) ∧ s 5 = .pointer (some ⟨mb, 0, none⟩) ∧ s 8 = .int .u64 nv ∧ s 52 = .int .i64 L.length ∧ s 53 = .int .i64 i ∧ MvAt w wr tb mb k a t n b vb (drawsG (L.take i)) vd (L.drop (i + 1), d4 || drawsX (L.take i) || (numV y).isNone)) ?_ ?_
    · cases hq : (numV y).isNone with
      | true =>
        rw [hq] at hnb
        obtain ⟨v, hbb⟩ := M7.tak.blk
        have M8 := M7.fail
        simp [go_sem, IntWalk.iteOmega, IntWalk.toNatUp, hnb, e2, e4, e5, e52, e53, hbb.cell, hbb.frozen, hbb.lt]
        exact atCut.mk ⟨by simp [go_sem, e2], by simp [go_sem, e4], by simp [go_sem, e5], by simp [go_sem], by simp [go_sem, e52], by simp [go_sem, e53], by simpa using M8⟩
      | false =>
        rw [hq] at hnb
        simp [go_sem, IntWalk.iteOmega, IntWalk.toNatUp, hnb]
        exact atCut.mk ⟨by simp [go_sem, e2], by simp [go_sem, e4], by simp [go_sem, e5], by simp [go_sem], by simp [go_sem, e52], by simp [go_sem, e53], by simpa using M7⟩
    · clear e2 e4 e5 e52 e53 M7 hR hnb
      rintro s2 w12 ⟨e2, e4, e5, e8, e52, e53, M⟩
      simp [go_sem, IntWalk.iteOmega, IntWalk.toNatUp, e2, e4, e5, e8, e52, e53, M.mv.cell]
      have hml := M.mv.lt
      have hN : Blk (w12.alloc (.cells #[.int .u64 nv] 53)) w12.heap.size 53 #[.int .u64 nv] := Blk.self_ rfl
      have M2 := M.keep (ext_alloc w12 (.cells #[.int .u64 nv] 53))
      clear M
      generalize w12.alloc (.cells #[.int .u64 nv] 53) = w13 at *
      have hdl : (drawsG (L.take i)).length = i := by simp [drawsG]; omega
      have hrd := M2.rowd
      rw [hdl] at hrd
      refine appendE (mb + 1) 53 1 8 Tryd.underlying46 el53 hrd (m := 1) (news := [.int .u64 nv]) ⟨rfl, fun _ => ⟨_, 0, rfl, hN.lt, fun j u hu => by rw [hN.cell]; simpa using hu⟩⟩ rfl (by unfold maxLen; omega) (by omega) (by have := M2.mv.lt; omega) ?_
      intro v14 w14 own14 g14 _
      have hnew : nums (drawsG (L.take i)) ++ [.int .u64 nv] = nums (drawsG (L.take (i + 1))) := by rw [ht, hnv]; simp [nums, drawsG]
      have hnl : i + 1 = (drawsG (L.take (i + 1))).length := by simp [drawsG]; omega
      have own15 : w14.ownsRow (mb + 1) 53 1 v14 (drawsG (L.take (i + 1))).length (nums (drawsG (L.take (i + 1)))) := by rw [← hnl, ← hnew]; exact own14
      have M3 := M2.app g14 own15
      have hk : Keeps (fun j => vd.ownBlock ≠ some j) w13 w14 := Keeps.grown g14 fun k e h => h e
      have hm4 := hk.blk M2.mv fun e => by have := (M2.rowd.lt _ e).1; omega
      obtain ⟨-, A4, c4, rfl⟩ := own_sl own14
      simp [go_sem, IntWalk.iteOmega, IntWalk.toNatUp, hm4.cell, hm4.frozen, hm4.lt, e2, e4, e5, e8, e52, e53]
      refine roundEnd.mk ⟨i + 1, .slice A4 (i + 1) c4, by omega, by simp [go_sem, e2], by simp [go_sem, e4], by simp [go_sem, e5], by simp [go_sem, e52], by simp [go_sem, e53], ?_⟩ ?_
      · rw [show drawsX (L.take (i + 1)) = (drawsX (L.take i) || (numV y).isNone) by rw [ht]; simp [drawsX]]
        rw [← Bool.or_assoc]
        exact M3
      · simp [go_sem, intOf]; omega
  · obtain rfl : i = L.length := by omega
    rw [List.take_of_length_le (Nat.le_refl _)] at M
    generalize (d4 || drawsX L) = bd at *
    obtain ⟨A3, c3, htk, -⟩ := M.tak
    obtain ⟨-, Ab, cb, rfl⟩ := own_sl M.row
    obtain ⟨-, Ad, cd, rfl⟩ := own_sl M.rowd
    have hR := M.res
    rw [show zeroMv = #[.int .i64 0, .int .i64 0, .int .i64 0, .int .i64 0, .slice none 0 0, .slice none 0 0] from rfl] at hR
    cases bd with
    | true =>
      rw [if_neg (by simp)]
      have hz := Blk_setRow hR (cs' := #[.int .i64 0, .int .i64 0, .int .i64 0, .int .i64 0, .slice none 0 0, .slice none 0 0])
      simp [go_sem, IntWalk.iteOmega, IntWalk.toNatUp, e2, e4, e5, e52, e53, htk.cell, canWrite_all hR 6 rfl, storeSeg_all hR, hz.cell]
      exact ⟨rfl, below_setRow M.below (Nat.le_refl _) _⟩
    | false =>
      simp [go_sem, IntWalk.iteOmega, IntWalk.toNatUp, e2, e4, e5, e52, e53, htk.cell, M.mv.cell]
      refine callE_of (check_any k hk a t n Ab Ad b.length cb (drawsG L).length cd wr) ?_
      rintro _ w15 ⟨rfl, k15⟩
      have M5 := M.keep k15
      have hR5 := hR.keep k15
      cases hq : checkB k a t n b.length (drawsG L).length with
      | true =>
        rw [if_pos (⟨rfl, rfl⟩ : false = false ∧ true = true)]
        have hz := Blk_setRow hR5 (cs' := #[.int .i64 k, .int .i64 a, .int .i64 t, .int .i64 n, .slice Ab b.length cb, .slice Ad (drawsG L).length cd])
        have hfar := fun cs => Blk.farRow M5.mv (show mb ≠ w.heap.size by omega) cs
        simp [go_sem, IntWalk.iteOmega, IntWalk.toNatUp, e2, e4, e5, M5.mv.cell, canWrite_all hR5 6 rfl, storeSeg_all hR5, hz.cell]
        have kz : ∀ cs, Keeps (fun j => j ≠ w.heap.size) w15 (w15.setRow w.heap.size cs) := fun cs => Keeps.setRow w15 w.heap.size cs (fun h => h rfl)
        refine ⟨⟨_, _, rfl, ?_, ?_⟩, below_setRow M5.below (Nat.le_refl _) _⟩
        · exact row_keeps M5.row (kz _) fun j hj e => row_ne M5.row hR5 (by decide) (by rw [hj, e])
        · exact row_low (row_keeps M5.rowd (kz _) fun j hj e => row_ne M5.rowd hR5 (by decide) (by rw [hj, e])) (by omega)
      | false =>
        rw [if_neg (by simp)]
        have hz := Blk_setRow hR5 (cs' := #[.int .i64 0, .int .i64 0, .int .i64 0, .int .i64 0, .slice none 0 0, .slice none 0 0])
        simp [go_sem, IntWalk.iteOmega, IntWalk.toNatUp, e2, e4, e5, canWrite_all hR5 6 rfl, storeSeg_all hR5, hz.cell]
        exact ⟨rfl, below_setRow M5.below (Nat.le_refl _) _⟩
end Go.Proofs.YtpmmfabendnhiaaDoor
namespace Go.Proofs.YtpmmfabendnhiaaDoor
open Go.RowKit
open Go.Lib (strCells byteCells decDigits)
set_option linter.unusedVariables false
set_option linter.unusedSimpArgs false
set_option maxRecDepth 10000
def cfgL (c : Nat → Nat) : List Value := [.int .i64 (c 0), .int .i64 (c 1), .int .i64 (c 2), .int .i64 (c 3), .int .i64 (c 4), .int .i64 (c 5), .int .i64 (c 6), .int .i64 (c 7), .int .i64 (c 8), .int .i64 (c 9), .int .i64 (c 10), .int .i64 (c 11), .int .i64 (c 12), .int .i64 (c 13), .int .i64 (c 14), .int .i64 (c 15), .int .i64 (c 16), .int .i64 (c 17), .int .i64 (c 18), .int .i64 (c 19), .int .i64 (c 20), .int .i64 (c 21), .int .i64 (c 22), .int .i64 (c 23), .int .i64 (c 24), .int .i64 (c 25), .int .i64 (c 26), .int .i64 (c 27)]
def rdCells (c : Nat → Nat) (now : Nat) (vv vb vf vm : Value) (n : Nat) : Array Value := (cfgL c ++ [vv, vb, vf, .int .i64 now, vm, .int .i64 n]).toArray
def set1 (c : Nat → Nat) (i v : Nat) : Nat → Nat := fun j => if j = i then v else c j
section
variable (c : Nat → Nat) (now : Nat) (vv vb vf vm : Value) (n : Nat)
theorem rd_28 : (rdCells c now vv vb vf vm n)[28]? = some vv := rfl
theorem rd_29 : (rdCells c now vv vb vf vm n)[29]? = some vb := rfl
theorem rd_30 : (rdCells c now vv vb vf vm n)[30]? = some vf := rfl
theorem rd_31 : (rdCells c now vv vb vf vm n)[31]? = some (.int .i64 now) := rfl
theorem rd_32 : (rdCells c now vv vb vf vm n)[32]? = some vm := rfl
theorem rd_33 : (rdCells c now vv vb vf vm n)[33]? = some (.int .i64 n) := rfl
theorem rd_lo (i : Fin 28) : (rdCells c now vv vb vf vm n)[i.val]? = some (.int .i64 (c i.val)) := by
  match i with
  | ⟨0, _⟩ => rfl
  | ⟨1, _⟩ => rfl
  | ⟨2, _⟩ => rfl
  | ⟨3, _⟩ => rfl
  | ⟨4, _⟩ => rfl
  | ⟨5, _⟩ => rfl
  | ⟨6, _⟩ => rfl
  | ⟨7, _⟩ => rfl
  | ⟨8, _⟩ => rfl
  | ⟨9, _⟩ => rfl
  | ⟨10, _⟩ => rfl
  | ⟨11, _⟩ => rfl
  | ⟨12, _⟩ => rfl
  | ⟨13, _⟩ => rfl
  | ⟨14, _⟩ => rfl
  | ⟨15, _⟩ => rfl
  | ⟨16, _⟩ => rfl
  | ⟨17, _⟩ => rfl
  | ⟨18, _⟩ => rfl
  | ⟨19, _⟩ => rfl
  | ⟨20, _⟩ => rfl
  | ⟨21, _⟩ => rfl
  | ⟨22, _⟩ => rfl
  | ⟨23, _⟩ => rfl
  | ⟨24, _⟩ => rfl
  | ⟨25, _⟩ => rfl
  | ⟨26, _⟩ => rfl
  | ⟨27, _⟩ => rfl
  | ⟨k + 28, h⟩ => exact absurd h (by omega)
theorem rd_set (i : Fin 28) (v : Nat) : (rdCells c now vv vb vf vm n).setIfInBounds i.val (.int .i64 v) = rdCells (set1 c i.val v) now vv vb vf vm n := by
  match i with
  | ⟨0, _⟩ => rfl
  | ⟨1, _⟩ => rfl
  | ⟨2, _⟩ => rfl
  | ⟨3, _⟩ => rfl
  | ⟨4, _⟩ => rfl
  | ⟨5, _⟩ => rfl
  | ⟨6, _⟩ => rfl
  | ⟨7, _⟩ => rfl
  | ⟨8, _⟩ => rfl
  | ⟨9, _⟩ => rfl
  | ⟨10, _⟩ => rfl
  | ⟨11, _⟩ => rfl
  | ⟨12, _⟩ => rfl
  | ⟨13, _⟩ => rfl
  | ⟨14, _⟩ => rfl
  | ⟨15, _⟩ => rfl
  | ⟨16, _⟩ => rfl
  | ⟨17, _⟩ => rfl
  | ⟨18, _⟩ => rfl
  | ⟨19, _⟩ => rfl
  | ⟨20, _⟩ => rfl
  | ⟨21, _⟩ => rfl
  | ⟨22, _⟩ => rfl
  | ⟨23, _⟩ => rfl
  | ⟨24, _⟩ => rfl
  | ⟨25, _⟩ => rfl
  | ⟨26, _⟩ => rfl
  | ⟨27, _⟩ => rfl
  | ⟨k + 28, h⟩ => exact absurd h (by omega)
theorem rd_set28 (v : Value) : (rdCells c now vv vb vf vm n).setIfInBounds 28 v = rdCells c now v vb vf vm n := rfl
theorem rd_set29 (v : Value) : (rdCells c now vv vb vf vm n).setIfInBounds 29 v = rdCells c now vv v vf vm n := rfl
theorem rd_set30 (v : Value) : (rdCells c now vv vb vf vm n).setIfInBounds 30 v = rdCells c now vv vb v vm n := rfl
theorem rd_set31 (v : Nat) : (rdCells c now vv vb vf vm n).setIfInBounds 31 (.int .i64 v) = rdCells c v vv vb vf vm n := rfl
theorem rd_set32 (v : Value) : (rdCells c now vv vb vf vm n).setIfInBounds 32 v = rdCells c now vv vb vf v n := rfl
theorem rd_set33 (v : Nat) : (rdCells c now vv vb vf vm n).setIfInBounds 33 (.int .i64 v) = rdCells c now vv vb vf vm v := rfl
end
structure HdAt (W w : World) (rb tb : Nat) (x : Tks) (cs : Array Value) : Prop where
  tak : TakAt w W.heap.size tb x.1 x.2
  rd : Blk w rb 60 cs
  keep : Keeps (fun j => j ≠ rb) W w
  lt : rb < W.heap.size
  lo : W.heap.size ≤ tb
  small : ∀ s ∈ x.1, s.length ≤ 50000
variable {W w w' : World} {rb tb : Nat} {x : Tks} {cs : Array Value}
theorem keeps_then {O : Nat → Prop} {a b c : World} (h : Keeps O a b) (k : Keeps (fun j => j < a.heap.size ∧ O j) b c) : Keeps O a c :=
  ⟨k.os.trans h.os, k.tape.trans h.tape, k.output.trans h.output, Nat.le_trans h.size k.size, fun j hj ho => (k.block j (Nat.lt_of_lt_of_le hj h.size) ⟨hj, ho⟩).trans (h.block j hj ho)⟩
theorem HdAt.took (h : HdAt W w rb tb x cs) {bad : Bool} (ht : TakAt w' W.heap.size tb x.1.tail bad) (hk : Tk tb w w') : HdAt W w' rb tb (x.1.tail, bad) cs := by
  have l1 := h.lt
  have l2 := h.lo
  exact ⟨ht, hk.blk h.rd (by omega), keeps_then h.keep (hk.mono fun j _ hj => by omega), h.lt, h.lo, fun s hs => h.small s (List.mem_of_mem_tail hs)⟩
theorem HdAt.more (h : HdAt W w rb tb x cs) (hk : Below w.heap.size w w') : HdAt W w' rb tb x cs :=
  ⟨h.tak.keep hk, h.rd.keep hk, keeps_then h.keep (Keeps.of_ext hk), h.lt, h.lo, h.small⟩
theorem HdAt.sets (h : HdAt W w rb tb x cs) (i : Nat) (v : Value) : HdAt W (w.setCell ⟨rb, i, none⟩ v) rb tb x (cs.setIfInBounds i v) := by
  have l1 := h.lt
  have l2 := h.lo
  have hk : Keeps (fun j => j ≠ rb) w (w.setCell ⟨rb, i, none⟩ v) := Keeps.setCell w ⟨rb, i, none⟩ v (fun h => h rfl)
  obtain ⟨A, c, hb, hrd, hA, h1, h2, h3⟩ := h.tak
  exact ⟨⟨A, c, hk.blk hb (by omega), Rd_on hrd hk (fun j hj => by have := h3 j hj; omega), hA, h1, h2, h3⟩, Blk_set h.rd, keeps_then h.keep (hk.mono fun j _ hj => hj.2), h.lt, h.lo, h.small⟩
theorem HdAt.num (h : HdAt W w rb tb x cs) : callE Tryd.prog 26 #[.pointer (some ⟨tb, 0, none⟩)] w fun u w' => u = .int .i64 ((numT x.1).getD 0) ∧ HdAt W w' rb tb (x.1.tail, x.2 || (numT x.1).isNone) cs :=
  callE_of (tnum_any h.tak h.small) fun v w' ⟨h1, h2, h3⟩ => ⟨h1, h.took h2 h3⟩
theorem HdAt.num2 (h : HdAt W w rb tb x cs) : callE Tryd.prog 26 #[.pointer (some ⟨tb, 0, none⟩)] w fun u w' => u = .int .i64 ((numT x.1).getD 0) ∧ HdAt W w' rb tb (x.1.tail, x.2 || (numT x.1).isNone) cs ∧ Tk tb w w' :=
  callE_of (tnum_any h.tak h.small) fun v w' ⟨h1, h2, h3⟩ => ⟨h1, h.took h2 h3, h3⟩
theorem HdAt.tset (h : HdAt W w rb tb x cs) (b : Value) : Blk (w.setCell ⟨tb, 1, none⟩ b) rb 60 cs ∧ Keeps (fun j => j ≠ rb) W (w.setCell ⟨tb, 1, none⟩ b) := by
  have l1 := h.lt
  have l2 := h.lo
  have hk : Keeps (fun j => j ≠ tb) w (w.setCell ⟨tb, 1, none⟩ b) := Keeps.setCell w ⟨tb, 1, none⟩ b (fun h => h rfl)
  exact ⟨hk.blk h.rd (by omega), keeps_then h.keep (hk.mono fun j _ hj => by omega)⟩
theorem HdAt.bytes (h : HdAt W w rb tb x cs) : callE Tryd.prog 27 #[.pointer (some ⟨tb, 0, none⟩)] w fun u w' => w'.ownsRow w.heap.size 5 1 u (bytesL (x.1.headD [])).length (byteCells (bytesL (x.1.headD []))) ∧ HdAt W w' rb tb (x.1.tail, x.2 || (bytesV (x.1.headD [])).isNone) cs :=
  callE_of (tbytes_any h.tak h.small) fun v w' ⟨h1, h2, h3⟩ => ⟨h1, h.took h2 h3⟩
theorem seg4 (w : World) (g : Nat) (a b c d : Value) : storeSeg w ⟨g, 0, none⟩ 0 [a, b, c, d] = (((w.setCell ⟨g, 0, none⟩ a).setCell ⟨g, 1, none⟩ b).setCell ⟨g, 2, none⟩ c).setCell ⟨g, 3, none⟩ d := Eq.trans rfl rfl
/-- a number of the plan is set -/
theorem HdAt.set {c : Nat → Nat} {now : Nat} {vv vb vf vm : Value} {n : Nat} (h : HdAt W w rb tb x (rdCells c now vv vb vf vm n)) (i : Nat) (hi : i < 28) (v : Nat) : HdAt W (w.setCell ⟨rb, i, none⟩ (.int .i64 v)) rb tb x (rdCells (set1 c i v) now vv vb vf vm n) := by
  have := h.sets i (.int .i64 v)
  rwa [rd_set c now vv vb vf vm n ⟨i, hi⟩ v] at this
/-- what stands behind the first word -/
def HeadQ (w : World) (rb : Nat) (c : Nat → Nat) (now : Nat) (vv vb vf vm : Value) (n : Nat) (l : List UInt8) (v : Value) (w' : World) : Prop :=
  ∃ x ws c' now' vf', wordsV l = x :: ws ∧ Blk w' rb 60 (rdCells c' now' vv vb vf' vm n) ∧ Keeps (fun j => j ≠ rb) w w' ∧ (x ≠ hname n → v = .bool false) ∧ (x = hname n →
    (n ≤ 6 → v = .bool (okN (hcnt n) ws) ∧ c' = upd c (hoff n) (hcnt n) ws ∧ now' = now ∧ vf' = vf) ∧
    (n = 7 → v = .bool ((bytesV (ws.headD [])).isSome && decide ((bytesL (ws.headD [])).length ≤ 200) && ws.tail.isEmpty) ∧ c' = c ∧ now' = now ∧ w'.ownsRow w.heap.size 5 1 vf' (bytesL (ws.headD [])).length (byteCells (bytesL (ws.headD [])))) ∧
    (n = 8 → v = .bool (okN 1 ws) ∧ c' = c ∧ vf' = vf ∧ now' = nG ws 0))
end Go.Proofs.YtpmmfabendnhiaaDoor
