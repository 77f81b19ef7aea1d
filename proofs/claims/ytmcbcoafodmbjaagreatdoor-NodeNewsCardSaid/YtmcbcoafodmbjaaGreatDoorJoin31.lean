/-
  Texts joined: FUnpack, FCount, FPack, FPut, FBlock, NScan, FClone, FMade, FBytes.
-/
import Derived.Test.YtmcbcoafodmbjaaGreatDoorJoin30
import Derived.Deep.Draws
import Derived.ChangeKeysEq
import Derived.Stop.BytesEq

/-
  pack.Unpacker: the program's walks.
-/
namespace Go.Proofs.YtmcbcoafodmbjaaGreatDoor
open Go.RowKit
set_option linter.unusedVariables false
set_option linter.unusedSimpArgs false
set_option maxRecDepth 10000
theorem bl_at2 (l : List UInt8) (i : Nat) (h : i < l.length) : (bl l)[i]? = some (.int .u8 ((l[i]).toNat : Int)) := by simp [bl, h]
theorem take_snoc {l : List UInt8} {i : Nat} (h : i < l.length) : l.take (i + 1) = l.take i ++ [l[i]] := by
  rw [List.take_add_one, List.getElem?_eq_getElem h]; rfl
def UnIn (w : World) (B u : Nat) (l : List UInt8) (e : Int) : Prop := ∃ g o c, B ≤ g ∧ B ≤ u ∧ g ≠ u ∧ Blk w u 551 #[.bool true, .slice (some ⟨g, o, none⟩) l.length c, .int .i64 e] ∧ l.length ≤ c ∧ c ≤ 9223372036854775807 ∧ g < w.heap.size ∧ ∀ j v, (bl l)[j]? = some v → w.cell? ⟨g, o + j, none⟩ = some v
theorem UnIn.keep {w w' : World} {B u : Nat} {l : List UInt8} {e : Int} (h : UnIn w B u l e) (hb : Below w.heap.size w w') : UnIn w' B u l e := by
  obtain ⟨g, o, c, h1, h2, h3, h4, h5, h6, h7, h8⟩ := h
  exact ⟨g, o, c, h1, h2, h3, h4.keep hb, h5, h6, Nat.lt_of_lt_of_le h7 hb.size, fun j v hj => by rw [hb.cell h7]; exact h8 j v hj⟩
end Go.Proofs.YtmcbcoafodmbjaaGreatDoor

/-
  pack.Unpacker: counted bytes, numbers, Read, End.
-/
namespace Go.Proofs.YtmcbcoafodmbjaaGreatDoor
open Go.RowKit
set_option linter.unusedVariables false
set_option linter.unusedSimpArgs false
set_option maxRecDepth 10000
theorem nilRd (w : World) : RdB w (.slice none 0 0) [] := ⟨none, 0, rfl, ⟨rfl, fun h => by simp at h⟩, fun _ => rfl, by simp, by omega⟩
end Go.Proofs.YtmcbcoafodmbjaaGreatDoor

/-
  pack.Packer: the program's walks.
-/
namespace Go.Proofs.YtmcbcoafodmbjaaGreatDoor
open Go.RowKit
set_option linter.unusedVariables false
set_option linter.unusedSimpArgs false
set_option maxRecDepth 10000
def numB (n v : Nat) : List UInt8 := (List.range n).map fun i => UInt8.ofNat (v / 256 ^ (n - 1 - i))
theorem numB_len (n v : Nat) : (numB n v).length = n := by simp [numB]
def numTo (n v i : Nat) : List UInt8 := List.replicate (n - i) 0 ++ (numB n v).drop (n - i)
theorem numTo_len (n v i : Nat) (h : i ≤ n) : (numTo n v i).length = n := by
  unfold numTo
  rw [List.length_append, List.length_replicate, List.length_drop, numB_len]
  omega
theorem numTo_next {n v i : Nat} (h : i < n) : numTo n v (i + 1) = (numTo n v i).set (n - 1 - i) (UInt8.ofNat (v / 256 ^ i)) := by
  obtain ⟨k, hk⟩ : ∃ k, n - i = k + 1 := ⟨n - i - 1, by omega⟩
  have e1 : n - (i + 1) = k := by omega
  have e2 : n - 1 - i = k := by omega
  have e3 : (numB n v).drop k = UInt8.ofNat (v / 256 ^ i) :: (numB n v).drop (k + 1) := by
    rw [List.drop_eq_getElem_cons (by rw [numB_len]; omega)]
    congr 1
    simp only [numB, List.getElem_map, List.getElem_range]
    congr 3
    omega
  unfold numTo
  rw [e1, e2, hk, e3, List.replicate_succ', List.append_assoc]
  rw [List.set_append_right _ _ (by simp)]
  simp
theorem shr8 (v i : Nat) : IntKind.u8.wrap ((v : Int) / 2 ^ (8 * i)) = ((UInt8.ofNat (v / 256 ^ i)).toNat : Int) := by
  have h : (v : Int) / 2 ^ (8 * i) = ((v / 256 ^ i : Nat) : Int) := by
    have : (2 : Nat) ^ (8 * i) = 256 ^ i := by rw [Nat.pow_mul]
    rw [← this]; simp
  rw [h, IntKind.wrap_u8]
  simp
theorem bl_set (l : List UInt8) (i : Nat) (c : UInt8) : bl (l.set i c) = (bl l).set i (.int .u8 (c.toNat : Int)) := by simp [bl, List.map_set]
set_option maxHeartbeats 1600000 in
theorem number_any (n v : Nat) (hn : n ≤ 8) (hv : v < 18446744073709551616) (w : World) :
    callE Tryz.prog 365 #[.int .i64 n, .int .u64 v] w fun r w' => (∃ c, r = .slice (some ⟨w.heap.size, 0, none⟩) n c ∧ n ≤ c ∧ c ≤ 9223372036854775807) ∧ Blk w' w.heap.size 5 (bl (numB n v)).toArray ∧ Below w.heap.size w w' := by
  have hm := fun W => run_make1 (P := Tryz.prog) Tryz.underlying37 (e := 5) (z := .int .u8 0) (bytes := 1) (by kernel_rfl) rfl n (by omega) (by omega) W
  refine calls_E Tryz.func365 rfl rfl rfl (Nat.le_of_ble_eq_true rfl) ?_
  simp [go_sem, IntWalk.iteOmega, IntWalk.toNatUp, hm]
  refine W_loop (fun st wr => ∃ i : Nat, i ≤ n ∧ st 0 = .int .i64 n ∧ st 1 = .int .u64 v ∧ st 5 = .slice (some ⟨w.heap.size, 0, none⟩) n n ∧ st 10 = .int .i64 n ∧ st 11 = .int .i64 i ∧ Blk wr w.heap.size 5 (bl (numTo n v i)).toArray ∧ Below w.heap.size w wr) (fun st _ => n - (intOf (st 11)).toNat) ?_ ?_
  · refine ⟨0, by omega, by simp [go_sem], by simp [go_sem], by simp [go_sem], by simp [go_sem], by simp [go_sem], ?_, ext_alloc _ _⟩
    have : (bl (numTo n v 0)).toArray = Array.replicate n (.int .u8 0) := by
      apply Array.ext'
      simp [numTo, bl, List.drop_of_length_le (show (numB n v).length ≤ n by rw [numB_len]; omega)]
    rw [this]
    exact Blk.self_ rfl
  · rintro st wr ⟨i, hi, e0, e1, e5, e10, e11, hB, hbw⟩
    by_cases hlt : i < n
    · have hlt' : (i : Int) < n := by omega
      have hlen := numTo_len n v i (by omega)
      have hgt : (bl (numTo n v i))[n - 1 - i]? = some (.int .u8 (((numTo n v i)[n - 1 - i]'(by omega)).toNat : Int)) := bl_at2 _ _ (by omega)
      have hset := Blk_set (o := n - 1 - i) (v := .int .u8 ((UInt8.ofNat (v / 256 ^ i)).toNat : Int)) hB
      simp [go_sem, IntWalk.iteOmega, IntWalk.toNatUp, e0, e1, e5, e10, e11, hlt, hlt', hB.cell, hB.frozen, hgt, shr8]
      refine roundEnd.mk ⟨i + 1, by omega, by simp [go_sem, e0], by simp [go_sem, e1], by simp [go_sem, e5], by simp [go_sem, e10], by simp [go_sem], ?_, hbw.setCell (Nat.le_refl _) _⟩ ?_
      · have e : (bl (numTo n v (i + 1))).toArray = (bl (numTo n v i)).toArray.setIfInBounds (n - 1 - i) (.int .u8 ((UInt8.ofNat (v / 256 ^ i)).toNat : Int)) := by
          apply Array.ext'
          rw [Array.toList_setIfInBounds, numTo_next hlt, bl_set]
        rw [e]
        simpa using hset
      · simp [go_sem, intOf]; omega
    · obtain rfl : i = n := by omega
      have e : numTo i v i = numB i v := by simp [numTo]
      rw [e] at hB
      simp [go_sem, IntWalk.iteOmega, IntWalk.toNatUp, e0, e1, e5, e10, e11]
      exact ⟨by omega, hB, hbw⟩
structure PackAt (w : World) (B p : Nat) (v : Value) (l : List UInt8) (e : Int) (limit : Nat) : Prop where
  le : B ≤ p
  blk : Blk w p 544 #[.bool true, v, .int .i64 e, .int .i64 limit]
  own : w.ownsRow B 5 1 v l.length (bl l)
theorem noinit_pworks : Tryz.prog.inits.idxOf? 436 = none := by kernel_rfl
theorem noinit_perr : Tryz.prog.inits.idxOf? 366 = none := by kernel_rfl
theorem pworks_runs {w : World} {B p n : Nat} {v : Value} {l : List UInt8} {e : Int} (h : PackAt w B p v l e n) : Runs Tryz.prog 436 #[.pointer (some ⟨p, 0, none⟩)] w (.bool (e == 0)) w := by
  refine runs_of_callE ?_
  have h4 := h.blk
  refine calls_E Tryz.func436 rfl rfl rfl (Nat.le_of_ble_eq_true rfl) ?_
  simp [go_sem, IntWalk.iteOmega, IntWalk.toNatUp, h4.cell]
theorem perr_runs {w : World} {B p n : Nat} {v : Value} {l : List UInt8} {e : Int} (h : PackAt w B p v l e n) : Runs Tryz.prog 366 #[.pointer (some ⟨p, 0, none⟩)] w (.int .i64 e) w := by
  refine runs_of_callE ?_
  have h4 := h.blk
  refine calls_E Tryz.func366 rfl rfl rfl (Nat.le_of_ble_eq_true rfl) ?_
  simp [go_sem, IntWalk.iteOmega, IntWalk.toNatUp, h4.cell]
theorem packnew_any (n : Nat) (hn : n ≤ 8192) (w : World) :
    callE Tryz.prog 274 #[.int .i64 n] w fun r w' => ∃ p, r = .pointer (some ⟨p, 0, none⟩) ∧ PackAt w' w.heap.size p (.slice none 0 0) [] 0 n ∧ Below w.heap.size w w' := by
  have q1 : ¬ (n : Int) < 0 := by omega
  have q2 : ¬ (8192 : Int) < n := by omega
  refine calls_E Tryz.func274 rfl rfl rfl (Nat.le_of_ble_eq_true rfl) ?_
  simp [go_sem, IntWalk.iteOmega, IntWalk.toNatUp, q1, q2]
  exact ⟨⟨Nat.le_refl _, Blk.self_ rfl, World.ownsRow_nil _ _ _ _⟩, ext_alloc _ _⟩
set_option maxHeartbeats 3200000 in
theorem put_any {w : World} {B p n : Nat} {v : Value} {l : List UInt8} (h : PackAt w B p v l 0 n) {vh vb : Value} {lh lb : List UInt8} (hh : RdB w vh lh) (hb : RdB w vb lb) (hB : B ≤ w.heap.size)
    (hne : ∀ g o m c, vb = .slice (some ⟨g, o, none⟩) m c → 0 < m → g < B) (hfit : l.length + lh.length + lb.length ≤ n) (hn : n ≤ 8192) :
    callE Tryz.prog 364 #[.pointer (some ⟨p, 0, none⟩), vh, vb] w fun r w' => r = .tuple #[] ∧ (∃ v', PackAt w' B p v' (l ++ lh ++ lb) 0 n) ∧ Below B w w' := by
  have r0 := fun k => callE_eq noinit_pworks (pworks_runs h) k
  obtain ⟨hp, h4, hown⟩ := h
  have hpl := h4.lt
  obtain ⟨Ah, ch, rfl, rh, nh, ch1, ch2⟩ := hh
  obtain ⟨Ab, cb, rfl, rb, nb, cb1, cb2⟩ := hb
  obtain ⟨-, A, c, rfl⟩ := own_sl hown
  have q1 : ¬ (n : Int) - l.length < lh.length := by omega
  have q2 : ¬ (n : Int) - l.length - lh.length < lb.length := by omega
  refine calls_E Tryz.func364 rfl rfl rfl (Nat.le_of_ble_eq_true rfl) ?_
  simp [go_sem, IntWalk.iteOmega, IntWalk.toNatUp, r0]
  refine W_still follows (by kernel_rfl) ?_
  have h4d := h4.drew
  have hownd := own_keep hown (ext_drew w)
  have rhd : Rd w.drew 1 Ah lh.length (bl lh) := rh.keep (ext_drew w)
  have rbd : Rd w.drew 1 Ab lb.length (bl lb) := rb.keep (ext_drew w)
  have kD : Below B w w.drew := (Below.refl B w).drew
  have hBd : B ≤ w.drew.heap.size := hB
  have hpld : p < w.drew.heap.size := hpl
  generalize w.drew = w1 at *
  simp [go_sem, IntWalk.iteOmega, IntWalk.toNatUp, h4d.cell, q1, q2]
  have hlt := hownd.lt
  refine appendE B 5 1 1 Tryz.underlying37 el5 hownd rhd (bl_one _) (by unfold maxLen; omega) (by omega) hBd ?_
  intro v2 w2 own2 g2 _
  have kB2 : Below B w1 w2 := (Below.refl B w1).grown g2 hBd (fun k hk => (hlt k hk).1)
  have hne1 := row_ne hownd h4d (by decide)
  have h42 : Blk w2 p 544 #[.bool true, .slice A l.length c, .int .i64 0, .int .i64 n] := (g2.block p hpld (fun e => hne1 e.symm)).trans h4d
  have rb2 : Rd w2 1 Ab lb.length (bl lb) := ⟨rbd.len, fun h0 => by
    obtain ⟨b, o, e, hb, hc⟩ := rbd.cells h0
    refine ⟨b, o, e, Nat.lt_of_lt_of_le hb g2.size, fun j u hu => ?_⟩
    have hbB : b < B := hne b o lb.length cb (by rw [e]) h0
    rw [kB2.cell hbB]
    exact hc j u hu⟩
  have own2' : w2.ownsRow B 5 1 v2 (l.length + lh.length) (bl (l ++ lh)) := by rw [bl_append]; exact own2
  obtain ⟨-, A2, c2, rfl⟩ := own_sl own2'
  simp [go_sem, IntWalk.iteOmega, IntWalk.toNatUp]
  have hlt2 := own2'.lt
  refine appendE B 5 1 1 Tryz.underlying37 el5 own2' rb2 (bl_one _) (by unfold maxLen; omega) (by omega) (by have := g2.size; omega) ?_
  intro v3 w3 own3 g3 _
  have kB3 : Below B w1 w3 := kB2.grown g3 (Nat.le_trans hBd kB2.size) (fun k hk => (hlt2 k hk).1)
  have hne2 := row_ne own2' h42 (by decide)
  have h43 : Blk w3 p 544 #[.bool true, .slice A l.length c, .int .i64 0, .int .i64 n] := (g3.block p h42.lt (fun e => hne2 e.symm)).trans h42
  have own3' : w3.ownsRow B 5 1 v3 (l ++ lh ++ lb).length (bl (l ++ lh ++ lb)) := by
    have e : (l ++ lh ++ lb).length = l.length + lh.length + lb.length := by simp; omega
    rw [e, bl_append]; exact own3
  obtain ⟨-, A3, c3, rfl⟩ := own_sl own3
  have hne3 := row_ne own3' h43 (by decide)
  simp [go_sem, IntWalk.iteOmega, IntWalk.toNatUp, h43.cell, h43.frozen]
  have e4 : l ++ (lh ++ lb) = l ++ lh ++ lb := (List.append_assoc ..).symm
  rw [e4]
  have e : (l ++ lh ++ lb).length = l.length + lh.length + lb.length := by simp; omega
  have hb3 := Blk_set (o := 1) (v := .slice A3 (l.length + lh.length + lb.length) c3) h43
  exact ⟨⟨_, ⟨hp, by simpa using hb3, ownsRow_setCell_other own3' (a := ⟨p, 1, none⟩) hne3 _⟩⟩, kD.trans (kB3.setCell (p := ⟨p, 1, none⟩) hp _)⟩
theorem out_any {w : World} {B p n : Nat} {v : Value} {l : List UInt8} (h : PackAt w B p v l 0 n) (hl : l.length ≤ 100000) :
    callE Tryz.prog 279 #[.pointer (some ⟨p, 0, none⟩)] w fun r w' => (∃ u, r = .tuple #[u, .int .i64 0] ∧ RdB w' u l ∧ (∀ g o m c, u = .slice (some ⟨g, o, none⟩) m c → w.heap.size ≤ g)) ∧ Below w.heap.size w w' := by
  have r0 := fun k => callE_eq noinit_perr (perr_runs h) k
  obtain ⟨hp, h4, hown⟩ := h
  obtain ⟨-, A, c, rfl⟩ := own_sl hown
  have hrd := Rd.of_own hown
  have hm := fun W => run_make1 (P := Tryz.prog) Tryz.underlying37 (e := 5) (z := .int .u8 0) (bytes := 1) (by kernel_rfl) rfl l.length (by omega) (by omega) W
  refine calls_E Tryz.func279 rfl rfl rfl (Nat.le_of_ble_eq_true rfl) ?_
  have kA := ext_alloc w (.cells (Array.replicate l.length (.int .u8 0)) 5)
  have hU := h4.keep kA
  have hN : Blk (w.alloc (.cells (Array.replicate l.length (.int .u8 0)) 5)) w.heap.size 5 (Array.replicate l.length (.int .u8 0)) := Blk.self_ rfl
  simp [go_sem, IntWalk.iteOmega, IntWalk.toNatUp, r0, h4.cell, hm]
  generalize w.alloc (.cells (Array.replicate l.length (.int .u8 0)) 5) = w1 at *
  simp [go_sem, IntWalk.iteOmega, IntWalk.toNatUp, hU.cell]
  refine copyE (te := 5) (cur := Array.replicate l.length (.int .u8 0)) Tryz.underlying37 (by kernel_rfl) (bl l) hN (by show (bl l).length = min l.length l.length; simp [bl]) (fun _ => rfl) (fun hq => ?_) (by simp [bl]) (bl_one _) ?_
  · obtain ⟨b, o, rfl, hb, hc⟩ := hrd.cells (by simpa [bl] using hq)
    exact ⟨_, rfl, fun j v hj => by rw [add_none, kA.cell hb]; exact hc j v hj⟩
  · intro w3 cur3 hN3 hcur3 hg3 hs3
    have hrow : cur3.toList = bl l := by rw [hcur3, List.drop_of_length_le (by simp [bl])]; simp
    simp [go_sem, IntWalk.iteOmega, IntWalk.toNatUp]
    refine ⟨⟨⟨some ⟨w.heap.size, 0, none⟩, l.length, rfl, ⟨by simp [bl], fun _ => ⟨_, 0, rfl, hN3.lt, fun j v hj => ?_⟩⟩, fun h => by simp at h, by omega, by omega⟩, fun a b c d h _ _ _ => by omega⟩, kA.grown hg3 kA.size (fun k hk => by injection hk with hk; omega)⟩
    rw [hN3.cell, Nat.zero_add, ← Array.getElem?_toList, hrow]; exact hj
end Go.Proofs.YtmcbcoafodmbjaaGreatDoor

/-
  pack.Packer: numbers, bytes put.
-/
namespace Go.Proofs.YtmcbcoafodmbjaaGreatDoor
open Go.RowKit
set_option linter.unusedVariables false
set_option linter.unusedSimpArgs false
set_option maxRecDepth 10000
theorem PackAt.keep {w w' : World} {B p n : Nat} {v : Value} {l : List UInt8} {e : Int} (h : PackAt w B p v l e n) (hb : Below w.heap.size w w') : PackAt w' B p v l e n := ⟨h.le, h.blk.keep hb, own_keep h.own hb⟩
theorem numB_rd {w : World} {g n v c : Nat} (hB : Blk w g 5 (bl (numB n v)).toArray) (hc : n ≤ c) (hc2 : c ≤ 9223372036854775807) : RdB w (.slice (some ⟨g, 0, none⟩) n c) (numB n v) :=
  ⟨_, c, by rw [numB_len], ⟨by simp [bl], fun _ => ⟨_, 0, rfl, hB.lt, fun j u hj => by rw [hB.cell, Nat.zero_add, List.getElem?_toArray]; exact hj⟩⟩, fun h => by simp at h, by rw [numB_len]; exact hc, hc2⟩
theorem pshort_any {w : World} {B p n : Nat} {v : Value} {l : List UInt8} (h : PackAt w B p v l 0 n) (x : Nat) (hx : x < 65536) (hB : B ≤ w.heap.size) (hfit : l.length + 2 ≤ n) (hn : n ≤ 8192) :
    callE Tryz.prog 275 #[.pointer (some ⟨p, 0, none⟩), .int .u16 x] w fun r w' => (∃ v', PackAt w' B p v' (l ++ numB 2 x) 0 n) ∧ Below B w w' := by
  have f1 : IntKind.u64.wrap (x : Int) = x := by rw [wrap_u64_if, if_pos (by omega)]
  refine calls_E Tryz.func275 rfl rfl rfl (Nat.le_of_ble_eq_true rfl) ?_
  simp [go_sem, IntWalk.iteOmega, IntWalk.toNatUp, f1]
  refine callE_of (number_any 2 x (by omega) (by omega) w) ?_
  rintro _ w1 ⟨⟨c, rfl, hc, hc2⟩, hN, k1⟩
  simp [go_sem, IntWalk.iteOmega, IntWalk.toNatUp]
  refine callE_of (put_any (h.keep k1) (numB_rd hN hc hc2) (nilRd w1) (Nat.le_trans hB k1.size) (fun g o m c h => by cases h) (by rw [numB_len]; simp; omega) hn) ?_
  rintro _ w2 ⟨rfl, ⟨v', hp⟩, k2⟩
  simp [go_sem, IntWalk.iteOmega, IntWalk.toNatUp]
  exact ⟨⟨v', by simpa using hp⟩, (k1.mono hB).trans k2⟩
theorem plong_any {w : World} {B p n : Nat} {v : Value} {l : List UInt8} (h : PackAt w B p v l 0 n) (x : Nat) (hx : x < 18446744073709551616) (hB : B ≤ w.heap.size) (hfit : l.length + 8 ≤ n) (hn : n ≤ 8192) :
    callE Tryz.prog 277 #[.pointer (some ⟨p, 0, none⟩), .int .u64 x] w fun r w' => (∃ v', PackAt w' B p v' (l ++ numB 8 x) 0 n) ∧ Below B w w' := by
  refine calls_E Tryz.func277 rfl rfl rfl (Nat.le_of_ble_eq_true rfl) ?_
  simp [go_sem, IntWalk.iteOmega, IntWalk.toNatUp]
  refine callE_of (number_any 8 x (by omega) hx w) ?_
  rintro _ w1 ⟨⟨c, rfl, hc, hc2⟩, hN, k1⟩
  simp [go_sem, IntWalk.iteOmega, IntWalk.toNatUp]
  refine callE_of (put_any (h.keep k1) (numB_rd hN hc hc2) (nilRd w1) (Nat.le_trans hB k1.size) (fun g o m c h => by cases h) (by rw [numB_len]; simp; omega) hn) ?_
  rintro _ w2 ⟨rfl, ⟨v', hp⟩, k2⟩
  simp [go_sem, IntWalk.iteOmega, IntWalk.toNatUp]
  exact ⟨⟨v', by simpa using hp⟩, (k1.mono hB).trans k2⟩
theorem pfixed_any {w : World} {B p n : Nat} {v : Value} {l : List UInt8} (h : PackAt w B p v l 0 n) {vb : Value} {lb : List UInt8} (hb : RdB w vb lb) (hB : B ≤ w.heap.size)
    (hne : ∀ g o m c, vb = .slice (some ⟨g, o, none⟩) m c → 0 < m → g < B) (hfit : l.length + lb.length ≤ n) (hn : n ≤ 8192) :
    callE Tryz.prog 276 #[.pointer (some ⟨p, 0, none⟩), vb] w fun r w' => (∃ v', PackAt w' B p v' (l ++ lb) 0 n) ∧ Below B w w' := by
  refine calls_E Tryz.func276 rfl rfl rfl (Nat.le_of_ble_eq_true rfl) ?_
  simp [go_sem, IntWalk.iteOmega, IntWalk.toNatUp]
  refine callE_of (put_any h (nilRd w) hb hB hne (by simp; omega) hn) ?_
  rintro _ w2 ⟨rfl, ⟨v', hp⟩, k2⟩
  simp [go_sem, IntWalk.iteOmega, IntWalk.toNatUp]
  exact ⟨⟨v', by simpa using hp⟩, k2⟩
theorem pbytes_any {w : World} {B p n : Nat} {v : Value} {l : List UInt8} (h : PackAt w B p v l 0 n) {vb : Value} {lb : List UInt8} (hb : RdB w vb lb) (hB : B ≤ w.heap.size)
    (hne : ∀ g o m c, vb = .slice (some ⟨g, o, none⟩) m c → 0 < m → g < B) (hfit : l.length + 4 + lb.length ≤ n) (hn : n ≤ 8192) :
    callE Tryz.prog 278 #[.pointer (some ⟨p, 0, none⟩), vb] w fun r w' => (∃ v', PackAt w' B p v' (l ++ numB 4 lb.length ++ lb) 0 n) ∧ Below B w w' := by
  have f1 : IntKind.u64.wrap (lb.length : Int) = lb.length := by rw [wrap_u64_if, if_pos (by omega)]
  obtain ⟨A, c, rfl, q1, q2, q3, q4⟩ := id hb
  refine calls_E Tryz.func278 rfl rfl rfl (Nat.le_of_ble_eq_true rfl) ?_
  simp [go_sem, IntWalk.iteOmega, IntWalk.toNatUp, f1]
  refine callE_of (number_any 4 lb.length (by omega) (by omega) w) ?_
  rintro _ w1 ⟨⟨c1, rfl, hc, hc2⟩, hN, k1⟩
  simp [go_sem, IntWalk.iteOmega, IntWalk.toNatUp]
  refine callE_of (put_any (h.keep k1) (numB_rd hN hc hc2) (hb.keep k1) (Nat.le_trans hB k1.size) hne (by rw [numB_len]; omega) hn) ?_
  rintro _ w2 ⟨rfl, ⟨v', hp⟩, k2⟩
  simp [go_sem, IntWalk.iteOmega, IntWalk.toNatUp]
  exact ⟨⟨v', by simpa using hp⟩, (k1.mono hB).trans k2⟩
end Go.Proofs.YtmcbcoafodmbjaaGreatDoor

/-
  block.Check.
-/
namespace Go.Proofs.YtmcbcoafodmbjaaGreatDoor
open Go.RowKit
set_option linter.unusedVariables false
set_option linter.unusedSimpArgs false
set_option maxRecDepth 10000
structure Bk where
  parent : List UInt8
  height : Int
  data : List UInt8
def bkv (b : Bk) (dv : Value) : List Value := bl b.parent ++ [.int .i64 b.height, dv]
structure BkOk (b : Bk) : Prop where
  len : b.parent.length = 32
  lo : -9223372036854775808 ≤ b.height
  hi : b.height ≤ 9223372036854775807
def zeroId : List UInt8 := List.replicate 32 0
def checkB (b : Bk) : Int := if b.height < 0 ∨ 200 < b.data.length ∨ (b.height = 0 ∧ b.parent ≠ zeroId) then 30 else 0
theorem bkv_len {b : Bk} {dv : Value} (h : b.parent.length = 32) : (bkv b dv).length = 34 := by simp [bkv, bl, h]
theorem bkv_32 {b : Bk} {dv : Value} (h : b.parent.length = 32) : (bkv b dv)[32]? = some (.int .i64 b.height) := by
  unfold bkv
  rw [List.getElem?_append_right (by simp [bl, h])]
  simp [bl, h]
theorem bkv_33 {b : Bk} {dv : Value} (h : b.parent.length = 32) : (bkv b dv)[33]? = some dv := by
  unfold bkv
  rw [List.getElem?_append_right (by simp [bl, h])]
  simp [bl, h]
theorem bkv_id {b : Bk} {dv : Value} (h : b.parent.length = 32) {j : Nat} {v : Value} (hj : (bl b.parent)[j]? = some v) : (bkv b dv)[j]? = some v := by
  unfold bkv
  have := (List.getElem?_eq_some_iff.1 hj).1
  rw [List.getElem?_append_left this]; exact hj
structure BkAt (w : World) (g : Nat) (b : Bk) (dv : Value) : Prop where
  blk : Blk w g 39 (bkv b dv).toArray
  ok : BkOk b
  rd : RdB w dv b.data
theorem BkAt.height {w : World} {g : Nat} {b : Bk} {dv : Value} (h : BkAt w g b dv) : w.cell? ⟨g, 32, none⟩ = some (.int .i64 b.height) := by
  rw [h.blk.cell, List.getElem?_toArray]; exact bkv_32 h.ok.len
theorem BkAt.data {w : World} {g : Nat} {b : Bk} {dv : Value} (h : BkAt w g b dv) : w.cell? ⟨g, 33, none⟩ = some dv := by
  rw [h.blk.cell, List.getElem?_toArray]; exact bkv_33 h.ok.len
theorem BkAt.id {w : World} {g : Nat} {b : Bk} {dv : Value} (h : BkAt w g b dv) : readCells w ⟨g, 0, none⟩ 0 32 = some (bl b.parent) :=
  readCells_blk h.blk 32 0 0 (bl b.parent) (by simp [bl, h.ok.len]) (fun j v hj => by
    have := bkv_id (dv := dv) h.ok.len hj
    simpa using this)
theorem BkAt.all {w : World} {g : Nat} {b : Bk} {dv : Value} (h : BkAt w g b dv) : readCells w ⟨g, 0, none⟩ 0 34 = some (bkv b dv) := by
  have := readCells_all h.blk 34 (by simp [bkv_len h.ok.len])
  simpa using this
theorem BkAt.keep {w w' : World} {g : Nat} {b : Bk} {dv : Value} (h : BkAt w g b dv) (hb : Below w.heap.size w w') : BkAt w' g b dv := ⟨h.blk.keep hb, h.ok, h.rd.keep hb⟩
theorem id_eq (x y : List UInt8) (hx : x.length = 32) (hy : y.length = 32) (w : World) : (Op.equalIn 10000 36 (.agg (bl x).toArray) (.agg (bl y).toArray)).run Tryz.prog w = .ok (x == y) w :=
  run_equalIn_bytes w 9998 36 5 32 Tryz.underlying36 Tryz.underlying5 (fun w => by rw [run_sizeOf_shape (t := none) shape5]; rfl) x y hx hy
theorem run_neq_id (x y : List UInt8) (hx : x.length = 32) (hy : y.length = 32) (w : World) : (binOp .neq 36 (.agg (bl x).toArray) (.agg (bl y).toArray)).run Tryz.prog w = .ok (.bool (!(x == y))) w := by
  have h : (Op.equal 36 (.agg (bl x).toArray) (.agg (bl y).toArray)).run Tryz.prog w = .ok (x == y) w := id_eq x y hx hy w
  have hb : binOp .neq 36 (.agg (bl x).toArray) (.agg (bl y).toArray) = (do pure (.bool (!(← Op.equal 36 (.agg (bl x).toArray) (.agg (bl y).toArray))))) := rfl
  rw [hb]
  simp only [Sem.run_bind, h, Result.andThen_ok, Sem.run_pure]
theorem zero_eq (x : List UInt8) (hx : x.length = 32) (w : World) : (Op.equalIn 10000 36 (.agg (bl x).toArray) (.agg #[.int .u8 0, .int .u8 0, .int .u8 0, .int .u8 0, .int .u8 0, .int .u8 0, .int .u8 0, .int .u8 0, .int .u8 0, .int .u8 0, .int .u8 0, .int .u8 0, .int .u8 0, .int .u8 0, .int .u8 0, .int .u8 0, .int .u8 0, .int .u8 0, .int .u8 0, .int .u8 0, .int .u8 0, .int .u8 0, .int .u8 0, .int .u8 0, .int .u8 0, .int .u8 0, .int .u8 0, .int .u8 0, .int .u8 0, .int .u8 0, .int .u8 0, .int .u8 0])).run Tryz.prog w = .ok (x == zeroId) w :=
  id_eq x zeroId hx (by simp [zeroId]) w
set_option maxHeartbeats 3200000 in
theorem bcheck_any {w : World} {b : Bk} {dv : Value} (hok : BkOk b) (hd : RdB w dv b.data) :
    callE Tryz.prog 71 #[.agg (bkv b dv).toArray] w fun v w' => v = .int .i64 (checkB b) ∧ Below w.heap.size w w' := by
  have kA := ext_alloc w (.cells (bkv b dv).toArray 39)
  have hX : BkAt (w.alloc (.cells (bkv b dv).toArray 39)) w.heap.size b dv := ⟨Blk.self_ rfl, hok, hd.keep kA⟩
  refine calls_E Tryz.func71 rfl rfl rfl (Nat.le_of_ble_eq_true rfl) ?_
  simp [go_sem, IntWalk.iteOmega, IntWalk.toNatUp]
  have k32 := bkv_32 (dv := dv) hok.len
  have k33 := bkv_33 (dv := dv) hok.len
  obtain ⟨A, c, rfl, hr, hA, hc, hc2⟩ := id hd
  by_cases h1 : b.height < 0
  · have e : checkB b = 30 := by unfold checkB; rw [if_pos (.inl h1)]
    simp [go_sem, IntWalk.iteOmega, IntWalk.toNatUp, k32, h1, e]
    exact kA
  · by_cases h2 : 200 < b.data.length
    · have h2' : (200 : Int) < b.data.length := by omega
      have e : checkB b = 30 := by unfold checkB; rw [if_pos (.inr (.inl h2))]
      simp [go_sem, IntWalk.iteOmega, IntWalk.toNatUp, k32, k33, h1, h2', e]
      exact kA
    · have h2' : ¬ (200 : Int) < b.data.length := by omega
      by_cases h3 : b.height = 0
      · have hz := zero_eq b.parent hok.len
        by_cases h4 : b.parent = zeroId
        · have e : checkB b = 0 := by unfold checkB; rw [if_neg (by rintro (h | h | ⟨_, h⟩); exact h1 h; exact h2 h; exact h h4)]
          have h4' : (b.parent == zeroId) = true := by simpa using h4
          simp [go_sem, IntWalk.iteOmega, IntWalk.toNatUp, k32, k33, hX.id, h1, h2', h3, hz, h4', e]
          exact kA
        · have e : checkB b = 30 := by unfold checkB; rw [if_pos (.inr (.inr ⟨h3, h4⟩))]
          have h4' : (b.parent == zeroId) = false := by simpa using h4
          simp [go_sem, IntWalk.iteOmega, IntWalk.toNatUp, k32, k33, hX.id, h1, h2', h3, hz, h4', e]
          exact kA
      · have e : checkB b = 0 := by unfold checkB; rw [if_neg (by rintro (h | h | ⟨h, _⟩); exact h1 h; exact h2 h; exact h3 h)]
        have h3' : (b.height == 0) = false := by simpa using h3
        simp [go_sem, IntWalk.iteOmega, IntWalk.toNatUp, k32, k33, h1, h2', h3', e]
        exact kA
end Go.Proofs.YtmcbcoafodmbjaaGreatDoor

/-
  What no bytes tell: no block.
-/
namespace Go.Proofs.YtmcbcoafodmbjaaGreatDoor
open Go.RowKit
set_option linter.unusedVariables false
set_option linter.unusedSimpArgs false
set_option maxRecDepth 10000
def zBk : List Value := [.int .u8 0, .int .u8 0, .int .u8 0, .int .u8 0, .int .u8 0, .int .u8 0, .int .u8 0, .int .u8 0, .int .u8 0, .int .u8 0, .int .u8 0, .int .u8 0, .int .u8 0, .int .u8 0, .int .u8 0, .int .u8 0, .int .u8 0, .int .u8 0, .int .u8 0, .int .u8 0, .int .u8 0, .int .u8 0, .int .u8 0, .int .u8 0, .int .u8 0, .int .u8 0, .int .u8 0, .int .u8 0, .int .u8 0, .int .u8 0, .int .u8 0, .int .u8 0, .int .i64 0, .slice none 0 0]
theorem zBk_store (w : World) (t : TypeId) (l : List Value) (hl : l.length = 34) : storeSeg (w.alloc (.cells zBk.toArray t)) ⟨w.heap.size, 0, none⟩ 0 l = w.alloc (.cells l.toArray t) := by
  have h : Blk (w.alloc (.cells zBk.toArray t)) w.heap.size t zBk.toArray := Blk.self_ rfl
  rw [storeSeg_all h l (by rw [hl]; rfl), setRow_new]
theorem zBk_can (w : World) (t : TypeId) : canWrite (w.alloc (.cells zBk.toArray t)) ⟨w.heap.size, 0, none⟩ 0 34 = true := canWrite_all (Blk.self_ (w := w) (t := t) (cs := zBk.toArray) rfl) 34 rfl
theorem zBk_read (w : World) (t : TypeId) : readCells (w.alloc (.cells zBk.toArray t)) ⟨w.heap.size, 0, none⟩ 0 34 = some zBk := readCells_all (Blk.self_ (w := w) (t := t) (cs := zBk.toArray) rfl) 34 rfl
theorem take0_any (A : Option Addr) (c : Nat) (w : World) : callE Tryz.prog 200 #[.slice A 0 c, .int .i64 0] w fun v w' => v = .tuple #[.agg zBk.toArray, .int .i64 0, .int .i64 11] ∧ Below w.heap.size w w' := by
  have h1 := zBk_can w 39
  have h2 := zBk_store w 39 zBk rfl
  have h3 := zBk_read w 39
  have hk := ext_alloc w (.cells zBk.toArray 39)
  simp only [zBk] at h1 h2 h3 hk ⊢
  refine calls_E Tryz.func200 rfl rfl rfl (Nat.le_of_ble_eq_true rfl) ?_
  cases A with
  | none =>
    simp [go_sem, IntWalk.iteOmega, IntWalk.toNatUp, h1, h2, h3]
    exact hk
  | some a =>
    simp [go_sem, IntWalk.iteOmega, IntWalk.toNatUp, h1, h2, h3]
    exact hk
theorem rtake0_any (A : Option Addr) (c : Nat) (w : World) : callE Tryz.prog 140 #[.slice A 0 c, .int .i64 0] w fun v w' => v = .tuple #[.agg zBk.toArray, .int .i64 0, .int .i64 11] ∧ Below w.heap.size w w' := by
  have h1 := zBk_can w 39
  have h2 := zBk_store w 39 zBk rfl
  have h3 := zBk_read w 39
  have hk := ext_alloc w (.cells zBk.toArray 39)
  simp only [zBk] at h1 h2 h3 hk ⊢
  refine calls_E Tryz.func140 rfl rfl rfl (Nat.le_of_ble_eq_true rfl) ?_
  cases A with
  | none =>
    simp [go_sem, IntWalk.iteOmega, IntWalk.toNatUp, h1, h2, h3]
    exact hk
  | some a =>
    simp [go_sem, IntWalk.iteOmega, IntWalk.toNatUp, h1, h2, h3]
    exact hk
theorem scan0_any (A : Option Addr) (c : Nat) (w : World) : callE Tryz.prog 134 #[.slice A 0 c] w fun v w' => v = .tuple #[.slice none 0 0, .slice none 0 0] ∧ Below w.heap.size w w' := by
  refine calls_E Tryz.func134 rfl rfl rfl (Nat.le_of_ble_eq_true rfl) ?_
  simp [go_sem, IntWalk.iteOmega, IntWalk.toNatUp]
  refine callE_of (take0_any A c w) ?_
  rintro _ w1 ⟨rfl, k1⟩
  have h1 := zBk_can w1 39
  have h2 := zBk_store w1 39 zBk rfl
  have hk := ext_trans k1 (ext_alloc w1 (.cells zBk.toArray 39))
  simp only [zBk] at h1 h2 hk ⊢
  simp [go_sem, IntWalk.iteOmega, IntWalk.toNatUp, h1, h2]
  exact hk
theorem scan_any (A : Option Addr) (c : Nat) (w : World) : callE Tryz.prog 73 #[.slice A 0 c] w fun v w' => v = .tuple #[.slice none 0 0, .int .i64 0] ∧ Below w.heap.size w w' := by
  refine calls_E Tryz.func73 rfl rfl rfl (Nat.le_of_ble_eq_true rfl) ?_
  simp [go_sem, IntWalk.iteOmega, IntWalk.toNatUp]
  refine callE_of (scan0_any A c w) ?_
  rintro _ w1 ⟨rfl, k1⟩
  simp [go_sem, IntWalk.iteOmega, IntWalk.toNatUp]
  exact k1
theorem rscan_any (A : Option Addr) (c : Nat) (w : World) : callE Tryz.prog 88 #[.slice A 0 c] w fun v w' => v = .tuple #[.slice none 0 0, .int .i64 0] ∧ Below w.heap.size w w' := by
  refine calls_E Tryz.func88 rfl rfl rfl (Nat.le_of_ble_eq_true rfl) ?_
  simp [go_sem, IntWalk.iteOmega, IntWalk.toNatUp]
  refine W_loop (fun s wr => wr = w ∧ s 0 = .slice A 0 c ∧ s 4 = .slice none 0 0 ∧ s 5 = .int .i64 0) (fun _ _ => 0) ?_ ?_
  · exact ⟨rfl, by simp [go_sem], by simp [go_sem], by simp [go_sem]⟩
  rintro s wr ⟨rfl, e0, e4, e5⟩
  simp [go_sem, IntWalk.iteOmega, IntWalk.toNatUp, e0, e4, e5]
  refine callE_of (rtake0_any A c wr) ?_
  rintro _ w1 ⟨rfl, k1⟩
  have h1 := zBk_can w1 39
  have h2 := zBk_store w1 39 zBk rfl
  have hk := ext_trans k1 (ext_alloc w1 (.cells zBk.toArray 39))
  simp only [zBk] at h1 h2 hk ⊢
  simp [go_sem, IntWalk.iteOmega, IntWalk.toNatUp, e0, e4, e5, h1, h2]
  exact hk
end Go.Proofs.YtmcbcoafodmbjaaGreatDoor

/-
  block.Clone, block.made.
-/
namespace Go.Proofs.YtmcbcoafodmbjaaGreatDoor
open Go.RowKit
set_option linter.unusedVariables false
set_option linter.unusedSimpArgs false
set_option maxRecDepth 10000
theorem bkv_set {b : Bk} {dv dv' : Value} (h : b.parent.length = 32) : (bkv b dv).toArray.setIfInBounds 33 dv' = (bkv b dv').toArray := by
  unfold bkv
  apply Array.toList_inj.1
  simp only [Array.toList_setIfInBounds]
  rw [List.set_append_right _ _ (by simp [bl, h])]
  simp [bl, h]
theorem own_high {w w' : World} {base e size n : Nat} {v : Value} {xs : List Value} (h : w.ownsRow base e size v n xs) (hk : ∀ k, base ≤ k → w'.heap[k]? = w.heap[k]?) : w'.ownsRow base e size v n xs :=
  ⟨h.1, h.2.imp id fun ⟨g, cap, cur, h1, h2, h3, h4⟩ => ⟨g, cap, cur, h1, h2, (hk g h2).trans h3, h4⟩⟩
theorem bkv_one (b : Bk) (A : Option Addr) (n c : Nat) : allOne (bkv b (.slice A n c)) = true := allOne_of (by
  intro v hv
  simp only [bkv, bl, List.mem_append, List.mem_map, List.mem_cons, List.not_mem_nil, or_false] at hv
  rcases hv with ⟨x, _, rfl⟩ | rfl | rfl <;> rfl)
def zeroB : List Value := [.int .u8 0, .int .u8 0, .int .u8 0, .int .u8 0, .int .u8 0, .int .u8 0, .int .u8 0, .int .u8 0, .int .u8 0, .int .u8 0, .int .u8 0, .int .u8 0, .int .u8 0, .int .u8 0, .int .u8 0, .int .u8 0, .int .u8 0, .int .u8 0, .int .u8 0, .int .u8 0, .int .u8 0, .int .u8 0, .int .u8 0, .int .u8 0, .int .u8 0, .int .u8 0, .int .u8 0, .int .u8 0, .int .u8 0, .int .u8 0, .int .u8 0, .int .u8 0, .int .i64 0, .slice none 0 0]
set_option maxHeartbeats 3200000 in
theorem bclone_any {w : World} {b : Bk} {dv : Value} (hok : BkOk b) (hd : RdB w dv b.data) (hm : b.data.length ≤ 100000) :
    callE Tryz.prog 133 #[.agg (bkv b dv).toArray] w fun v w' => (∃ dv', v = .agg (bkv b dv').toArray ∧ w'.ownsRow w.heap.size 5 1 dv' b.data.length (bl b.data)) ∧ Below w.heap.size w w' := by
  have kA := ext_alloc w (.cells (bkv b dv).toArray 39)
  have k33 := bkv_33 (dv := dv) hok.len
  refine calls_E Tryz.func133 rfl rfl rfl (Nat.le_of_ble_eq_true rfl) ?_
  simp [go_sem, IntWalk.iteOmega, IntWalk.toNatUp, k33]
  have kB := kA.alloc kA.size (.cells zeroB.toArray 39)
  have hX : Blk ((w.alloc (.cells (bkv b dv).toArray 39)).alloc (.cells zeroB.toArray 39)) w.heap.size 39 (bkv b dv).toArray := (Blk.self_ rfl).more _
  have hZ : Blk ((w.alloc (.cells (bkv b dv).toArray 39)).alloc (.cells zeroB.toArray 39)) (w.heap.size + 1) 39 zeroB.toArray := Blk.self_ (by simp)
  have hs2 : ((w.alloc (.cells (bkv b dv).toArray 39)).alloc (.cells zeroB.toArray 39)).heap.size = w.heap.size + 2 := by simp
  change callE _ _ _ ((w.alloc (.cells (bkv b dv).toArray 39)).alloc (.cells zeroB.toArray 39)) _
  generalize (w.alloc (.cells (bkv b dv).toArray 39)).alloc (.cells zeroB.toArray 39) = w2 at *
  obtain ⟨A, c, rfl, hr, hA, hc, hc2⟩ := hd.keep kB
  refine callE_of (clone_any A b.data.length c b.data w2 hr hA (by omega)) ?_
  intro v w3 ⟨ho, hb⟩
  have hX3 := hX.keep hb
  have hZ3 := hZ.keep hb
  generalize (Value.slice A b.data.length c) = dv at *
  obtain ⟨-, A', c', rfl⟩ := own_sl ho
  have l34 : ∀ dv : Value, (bkv b dv).length = 34 := fun dv => bkv_len hok.len
  have hX4 : Blk (w3.setCell ⟨w.heap.size, 33, none⟩ (.slice A' b.data.length c')) w.heap.size 39 (bkv b (.slice A' b.data.length c')).toArray := by rw [← bkv_set hok.len (dv := dv)]; exact Blk_set hX3
  have hZ4 : Blk (w3.setCell ⟨w.heap.size, 33, none⟩ (.slice A' b.data.length c')) (w.heap.size + 1) 39 zeroB.toArray := hZ3.farCell (by omega) _
  have e1 : (bkv b dv).toArray[33]? = some dv := by rw [List.getElem?_toArray]; exact k33
  have x1 := readCells_all hX4 34 (by simp [l34])
  have x2 := canWrite_all hZ4 34 rfl
  have x3 := storeSeg_all hZ4 (bkv b (.slice A' b.data.length c')) (by rw [l34]; rfl)
  have x4 : readCells ((w3.setCell ⟨w.heap.size, 33, none⟩ (.slice A' b.data.length c')).setRow (w.heap.size + 1) (bkv b (.slice A' b.data.length c')).toArray) ⟨w.heap.size + 1, 0, none⟩ 0 34 = some (bkv b (.slice A' b.data.length c')) := readCells_all (Blk_setRow hZ4) 34 (by simp [l34])
  have hfin : ((w3.setCell ⟨w.heap.size, 33, none⟩ (.slice A' b.data.length c')).setRow (w.heap.size + 1) (bkv b (.slice A' b.data.length c')).toArray).ownsRow w.heap.size 5 1 (.slice A' b.data.length c') b.data.length (bl b.data) :=
    own_mono (own_high ho fun k hk => by rw [setRow_other _ _ _ _ (by omega), hp_set, if_neg (by show k ≠ w.heap.size; omega)]) (by omega)
  simp [go_sem, IntWalk.iteOmega, IntWalk.toNatUp, hX3.cell, hX3.frozen, k33, x1, x2, x3, x4, l34, bkv_one]
  exact ⟨⟨_, rfl, hfin⟩, below_setRow ((kB.trans (hb.mono (by omega))).setCell (p := ⟨w.heap.size, 33, none⟩) (Nat.le_refl _) _) (by omega) _⟩
end Go.Proofs.YtmcbcoafodmbjaaGreatDoor

/-
  block.made.
-/
namespace Go.Proofs.YtmcbcoafodmbjaaGreatDoor
open Go.RowKit
set_option linter.unusedVariables false
set_option linter.unusedSimpArgs false
set_option maxRecDepth 10000
def OwnD (w : World) (base : Nat) (b : Bk) (dv : Value) : Prop := w.ownsRow base 5 1 dv b.data.length (bl b.data)
theorem checkB_or (b : Bk) : checkB b = 0 ∨ checkB b = 30 := by unfold checkB; split <;> simp
theorem OwnD.rd {w : World} {base : Nat} {b : Bk} {dv : Value} (h : OwnD w base b dv) : RdB w dv b.data := own_rdB h
theorem OwnD.keep {w w' : World} {base : Nat} {b : Bk} {dv : Value} (h : OwnD w base b dv) (hb : Below w.heap.size w w') : OwnD w' base b dv := own_keep h hb
theorem checkB_data {b : Bk} (h : checkB b = 0) : b.data.length ≤ 200 := by
  unfold checkB at h
  split at h
  · simp at h
  · rename_i hn; omega
end Go.Proofs.YtmcbcoafodmbjaaGreatDoor

/-
  block.Bytes.
-/
namespace Go.Proofs.YtmcbcoafodmbjaaGreatDoor
open Go.RowKit
set_option linter.unusedVariables false
set_option linter.unusedSimpArgs false
set_option maxRecDepth 10000
def bytesB (b : Bk) : List UInt8 := numB 2 0 ++ b.parent ++ numB 8 b.height.toNat ++ numB 4 b.data.length ++ b.data
theorem checkB_height {b : Bk} (h : checkB b = 0) : 0 ≤ b.height := by
  unfold checkB at h
  split at h
  · simp at h
  · rename_i hn; omega
theorem bytesB_len {b : Bk} (hok : BkOk b) (h : checkB b = 0) : (bytesB b).length ≤ 246 := by
  have := checkB_data h
  simp [bytesB, numB_len, hok.len]; omega
set_option maxHeartbeats 3200000 in
theorem bbytes_any {w : World} {b : Bk} {dv : Value} (hok : BkOk b) (hd : RdB w dv b.data) :
    callE Tryz.prog 197 #[.agg (bkv b dv).toArray] w fun r w' => ((checkB b = 30 ∧ r = .tuple #[.slice none 0 0, .int .i64 30]) ∨
      (checkB b = 0 ∧ ∃ u, r = .tuple #[u, .int .i64 0] ∧ RdB w' u (bytesB b))) ∧ Below w.heap.size w w' := by
  have kA := ext_alloc w (.cells (bkv b dv).toArray 39)
  have l34 : ∀ dv : Value, (bkv b dv).length = 34 := fun dv => bkv_len hok.len
  refine calls_E Tryz.func197 rfl rfl rfl (Nat.le_of_ble_eq_true rfl) ?_
  have hX : Blk (w.alloc (.cells (bkv b dv).toArray 39)) w.heap.size 39 (bkv b dv).toArray := Blk.self_ rfl
  have x0 := readCells_all hX 34 (by simp [l34])
  simp [go_sem, IntWalk.iteOmega, IntWalk.toNatUp, x0]
  generalize (w.alloc (.cells (bkv b dv).toArray 39)) = w2 at *
  refine callE_of (bcheck_any hok (hd.keep kA)) ?_
  rintro v w3 ⟨rfl, hb⟩
  have hX3 := hX.keep hb
  have k3 := kA.trans (hb.mono kA.size)
  rcases checkB_or b with e0 | e0
  · simp [go_sem, IntWalk.iteOmega, IntWalk.toNatUp, e0]
    refine callE_of (packnew_any 246 (by omega) w3) ?_
    rintro v w4 ⟨p, rfl, hp, hb4⟩
    have hX4 := hX3.keep hb4
    have k4 := k3.trans (hb4.mono k3.size)
    have hB4 : w3.heap.size ≤ w4.heap.size := hb4.size
    have w1 : w.heap.size + 1 ≤ w3.heap.size := hX3.lt
    have hdl := checkB_data e0
    have hh0 := checkB_height e0
    have f1 : IntKind.u64.wrap b.height = b.height := by rw [wrap_u64_if, if_pos (by have := hok.hi; omega)]
    simp [go_sem, IntWalk.iteOmega, IntWalk.toNatUp]
    refine callE_of (pshort_any hp 0 (by omega) hB4 (by simp) (by omega)) ?_
    rintro - w5 ⟨⟨v5, hp5⟩, hb5⟩
    have hX5 := hX4.below hb5 w1
    have hB5 : w3.heap.size ≤ w5.heap.size := Nat.le_trans hB4 hb5.size
    have k5 := k4.trans (hb5.mono (by omega))
    simp [go_sem, IntWalk.iteOmega, IntWalk.toNatUp]
    have hid : RdB w5 (.slice (some ⟨w.heap.size, 0, none⟩) 32 32) b.parent := ⟨some ⟨w.heap.size, 0, none⟩, 32, by rw [hok.len], ⟨by simp [bl], fun _ => ⟨_, 0, rfl, hX5.lt, fun j u hj => by rw [hX5.cell, Nat.zero_add, List.getElem?_toArray]; exact bkv_id hok.len hj⟩⟩, fun h => by simp at h, by rw [hok.len]; omega, by omega⟩
    refine callE_of (pfixed_any hp5 hid hB5 (by rintro g o m c h -; simp at h; omega) (by simp [numB_len, hok.len]) (by omega)) ?_
    rintro - w6 ⟨⟨v6, hp6⟩, hb6⟩
    have hX6 := hX5.below hb6 w1
    have hB6 : w3.heap.size ≤ w6.heap.size := Nat.le_trans hB5 hb6.size
    have k6 := k5.trans (hb6.mono (by omega))
    have c32 : w6.cell? ⟨w.heap.size, 32, none⟩ = some (.int .i64 b.height) := by rw [hX6.cell, List.getElem?_toArray]; exact bkv_32 hok.len
    have hx : (Value.int IntKind.u64 b.height) = .int .u64 (b.height.toNat : Int) := by congr 1; omega
    simp [go_sem, IntWalk.iteOmega, IntWalk.toNatUp, c32, f1]
    rw [hx]
    refine callE_of (plong_any hp6 b.height.toNat (by have := hok.hi; omega) hB6 (by simp [numB_len, hok.len]) (by omega)) ?_
    rintro - w7 ⟨⟨v7, hp7⟩, hb7⟩
    have hX7 := hX6.below hb7 w1
    have hB7 : w3.heap.size ≤ w7.heap.size := Nat.le_trans hB6 hb7.size
    have k7 := k6.trans (hb7.mono (by omega))
    have c33 : w7.cell? ⟨w.heap.size, 33, none⟩ = some dv := by rw [hX7.cell, List.getElem?_toArray]; exact bkv_33 hok.len
    simp [go_sem, IntWalk.iteOmega, IntWalk.toNatUp, c33]
    refine callE_of (pbytes_any hp7 (hd.keep k7) hB7 (fun g o m c h hm => ?_) (by simp [numB_len, hok.len]; omega) (by omega)) ?_
    · obtain ⟨A, c', e1, hr, -⟩ := id hd
      rw [e1] at h
      simp at h
      obtain ⟨b', o', e2, hlt, -⟩ := hr.cells (by omega)
      rw [h.1] at e2
      simp at e2
      omega
    · rintro - w8 ⟨⟨v8, hp8⟩, hb8⟩
      have k8 := k7.trans (hb8.mono (by omega))
      simp [go_sem, IntWalk.iteOmega, IntWalk.toNatUp]
      refine callE_of (out_any hp8 (by simp [numB_len, hok.len]; omega)) ?_
      rintro - w9 ⟨⟨u, rfl, hu, -⟩, hb9⟩
      simp [go_sem, IntWalk.iteOmega, IntWalk.toNatUp]
      exact ⟨⟨e0, by simpa [bytesB] using hu⟩, k8.trans (hb9.mono k8.size)⟩
  · simp [go_sem, IntWalk.iteOmega, IntWalk.toNatUp, e0]
    exact k3
end Go.Proofs.YtmcbcoafodmbjaaGreatDoor
