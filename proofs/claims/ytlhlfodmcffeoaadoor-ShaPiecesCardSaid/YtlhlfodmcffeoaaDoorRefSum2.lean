/-
  The document's sum of bytes is the plain SHA-256.
-/
import Derived.Test.YtlhlfodmcffeoaaDoorRefSum
namespace Go.Proofs.YtlhlfodmcffeoaaDoor
open Go.RowKit
set_option linter.unusedVariables false
set_option linter.unusedSimpArgs false
set_option maxRecDepth 10000
theorem part32_at (T : List UInt8) (i : Nat) (h : T.length = 32) (hi : i < 32) : (part32 T i)[i]? = some (.int .u8 0) := by
  have hl : (bl (T.take i)).length = i := by rw [bl_length, List.length_take]; omega
  unfold part32
  rw [List.getElem?_toArray, List.getElem?_append_right (by omega), hl, Nat.sub_self, List.getElem?_replicate, if_pos (by omega)]
theorem U_part (x : UInt32) (k : Nat) : IntKind.u8.wrap (U x / 2 ^ k) = ((UInt8.ofNat (x.toNat / 2 ^ k)).toNat : Int) := by
  have h : U x / 2 ^ k = ((x.toNat / 2 ^ k : Nat) : Int) := by simp [U]
  rw [h, IntKind.wrap_u8, UInt8.toNat_ofNat']
  simp
set_option maxHeartbeats 1600000 in
theorem refSum_any (A : Option Addr) (c : Nat) (l : List UInt8) (w : World) (h : Rd w 1 A l.length (bl l)) (hA : A = none → l.length = 0) (hm : l.length ≤ 70368744170000) :
    callE Tryd.prog 16 #[.slice A l.length c] w fun v w' => v = .agg (bl (sha l)).toArray ∧ Below w.heap.size w w' := by
  refine calls_E Tryd.func16 rfl rfl rfl (Nat.le_of_ble_eq_true rfl) ?_
  simp [go_sem, IntWalk.iteOmega, IntWalk.toNatUp, idz_fold]
  refine callE_at fun W hW => ?_
  obtain ⟨b2, hB, hS⟩ := news1 hW
  clear hW
  refine callE_of (padded_any A c l W (h.keep hB) hA hm) ?_
  rintro v w1 ⟨hown, hB1⟩
  have hPl := pad_length l
  have hmod : (pad l).length % 64 = 0 := by rw [hPl]; unfold noughts; omega
  have hmax : (pad l).length ≤ 70368744178664 := by rw [hPl]; unfold noughts; omega
  have hsha : sha l = (mixes firstWords (pad l) ((pad l).length / 64)).bytes := rfl
  generalize pad l = P at *
  obtain ⟨A2, c2, rfl, hr21, hr22, hr23, hr24⟩ := own_rdB hown
  clear hown hPl
  replace b2 := b2.keep hB1
  replace hB := ext_trans hB hB1
  clear hB1 hS
  simp [go_sem, IntWalk.iteOmega, IntWalk.toNatUp]
  refine W_at fun W2 hW2 => ?_
  obtain ⟨b4, hB2, hS2⟩ := news1 hW2
  clear hW2
  have l2 := b2.lt
  replace b2 := b2.keep hB2
  have hRo := rd_off hr21 (Nat.le_refl _) hB2
  replace hB := ext_trans hB hB2
  obtain ⟨g4, hg4⟩ : ∃ g, g = w1.heap.size := ⟨_, rfl⟩
  have hsz := hB2.size
  rw [← hg4] at b4 l2 hRo hsz ⊢
  replace b4 : Blk W2 g4 42 (mixes firstWords P 0).vals := b4
  clear hr21 hB2 hS2 hg4
  refine W_loop (fun s wr => ∃ q : Nat, 64 * q ≤ P.length ∧ s 2 = .pointer (some ⟨w.heap.size, 0, none⟩) ∧ s 3 = .slice A2 P.length c2 ∧ s 4 = .pointer (some ⟨g4, 0, none⟩) ∧ s 5 = .int .i64 ((64 * q : Nat) : Int) ∧
    Off g4 wr (fun w' => Rd w' 1 A2 P.length (bl P)) ∧ Blk wr g4 42 (mixes firstWords P q).vals ∧ Blk wr w.heap.size 23 idZero ∧ Below w.heap.size w wr) (fun s _ => P.length - (intOf (s 5)).toNat) ?_ ?_
  · exact ⟨0, by omega, by simp [go_sem], by simp [go_sem], by simp [go_sem], by simp [go_sem], hRo, b4, b2, hB⟩
  · clear hRo b4 b2 hB hsz
    rintro s wr ⟨q, hq, e2, e3, e4, e5, hRo, b4, b2, hB⟩
    by_cases hlt : 64 * q < P.length
    · have hge : 64 * q + 64 ≤ P.length := by omega
      obtain ⟨g, o', rfl, hglt, hgc⟩ := hRo.now.cells (by omega)
      generalize hV : mixes firstWords P q = V at *
      have hVn : mixes firstWords P (q + 1) = mix V ((P.drop (64 * q)).take 64) := by rw [← hV]; rfl
      obtain ⟨v0, v1, v2, v3, v4, v5, v6, v7⟩ := V
      simp only [St8.vals] at b4
      have x4 : readCells wr.drew ⟨g4, 0, none⟩ 0 8 = some _ := readCells_all b4 8 rfl
      have hsum : ((64 * q : Nat) : Int) + 64 = ((64 * q + 64 : Nat) : Int) := by omega
      obtain ⟨p, hp⟩ : ∃ p, p = 64 * q := ⟨_, rfl⟩
      rw [← hp] at e5 hge hlt hsum
      simp [go_sem, IntWalk.iteOmega, IntWalk.toNatUp, e2, e3, e4, e5, hlt]
      refine W_plan [(1,true),(2,true),(3,true),(4,true),(5,true),(0,false),(6,false),(7,false)] follows (by kernel_rfl) ?_
      simp [go_sem, IntWalk.iteOmega, IntWalk.toNatUp, e2, e3, e4, e5, x4, hge]
      refine callE_of (goes_any ⟨v0, v1, v2, v3, v4, v5, v6, v7⟩ g (o' + p) 64 (c2 - p) ((P.drop (64 * q)).take 64) wr.drew (by omega) hglt (by omega) ?_) ?_
      · intro j hj
        rw [byteAt_take _ _ _ hj]
        have := hgc (64 * q + j) _ (bl_at P (64 * q + j) (by omega))
        rw [show o' + p + j = o' + (64 * q + j) by omega]
        rw [show byteAt (P.drop (64 * q)) j = byteAt P (64 * q + j) by simp [byteAt, List.getD, List.getElem?_drop]]
        exact this
      rintro v w4 ⟨rfl, hB4⟩
      generalize mix ⟨v0, v1, v2, v3, v4, v5, v6, v7⟩ ((P.drop (64 * q)).take 64) = U at *
      replace hB4 := ext_trans (ext_drew wr) hB4
      replace b4 := b4.keep hB4
      replace b2 := b2.keep hB4
      have x2 := canWrite_all b4 8 rfl
      obtain ⟨u0, u1, u2, u3, u4, u5, u6, u7⟩ := U
      simp only [St8.vals]
      simp [go_sem, IntWalk.iteOmega, IntWalk.toNatUp, e2, e3, e4, e5, x2]
      rw [storeSeg_all b4 [uv u0, uv u1, uv u2, uv u3, uv u4, uv u5, uv u6, uv u7] rfl]
      have hg4 := (else_below hB4 g4).trans (else_row w4 g4 [uv u0, uv u1, uv u2, uv u3, uv u4, uv u5, uv u6, uv u7].toArray)
      refine roundEnd.mk ⟨q + 1, by omega, by simp [go_sem, e2], by simp [go_sem, e3], by simp [go_sem, e4], ?_, hRo.keep hg4, ?_, b2.farRow (by omega) _, below_setRow (ext_trans hB hB4) (by omega) _⟩ ?_
      · simp [go_sem]; omega
      · rw [hVn]; exact (Blk_setRow b4).as_ (by simp [St8.vals])
      · simp [go_sem, intOf]; omega
    · have hq8 : q = P.length / 64 := by omega
      rw [← hq8] at hsha
      have hlt' : ¬ ((64 * q : Nat) : Int) < P.length := by omega
      have hTl := bytes_length (mixes firstWords P q)
      have hby := fun i hi => sumByte (mixes firstWords P q) i hi _ rfl
      rw [hsha]
      generalize (mixes firstWords P q).bytes = T at *
      generalize mixes firstWords P q = V at *
      simp [go_sem, IntWalk.iteOmega, IntWalk.toNatUp, e2, e3, e4, e5, hlt', idz_fold]
      refine W_at fun W3 hW3 => ?_
      obtain ⟨b6, hB3, hS3⟩ := news1 hW3
      clear hW3
      have l4 := b4.lt
      replace b2 := b2.keep hB3
      replace b4 := b4.keep hB3
      replace hB := ext_trans hB hB3
      obtain ⟨g6, hg6⟩ : ∃ g, g = wr.heap.size := ⟨_, rfl⟩
      rw [← hg6] at b6 l4 ⊢
      rw [← part32_zero T] at b6
      clear hRo hB3 hS3 hg6 hq8 hsha hlt' hlt hq e3 e5
      refine W_loop (fun s wr => ∃ i : Nat, i ≤ 32 ∧ s 2 = .pointer (some ⟨w.heap.size, 0, none⟩) ∧ s 4 = .pointer (some ⟨g4, 0, none⟩) ∧ s 6 = .pointer (some ⟨g6, 0, none⟩) ∧ s 7 = .int .i64 i ∧
        Blk wr g6 23 (part32 T i) ∧ Blk wr g4 42 V.vals ∧ Blk wr w.heap.size 23 idZero ∧ Below w.heap.size w wr) (fun s _ => 32 - (intOf (s 7)).toNat) ?_ ?_
      · exact ⟨0, by omega, by simp [go_sem, e2], by simp [go_sem, e4], by simp [go_sem], by simp [go_sem], b6, b4, b2, hB⟩
      · clear b6 b4 b2 hB e2 e4
        rintro s wr ⟨i, hi, e2, e4, e6, e7, b6, b4, b2, hB⟩
        by_cases hlt : i < 32
        · have hlt' : (i : Int) < 32 := by omega
          have x4 := (b4.cell (i / 4)).trans (vals_at V (i / 4) (by omega))
          have hb := hby i hlt
          have hst := part32_set T i _ hTl hb
          generalize V.list.getD (i / 4) 0 = x at *
          have f6 := b6.frozen i
          have x6 : wr.cell? ⟨g6, i, none⟩ = some (.int .u8 0) := (b6.cell i).trans (part32_at T i hTl hlt)
          have hq4 : (i : Int) / 4 = ((i / 4 : Nat) : Int) := by omega
          have hr4 : ((i : Int)).tmod 4 = ((i % 4 : Nat) : Int) := rfl
          have hi4 : i / 4 < 8 := by omega
          have hm4 : i % 4 < 4 := by omega
          have hpart := U_part x (24 - 8 * (i % 4))
          generalize i / 4 = p at *
          generalize i % 4 = m at *
          have hw24 : IntKind.u64.wrap (24 - 8 * (m : Int)) = 24 - 8 * (m : Int) := by rw [IntKind.wrap_u64]; omega
          simp [go_sem, IntWalk.iteOmega, IntWalk.toNatUp, e2, e4, e6, e7, hlt', hq4, hr4, hi4, x4, x6, f6, hw24, hpart]
          refine roundEnd.mk ⟨i + 1, by omega, by simp [go_sem, e2], by simp [go_sem, e4], by simp [go_sem, e6], by simp [go_sem], (Blk_set b6).as_ hst, b4.farCell (by omega) _, b2.farCell (by omega) _, hB.setCell (p := ⟨g6, i, none⟩) (show w.heap.size ≤ g6 by omega) _⟩ ?_
          simp [go_sem, intOf]; omega
        · obtain rfl : i = 32 := by omega
          rw [part32_end T hTl] at b6
          have x5 : (bl T).length = 32 := by rw [bl_length, hTl]
          have x1 : readCells wr ⟨g6, 0, none⟩ 0 32 = some (bl T) := readCells_all b6 32 (by simpa using x5)
          have x2 := canWrite_all b2 32 rfl
          have x3 := storeSeg_all b2 (bl T) (by rw [x5]; rfl)
          have x4 : readCells (wr.setRow w.heap.size (bl T).toArray) ⟨w.heap.size, 0, none⟩ 0 32 = some (bl T) := readCells_all (Blk_setRow b2) 32 (by simpa using x5)
          have x6 := bl_one T
          simp [go_sem, IntWalk.iteOmega, IntWalk.toNatUp, e2, e4, e6, e7, x1, x2, x3, x4, x5, x6]
          exact below_setRow hB (Nat.le_refl _) _
end Go.Proofs.YtlhlfodmcffeoaaDoor
