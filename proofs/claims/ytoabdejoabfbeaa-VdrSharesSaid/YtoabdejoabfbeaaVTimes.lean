/-
  The document's product of two numbers, in words of 31 bits.
-/
import Derived.Test.YtoabdejoabfbeaaVLive
import Derived.Test.YtoabdejoabfbeaaVTimesLaw
namespace Go.Proofs.Ytoabdejoabfbeaa
open Go.RowKit
set_option linter.unusedVariables false
set_option linter.unusedSimpArgs false
set_option maxRecDepth 10000
def iv (n : Nat) : Value := .int .i64 n
def below31 (l : List Nat) : Prop := ∀ x ∈ l, x < 2147483648
def SmallO (o0 o1 o2 o3 o4 o5 : Nat) : Prop := o0 < 2147483648 ∧ o1 < 2147483648 ∧ o2 < 2147483648 ∧ o3 < 2147483648 ∧ o4 < 2147483648 ∧ o5 < 2147483648
theorem mul31 {a b : Nat} (ha : a < 2147483648) (hb : b < 2147483648) : a * b ≤ 4611686014132420609 := by
  have := Nat.mul_le_mul (show a ≤ 2147483647 by omega) (show b ≤ 2147483647 by omega)
  omega
theorem times_step (o c x y : Nat) (ho : o < 2147483648) (hc : c < 2147483648) (hx : x < 2147483648) (hy : y < 2147483648) :
    IntKind.i64.wrap (IntKind.i64.wrap ((o : Int) + c) + IntKind.i64.wrap ((x : Int) * y)) = ((o + c + x * y : Nat) : Int) := by
  have h := mul31 hx hy
  rw [show (x : Int) * y = ((x * y : Nat) : Int) by simp]
  generalize x * y = p at *
  rw [IntKind.wrap_i64, IntKind.wrap_i64, IntKind.wrap_i64]
  omega
theorem rem31 (v : Nat) : ((v : Int)).tmod 2147483648 = ((v % 2147483648 : Nat) : Int) := by simp [Int.tmod]
set_option maxHeartbeats 3200000 in
theorem times_any (a b : Nat) (ha : a < 9223372036854775808) (hb : b < 9223372036854775808) (w : World) :
    callE Try.prog 38 #[.int .i64 a, .int .i64 b] w fun v w' => (∃ o0 o1 o2 o3 o4 o5, v = .agg #[iv o0, iv o1, iv o2, iv o3, iv o4, iv o5] ∧ SmallO o0 o1 o2 o3 o4 o5 ∧ v6 o0 o1 o2 o3 o4 o5 = a * b) ∧ Below w.heap.size w w' := by
  refine calls_E Try.func38 rfl rfl rfl (Nat.le_of_ble_eq_true rfl) ?_
  simp [go_sem, IntWalk.iteOmega, IntWalk.toNatUp]
  have hx0 := rem31 a
  have hy0 := rem31 b
  have hx1 : ((a : Int) / 2147483648).tmod 2147483648 = ((a / 2147483648 % 2147483648 : Nat) : Int) := by rw [show (a : Int) / 2147483648 = ((a / 2147483648 : Nat) : Int) by simp]; exact rem31 _
  have hy1 : ((b : Int) / 2147483648).tmod 2147483648 = ((b / 2147483648 % 2147483648 : Nat) : Int) := by rw [show (b : Int) / 2147483648 = ((b / 2147483648 : Nat) : Int) by simp]; exact rem31 _
  have hx2 : (a : Int) / 4611686018427387904 = ((a / 4611686018427387904 : Nat) : Int) := by simp
  have hy2 : (b : Int) / 4611686018427387904 = ((b / 4611686018427387904 : Nat) : Int) := by simp
  rw [hx0, hx1, hx2, hy0, hy1, hy2]
  have ea : a = a % 2147483648 + a / 2147483648 % 2147483648 * 2147483648 + a / 4611686018427387904 * 4611686018427387904 := by omega
  have eb : b = b % 2147483648 + b / 2147483648 % 2147483648 * 2147483648 + b / 4611686018427387904 * 4611686018427387904 := by omega
  have lx0 : a % 2147483648 < 2147483648 := by omega
  have lx1 : a / 2147483648 % 2147483648 < 2147483648 := by omega
  have lx2 : a / 4611686018427387904 < 2147483648 := by omega
  have ly0 : b % 2147483648 < 2147483648 := by omega
  have ly1 : b / 2147483648 % 2147483648 < 2147483648 := by omega
  have ly2 : b / 4611686018427387904 < 2147483648 := by omega
  clear hx0 hx1 hx2 hy0 hy1 hy2
  generalize a % 2147483648 = x0 at *
  generalize a / 2147483648 % 2147483648 = x1 at *
  generalize a / 4611686018427387904 = x2 at *
  generalize b % 2147483648 = y0 at *
  generalize b / 2147483648 % 2147483648 = y1 at *
  generalize b / 4611686018427387904 = y2 at *
  have hprod : a * b = sumT x0 x1 x2 y0 y1 y2 9 := by rw [ea, eb, sumT_end]
  rw [hprod]
  clear hprod ea eb ha hb
  refine W_at fun W hW => ?_
  obtain ⟨b0, b1, b2, b3, hB, hsz⟩ := news4 hW
  clear hW
  refine W_loop (fun st wr => ∃ i o0 o1 o2 o3 o4 o5 : Nat, i ≤ 3 ∧ st 4 = .pointer (some ⟨w.heap.size, 0, none⟩) ∧ st 5 = .pointer (some ⟨w.heap.size + 1, 0, none⟩) ∧ st 6 = .pointer (some ⟨w.heap.size + 1 + 1, 0, none⟩) ∧ st 7 = .pointer (some ⟨w.heap.size + 1 + 1 + 1, 0, none⟩) ∧ st 8 = .int .i64 i ∧
      Blk wr w.heap.size 60 #[iv 0, iv 0, iv 0, iv 0, iv 0, iv 0] ∧ Blk wr (w.heap.size + 1) 70 #[iv x0, iv x1, iv x2] ∧ Blk wr (w.heap.size + 1 + 1) 70 #[iv y0, iv y1, iv y2] ∧ Blk wr (w.heap.size + 1 + 1 + 1) 60 #[iv o0, iv o1, iv o2, iv o3, iv o4, iv o5] ∧
      SmallO o0 o1 o2 o3 o4 o5 ∧ (i ≤ 0 → o3 = 0) ∧ (i ≤ 1 → o4 = 0) ∧ (i ≤ 2 → o5 = 0) ∧ v6 o0 o1 o2 o3 o4 o5 = sumT x0 x1 x2 y0 y1 y2 (3 * i) ∧ Below w.heap.size w wr) (fun st _ => 3 - (intOf (st 8)).toNat) ?_ ?_
  · exact ⟨0, 0, 0, 0, 0, 0, 0, by omega, by simp [go_sem], by simp [go_sem], by simp [go_sem], by simp [go_sem], by simp [go_sem], b0, b1, b2, b3, ⟨by omega, by omega, by omega, by omega, by omega, by omega⟩, fun _ => rfl, fun _ => rfl, fun _ => rfl, rfl, hB⟩
  · clear b0 b1 b2 b3 hB hsz
    rintro st wr ⟨i, o0, o1, o2, o3, o4, o5, hi, e4, e5, e6, e7, e8, b0, b1, b2, b3, ho, z3, z4, z5, hv, hB⟩
    by_cases hlt : i < 3
    · have hlt' : (i : Int) < 3 := by omega
      simp [go_sem, IntWalk.iteOmega, IntWalk.toNatUp, e4, e5, e6, e7, e8, hlt']
      refine W_loop (fun st wr => ∃ k o0 o1 o2 o3 o4 o5 c : Nat, k ≤ 3 ∧ st 4 = .pointer (some ⟨w.heap.size, 0, none⟩) ∧ st 5 = .pointer (some ⟨w.heap.size + 1, 0, none⟩) ∧ st 6 = .pointer (some ⟨w.heap.size + 1 + 1, 0, none⟩) ∧ st 7 = .pointer (some ⟨w.heap.size + 1 + 1 + 1, 0, none⟩) ∧ st 8 = .int .i64 i ∧ st 9 = .int .i64 c ∧ st 10 = .int .i64 k ∧
        Blk wr w.heap.size 60 #[iv 0, iv 0, iv 0, iv 0, iv 0, iv 0] ∧ Blk wr (w.heap.size + 1) 70 #[iv x0, iv x1, iv x2] ∧ Blk wr (w.heap.size + 1 + 1) 70 #[iv y0, iv y1, iv y2] ∧ Blk wr (w.heap.size + 1 + 1 + 1) 60 #[iv o0, iv o1, iv o2, iv o3, iv o4, iv o5] ∧
        SmallO o0 o1 o2 o3 o4 o5 ∧ c < 2147483648 ∧ (i ≤ 0 → o3 = 0) ∧ (i ≤ 1 → o4 = 0) ∧ (i ≤ 2 → o5 = 0) ∧ v6 o0 o1 o2 o3 o4 o5 + c * w31 (i + k) = sumT x0 x1 x2 y0 y1 y2 (3 * i + k) ∧ Below w.heap.size w wr) (fun st _ => 3 - (intOf (st 10)).toNat) ?_ ?_
      · exact ⟨0, o0, o1, o2, o3, o4, o5, 0, by omega, by simp [go_sem, e4], by simp [go_sem, e5], by simp [go_sem, e6], by simp [go_sem, e7], by simp [go_sem, e8], by simp [go_sem], by simp [go_sem], b0, b1, b2, b3, ho, by omega, z3, z4, z5, by rw [Nat.zero_mul, Nat.add_zero, Nat.add_zero]; exact hv, hB⟩
      · clear b0 b1 b2 b3 hB ho z3 z4 z5 hv e4 e5 e6 e7 e8 o0 o1 o2 o3 o4 o5
        rintro st wr ⟨k, o0, o1, o2, o3, o4, o5, c, hk, e4, e5, e6, e7, e8, e9, e10, b0, b1, b2, b3, ho, hc, z3, z4, z5, hv, hB⟩
        have c1 := b1.cell
        have c2 := b2.cell
        have c3 := b3.cell
        have f3 := b3.frozen
        obtain ⟨l0, l1, l2, l3, l4, l5⟩ := ho
        by_cases hkt : k < 3
        · have hkt' : (k : Int) < 3 := by omega
          obtain ⟨X, hX, lX, X0, X1, X2⟩ : ∃ X : Nat, (#[iv x0, iv x1, iv x2] : Array Value)[i]? = some (iv X) ∧ X < 2147483648 ∧ (i = 0 → X = x0) ∧ (i = 1 → X = x1) ∧ (i = 2 → X = x2) := by
            rcases (by omega : i = 0 ∨ i = 1 ∨ i = 2) with rfl | rfl | rfl
            · exact ⟨x0, rfl, lx0, fun _ => rfl, fun h => (by omega), fun h => (by omega)⟩
            · exact ⟨x1, rfl, lx1, fun h => (by omega), fun _ => rfl, fun h => (by omega)⟩
            · exact ⟨x2, rfl, lx2, fun h => (by omega), fun h => (by omega), fun _ => rfl⟩
          obtain ⟨Y, hY, lY, Y0, Y1, Y2⟩ : ∃ Y : Nat, (#[iv y0, iv y1, iv y2] : Array Value)[k]? = some (iv Y) ∧ Y < 2147483648 ∧ (k = 0 → Y = y0) ∧ (k = 1 → Y = y1) ∧ (k = 2 → Y = y2) := by
            rcases (by omega : k = 0 ∨ k = 1 ∨ k = 2) with rfl | rfl | rfl
            · exact ⟨y0, rfl, ly0, fun _ => rfl, fun h => (by omega), fun h => (by omega)⟩
            · exact ⟨y1, rfl, ly1, fun h => (by omega), fun _ => rfl, fun h => (by omega)⟩
            · exact ⟨y2, rfl, ly2, fun h => (by omega), fun h => (by omega), fun _ => rfl⟩
          obtain ⟨o, hO, lo, O0, O1, O2, O3, O4⟩ : ∃ o : Nat, (#[iv o0, iv o1, iv o2, iv o3, iv o4, iv o5] : Array Value)[i + k]? = some (iv o) ∧ o < 2147483648 ∧ (i + k = 0 → o = o0) ∧ (i + k = 1 → o = o1) ∧ (i + k = 2 → o = o2) ∧ (i + k = 3 → o = o3) ∧ (i + k = 4 → o = o4) := by
            rcases (by omega : i + k = 0 ∨ i + k = 1 ∨ i + k = 2 ∨ i + k = 3 ∨ i + k = 4) with h | h | h | h | h <;> rw [h]
            · exact ⟨o0, rfl, l0, fun _ => rfl, fun h => (by omega), fun h => (by omega), fun h => (by omega), fun h => (by omega)⟩
            · exact ⟨o1, rfl, l1, fun h => (by omega), fun _ => rfl, fun h => (by omega), fun h => (by omega), fun h => (by omega)⟩
            · exact ⟨o2, rfl, l2, fun h => (by omega), fun h => (by omega), fun _ => rfl, fun h => (by omega), fun h => (by omega)⟩
            · exact ⟨o3, rfl, l3, fun h => (by omega), fun h => (by omega), fun h => (by omega), fun _ => rfl, fun h => (by omega)⟩
            · exact ⟨o4, rfl, l4, fun h => (by omega), fun h => (by omega), fun h => (by omega), fun h => (by omega), fun _ => rfl⟩
          have d1 := (c1 i).trans hX
          have d2 := (c2 k).trans hY
          have d3 := (c3 (i + k)).trans hO
          have g3 := f3 (i + k)
          simp only [iv] at d1 d2 d3
          clear c1 c2 c3 f3
          have hm := mul31 lX lY
          have hmn : (X : Int) * Y = ((X * Y : Nat) : Int) := by simp
          have hin : IntKind.i64.wrap ((i : Int) + k) = ((i + k : Nat) : Int) := by rw [IntKind.wrap_i64]; omega
          have hr := rem31 (o + c + X * Y)
          have hd : ((o + c + X * Y : Nat) : Int) / 2147483648 = (((o + c + X * Y) / 2147483648 : Nat) : Int) := by simp
          have hs : IntKind.i64.wrap ((((o : Int) + c)) + ((X * Y : Nat) : Int)) = ((o + c + X * Y : Nat) : Int) := by rw [IntKind.wrap_i64]; omega
          have hs0 : IntKind.i64.wrap ((X * Y : Nat) : Int) = ((X * Y : Nat) : Int) := by rw [IntKind.wrap_i64]; omega
          have hpq : X * Y = X * Y := rfl
          have hp0 : i = 0 → k = 0 → X * Y = x0 * y0 := fun h h' => by rw [X0 h, Y0 h']
          have hp1 : i = 0 → k = 1 → X * Y = x0 * y1 := fun h h' => by rw [X0 h, Y1 h']
          have hp2 : i = 0 → k = 2 → X * Y = x0 * y2 := fun h h' => by rw [X0 h, Y2 h']
          have hp3 : i = 1 → k = 0 → X * Y = x1 * y0 := fun h h' => by rw [X1 h, Y0 h']
          have hp4 : i = 1 → k = 1 → X * Y = x1 * y1 := fun h h' => by rw [X1 h, Y1 h']
          have hp5 : i = 1 → k = 2 → X * Y = x1 * y2 := fun h h' => by rw [X1 h, Y2 h']
          have hp6 : i = 2 → k = 0 → X * Y = x2 * y0 := fun h h' => by rw [X2 h, Y0 h']
          have hp7 : i = 2 → k = 1 → X * Y = x2 * y1 := fun h h' => by rw [X2 h, Y1 h']
          have hp8 : i = 2 → k = 2 → X * Y = x2 * y2 := fun h h' => by rw [X2 h, Y2 h']
          generalize X * Y = p at *
          have hik : ¬ (i : Int) + k < 0 := by omega
          have hik6 : (i : Int) + k < 6 := by omega
          have hi3 : (i : Int) < 3 := by omega
          simp [go_sem, IntWalk.iteOmega, IntWalk.toNatUp, e4, e5, e6, e7, e8, e9, e10, hkt']
          refine W_still follows (by kernel_rfl) ?_
          simp [go_sem, IntWalk.iteOmega, IntWalk.toNatUp, e4, e5, e6, e7, e8, e9, e10, hin, d1, d2, d3, hmn, hs0, hs]
          simp [go_sem, IntWalk.iteOmega, IntWalk.toNatUp, e4, e5, e6, e7, e8, e9, e10, hin, hr, hd, d3, g3]
          have hv2 : (o : Int) + c + p = ((o + c + p : Nat) : Int) := by simp
          rw [hv2, hr, hd]
          have hst := Blk_set (o := i + k) (v := .int .i64 (((o + c + p) % 2147483648 : Nat) : Int)) b3
          refine roundEnd.mk ⟨k + 1, if i + k = 0 then (o + c + p) % 2147483648 else o0, if i + k = 1 then (o + c + p) % 2147483648 else o1, if i + k = 2 then (o + c + p) % 2147483648 else o2, if i + k = 3 then (o + c + p) % 2147483648 else o3, if i + k = 4 then (o + c + p) % 2147483648 else o4, o5, (o + c + p) / 2147483648, by omega, by simp [go_sem, e4], by simp [go_sem, e5], by simp [go_sem, e6], by simp [go_sem, e7], by simp [go_sem, e8], by simp [go_sem], by simp [go_sem],
            b0.farCell (by omega) _, b1.farCell (by omega) _, b2.farCell (by omega) _, ?_, ⟨?_, ?_, ?_, ?_, ?_, l5⟩, by omega, ?_, ?_, z5, ?_, (hB.setCell (by simp; omega) _).drew⟩ ?_
          · have hcs : (#[iv o0, iv o1, iv o2, iv o3, iv o4, iv o5] : Array Value).setIfInBounds (i + k) (.int .i64 (((o + c + p) % 2147483648 : Nat) : Int)) = #[iv (if i + k = 0 then (o + c + p) % 2147483648 else o0), iv (if i + k = 1 then (o + c + p) % 2147483648 else o1), iv (if i + k = 2 then (o + c + p) % 2147483648 else o2), iv (if i + k = 3 then (o + c + p) % 2147483648 else o3), iv (if i + k = 4 then (o + c + p) % 2147483648 else o4), iv o5] := by
              rcases (by omega : i + k = 0 ∨ i + k = 1 ∨ i + k = 2 ∨ i + k = 3 ∨ i + k = 4) with h | h | h | h | h <;> rw [h] <;> rfl
            rw [← hcs]
            exact hst
          · split <;> omega
          · split <;> omega
          · split <;> omega
          · split <;> omega
          · split <;> omega
          · intro h; rw [if_neg (by omega)]; exact z3 h
          · intro h; rw [if_neg (by omega)]; exact z4 h
          · clear hst e4 e5 e6 e7 e8 e9 e10 d1 d2 d3 g3 b0 b1 b2 b3 hB hX hY hO hr hd hs hs0 hin hv2 hmn
            have hpr : pr x0 x1 x2 y0 y1 y2 (3 * i + k) = p := by
              rcases (by omega : i = 0 ∨ i = 1 ∨ i = 2) with rfl | rfl | rfl <;> rcases (by omega : k = 0 ∨ k = 1 ∨ k = 2) with rfl | rfl | rfl
              · exact (hp0 rfl rfl).symm
              · exact (hp1 rfl rfl).symm
              · exact (hp2 rfl rfl).symm
              · exact (hp3 rfl rfl).symm
              · exact (hp4 rfl rfl).symm
              · exact (hp5 rfl rfl).symm
              · exact (hp6 rfl rfl).symm
              · exact (hp7 rfl rfl).symm
              · exact (hp8 rfl rfl).symm
            have hsum : sumT x0 x1 x2 y0 y1 y2 (3 * i + (k + 1)) = sumT x0 x1 x2 y0 y1 y2 (3 * i + k) + p * w31 (i + k) := by
              rw [← ix_at hlt hkt, ← hpr]; rfl
            rw [hsum, ← Nat.add_assoc]
            refine times_fin hv ?_ (w31_succ (by omega))
            rcases (by omega : i + k = 0 ∨ i + k = 1 ∨ i + k = 2 ∨ i + k = 3 ∨ i + k = 4) with h | h | h | h | h <;> rw [h]
            · rw [O0 h, if_pos rfl, if_neg (by decide), if_neg (by decide), if_neg (by decide), if_neg (by decide)]; exact v6_0 ..
            · rw [O1 h, if_neg (by decide), if_pos rfl, if_neg (by decide), if_neg (by decide), if_neg (by decide)]; exact v6_1 ..
            · rw [O2 h, if_neg (by decide), if_neg (by decide), if_pos rfl, if_neg (by decide), if_neg (by decide)]; exact v6_2 ..
            · rw [O3 h, if_neg (by decide), if_neg (by decide), if_neg (by decide), if_pos rfl, if_neg (by decide)]; exact v6_3 ..
            · rw [O4 h, if_neg (by decide), if_neg (by decide), if_neg (by decide), if_neg (by decide), if_pos rfl]; exact v6_4 ..
          · simp [go_sem, intOf]; omega
        · obtain rfl : k = 3 := by omega
          have hin : IntKind.i64.wrap ((i : Int) + 3) = ((i + 3 : Nat) : Int) := by rw [IntKind.wrap_i64]; omega
          have d3 : wr.cell? ⟨w.heap.size + 1 + 1 + 1, i + 3, none⟩ = some (iv (if i = 0 then o3 else if i = 1 then o4 else o5)) := by
            rw [c3]; rcases (by omega : i = 0 ∨ i = 1 ∨ i = 2) with rfl | rfl | rfl <;> rfl
          have g3 := f3 (i + 3)
          have hst := Blk_set (o := i + 3) (v := .int .i64 c) b3
          have hi3 : (i : Int) < 3 := by omega
          simp only [iv] at d3
          clear c1 c2 c3 f3
          simp [go_sem, IntWalk.iteOmega, IntWalk.toNatUp, e4, e5, e6, e7, e8, e9, e10, hin, d3, g3]
          refine roundEnd.mk ⟨i + 1, o0, o1, o2, if i = 0 then c else o3, if i = 1 then c else o4, if i = 2 then c else o5, by omega, by simp [go_sem, e4], by simp [go_sem, e5], by simp [go_sem, e6], by simp [go_sem, e7], by simp [go_sem],
            b0.farCell (by omega) _, b1.farCell (by omega) _, b2.farCell (by omega) _, ?_, ⟨l0, l1, l2, ?_, ?_, ?_⟩, ?_, ?_, ?_, ?_, hB.setCell (by simp; omega) _⟩ ?_
          · have hcs : (#[iv o0, iv o1, iv o2, iv o3, iv o4, iv o5] : Array Value).setIfInBounds (i + 3) (.int .i64 c) = #[iv o0, iv o1, iv o2, iv (if i = 0 then c else o3), iv (if i = 1 then c else o4), iv (if i = 2 then c else o5)] := by
              rcases (by omega : i = 0 ∨ i = 1 ∨ i = 2) with rfl | rfl | rfl <;> rfl
            rw [← hcs]
            exact hst
          · split <;> omega
          · split <;> omega
          · split <;> omega
          · intro h; omega
          · intro h; rw [if_neg (by omega)]; exact z4 (by omega)
          · intro h; rw [if_neg (by omega)]; exact z5 (by omega)
          · clear hst e4 e5 e6 e7 e8 e9 e10 d3 g3 b0 b1 b2 b3 hB hin
            rw [show 3 * (i + 1) = 3 * i + 3 by omega, ← hv]
            rcases (by omega : i = 0 ∨ i = 1 ∨ i = 2) with rfl | rfl | rfl
            · rw [if_pos rfl, if_neg (by decide), if_neg (by decide)]; exact v6_z3 _ _ _ _ _ _ (z3 (by omega)) _
            · rw [if_neg (by decide), if_pos rfl, if_neg (by decide)]; exact v6_z4 _ _ _ _ _ _ (z4 (by omega)) _
            · rw [if_neg (by decide), if_neg (by decide), if_pos rfl]; exact v6_z5 _ _ _ _ _ _ (z5 (by omega)) _
          · simp [go_sem, intOf]; omega
    · obtain rfl : i = 3 := by omega
      have R := readCells_all b3 6 rfl
      have C := canWrite_all b0 6 rfl
      have S : ∀ l : List Value, l.length = 6 → storeSeg wr ⟨w.heap.size, 0, none⟩ 0 l = wr.setRow w.heap.size l.toArray := fun l hl => storeSeg_all b0 l (by rw [hl]; rfl)
      have L2 := readCells_all (Blk_setRow (cs' := #[iv o0, iv o1, iv o2, iv o3, iv o4, iv o5]) b0) 6 rfl
      simp only [iv] at R S L2 C
      simp [go_sem, IntWalk.iteOmega, IntWalk.toNatUp, e4, e5, e6, e7, e8, R, C, S, L2]
      exact ⟨⟨o0, o1, o2, o3, o4, o5, ⟨rfl, rfl, rfl, rfl, rfl, rfl⟩, ho, hv⟩, below_setRow hB (Nat.le_refl _) _⟩
end Go.Proofs.Ytoabdejoabfbeaa
