/-
  The program's sum of bytes, 'sha.Sum', is the plain SHA-256; a name in digits.
-/
import Derived.Test.YtlhlfodmcffeoaaDoorSummed
namespace Go.Proofs.YtlhlfodmcffeoaaDoor
open Go.RowKit
set_option linter.unusedVariables false
set_option linter.unusedSimpArgs false
set_option maxRecDepth 10000
theorem sha_length (l : List UInt8) : (sha l).length = 32 := by simp [sha, St8.bytes, wordBytes]
theorem shaSum_any (v : Value) (l : List UInt8) (w : World) (hv : RdB w v l) (hC : Cubes w) (hl : l.length ≤ 70368744177664) :
    callE Tryd.prog 19 #[v] w fun v' w' => v' = .agg (bl (sha l)).toArray ∧ Below w.heap.size w w' := by
  refine calls_E Tryd.func19 rfl rfl rfl (Nat.le_of_ble_eq_true rfl) ?_
  obtain ⟨A, c, rfl, h1, h2, h3, h4⟩ := hv
  simp [go_sem, IntWalk.iteOmega, IntWalk.toNatUp]
  refine callE_at fun W hW => ?_
  obtain ⟨b0, hB, hS⟩ := news1 hW
  clear hW
  refine callE_of (new_any W) ?_
  rintro v w1 ⟨b, hb, rfl, hBk, hw1⟩
  simp [go_sem, IntWalk.iteOmega, IntWalk.toNatUp]
  refine callE_at fun W2 hW2 => ?_
  obtain ⟨b2, hB2, hS2⟩ := news1 hW2
  clear hW2
  have hbl := hBk.lt
  have hs : StateAt W2 b [] := ⟨by have := hC.pos; omega, by simp, .slice none 0 0, hBk.keep hB2, World.ownsRow_nil _ _ _ _⟩
  have hC2 := ((hC.keep hB).keep hw1).keep hB2
  have hv0 : RdB W (.slice A l.length c) l := RdB.keep ⟨A, c, rfl, h1, h2, h3, h4⟩ hB
  have hoff : Off b W2 fun w' => RdB w' (.slice A l.length c) l := fun w' hw' => by
    have hbb := below_else (B := W.heap.size) hw' hb (by have := hw1.size; have := hB2.size; omega)
    exact hv0.keep ((hw1.trans (hB2.mono hw1.size)).trans hbb)
  have hoff2 : Off b W2 fun w' => Blk w' w1.heap.size 29 #[.slice A l.length c] := fun w' hw' => b2.off hw' (by omega)
  refine callE_of (write_any b 1 1 _ [] [l] [.slice A l.length c] W2 hs hC2 (fun w' hw' => ⟨⟨rfl, fun _ => ⟨_, 0, rfl, (hoff2 w' hw').lt, fun j u hu => by rw [(hoff2 w' hw').cell]; simpa using hu⟩⟩, rfl, ?_⟩) (by omega) (by simpa using hl)) ?_
  · intro j v m hv hm
    match j, hv, hm with
    | 0, hv, hm => injection hv with hv; injection hm with hm; subst hv hm; exact hoff w' hw'
    | n + 1, hv, hm => simp at hv
  rintro v w3 ⟨rfl, hs3, hg3, _⟩
  simp [go_sem, IntWalk.iteOmega, IntWalk.toNatUp]
  have hB3 : Below W.heap.size W w3 := (hw1.trans (hB2.mono hw1.size)).trans (below_else hg3 hb (by have := hw1.size; have := hB2.size; omega))
  rw [show [] ++ [l].flatten = l by simp] at hs3
  refine callE_of (stateSum_any b l w3 hs3 ((hC.keep hB).keep hB3)) ?_
  rintro v w4 ⟨rfl, hB4⟩
  have b4 := (b0.keep hB3).keep hB4
  have hBw := ext_trans (ext_trans hB hB3) hB4
  have x5 : (bl (sha l)).length = 32 := by rw [bl_length, sha_length]
  have x2 := canWrite_all b4 32 rfl
  have x3 := storeSeg_all b4 (bl (sha l)) (by rw [x5]; rfl)
  have x4 : readCells (w4.setRow w.heap.size (bl (sha l)).toArray) ⟨w.heap.size, 0, none⟩ 0 32 = some (bl (sha l)) := readCells_all (Blk_setRow b4) 32 (by simpa using x5)
  have x6 := bl_one (sha l)
  simp [go_sem, IntWalk.iteOmega, IntWalk.toNatUp, x2, x3, x4, x5, x6]
  exact below_setRow hBw (Nat.le_refl _) _
end Go.Proofs.YtlhlfodmcffeoaaDoor
