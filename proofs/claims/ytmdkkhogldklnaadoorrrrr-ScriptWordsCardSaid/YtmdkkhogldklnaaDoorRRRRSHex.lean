/-
  Bytes' word: the program's, the document's.
-/
import Derived.Test.YtmdkkhogldklnaaDoorRRRRSWords
namespace Go.Proofs.YtmdkkhogldklnaaDoorRRRR
open Go.RowKit
open Go.Lib (strCells byteCells)
set_option linter.unusedVariables false
set_option linter.unusedSimpArgs false
set_option maxRecDepth 10000
def hexDigits : List UInt8 := [48, 49, 50, 51, 52, 53, 54, 55, 56, 57, 97, 98, 99, 100, 101, 102]
theorem hexDigits_at : ∀ n : Fin 16, hexDigits[n.val]? = some (dig16 n.val) := by decide +kernel
theorem hexDigits_get {n : Nat} (h : n < 16) : ∃ h' : n < hexDigits.length, hexDigits[n] = dig16 n := by
  have := hexDigits_at ⟨n, h⟩
  simp only at this
  obtain ⟨h1, h2⟩ := List.getElem?_eq_some_iff.1 this
  exact ⟨h1, h2⟩
theorem hexDigits_str : (⟨#[48, 49, 50, 51, 52, 53, 54, 55, 56, 57, 97, 98, 99, 100, 101, 102]⟩ : ByteArray) = strOf hexDigits := rfl
theorem run_index_str8 {P : Program} {w : World} {t : TypeId} (ht : P.underlying t = some .string) (l : List UInt8) (i : Nat) (h : i < l.length) : (Instr.index t (.string (strOf l)) (.int .u8 i)).run P w = .ok (.int .u8 ((l[i]).toNat : Int)) w := by
  unfold Instr.index
  have h2 : (0 : Int) ≤ i := by omega
  simp only [Sem.run_bind, asIntOf, Sem.run_pure, Result.andThen_ok, run_underlying ht]
  rw [if_pos h2, Int.toNat_natCast, strOf_get l i h]
  rfl
theorem run_hex {w : World} {n : Nat} (h : n < 16) : (Instr.index 9 (.string (strOf hexDigits)) (.int .u8 n)).run Tryd.prog w = .ok (.int .u8 ((dig16 n).toNat : Int)) w := by
  obtain ⟨h1, h2⟩ := hexDigits_get h
  rw [run_index_str8 undS hexDigits n h1, h2]
theorem and15 (c : UInt8) : bits .and .u8 (c.toNat : Int) 15 = ((c.toNat % 16 : Nat) : Int) := by
  have h : ∀ n : Fin 256, bits .and .u8 (n.val : Int) 15 = ((n.val % 16 : Nat) : Int) := by decide +kernel
  exact h ⟨c.toNat, c.toNat_lt⟩
theorem held_two {B : Nat} {w a b : World} (h1 : Below B w a) (h2 : Below B w b) (hs : a.heap.size ≤ b.heap.size) : heldE (fun g => g < B) a b :=
  ⟨hs, fun g hg _ => (h2.block g hg).trans (h1.block g hg).symm⟩
def hx (c : UInt8) : List UInt8 := [dig16 (c.toNat / 16), dig16 (c.toNat % 16)]
theorem append2E {w : World} {base n g : Nat} {v : Value} {xs : List UInt8} {k : Kont} (hown : w.ownsRow base 5 1 v n (byteCells xs)) (hbs : base ≤ w.heap.size) (l : List UInt8) (hl : l.length = 2) {T : TypeId}
    (hN : Blk w g T (byteCells l).toArray) (hn : n + 2 ≤ 70368744177664) (hk : ∀ v' w', w'.ownsRow base 5 1 v' (n + 2) (byteCells (xs ++ l)) → w.grownBy w' v.ownBlock → k v' w') :
    resE Tryd.prog (appendR Tryd.prog 22 22 22 v (.slice (some ⟨g, 0, none⟩) 2 2) w) k := by
  refine appendE base 5 1 1 Tryd.underlying22 el5 hown (m := 2) (news := byteCells l) ⟨by simp [byteCells, hl], fun _ => ⟨_, 0, rfl, hN.lt, fun j u hu => by rw [hN.cell]; simpa using hu⟩⟩ (bl_one _) (by unfold maxLen; omega) (by omega) hbs ?_
  intro v' w' hown' hgr _
  exact hk v' w' (by rw [← bl_app]; exact hown') hgr
set_option maxHeartbeats 3200000 in
theorem hex_any (l : List UInt8) (hl : l.length ≤ 100000) (vl : Value) (w : World) (hs : Sl w 1 vl l.length (byteCells l)) :
    callE Tryd.prog 12 #[vl] w fun v w' => v = .string (strOf (hexV l)) ∧ Below w.heap.size w w' := by
  obtain ⟨A, cap, rfl, hrd, hA, hc1, hc2⟩ := id hs
  refine calls_E Tryd.func12 rfl rfl rfl (Nat.le_of_ble_eq_true rfl) ?_
  by_cases he : l = []
  · subst he
    simp [go_sem, IntWalk.iteOmega, IntWalk.toNatUp]
    exact ⟨rfl, Below.refl _ _⟩
  · have hpos : 0 < l.length := List.length_pos_iff.2 he
    have hne : ((l.length : Int) == 0) = false := by simp; omega
    simp [go_sem, IntWalk.iteOmega, IntWalk.toNatUp, hne]
    refine W_loop (fun st wr => ∃ (i : Nat) (v : Value), i ≤ l.length ∧ st 9 = .slice A l.length cap ∧ st 3 = v ∧ st 10 = .int .i64 l.length ∧ st 11 = .int .i64 i ∧ wr.ownsRow w.heap.size 5 1 v (2 * i) (byteCells ((l.take i).flatMap hx)) ∧ Below w.heap.size w wr) (fun st _ => l.length - (intOf (st 11)).toNat) ?_ ?_
    · exact ⟨0, .slice none 0 0, by omega, by simp [go_sem], by simp [go_sem], by simp [go_sem], by simp [go_sem], by simpa [byteCells] using World.ownsRow_nil _ _ _ _, Below.refl _ _⟩
    · rintro st wr ⟨i, v, hi, e9, e3, e10, e11, hown, hbw⟩
      by_cases hlt : i < l.length
      · obtain ⟨b, o, rfl, hb, hc⟩ := hrd.cells (by omega)
        have x0 := hc i _ (bl_at l i hlt)
        rw [← hbw.cell hb] at x0
        have hlt' : (i : Int) < l.length := by omega
        have htk : l.take (i + 1) = l.take i ++ [l[i]] := take_digs hlt
        have hcl := (l[i]).toNat_lt
        generalize l[i] = c at *
        simp [go_sem, IntWalk.iteOmega, IntWalk.toNatUp, e9, e3, e10, e11, hlt, hlt', x0, hexDigits_str]
        refine W_flow (fun g => g < w.heap.size) (.pure 0 (.pure 1 (.pure 2 (.pure 3 (.pure 4 (.pure 5 (.pure 6 (.one 7 (.one 8 (.pure 9 (.done)))))))))))  follows (by kernel_rfl) ?_
        obtain ⟨a, ha⟩ : ∃ a : Nat, (c.toNat : Int) / 16 = a ∧ c.toNat / 16 = a := ⟨c.toNat / 16, by omega, rfl⟩
        have ra := fun w => run_hex (w := w) (n := a) (by omega)
        obtain ⟨b4, hb4⟩ : ∃ b4 : Nat, bits .and .u8 (c.toNat : Int) 15 = b4 ∧ c.toNat % 16 = b4 := ⟨c.toNat % 16, and15 c, rfl⟩
        have rb := fun w => run_hex (w := w) (n := b4) (by omega)
        have hown2 := own_keep hown (ext_drew wr)
        have hbw2 := hbw.drew
        have hlt2 := hown2.lt
        have hh := (held_refl (fun g => g < w.heap.size) wr.drew).alloc (.cells #[.int .u8 ((dig16 a).toNat : Int), .int .u8 ((dig16 b4).toNat : Int)] 5)
        simp [go_sem, IntWalk.iteOmega, IntWalk.toNatUp, e9, e3, e10, e11, hexDigits_str, ha.1, ra, hb4.1, rb]
        refine ⟨hh, ?_⟩
        have hN : Blk (wr.alloc (.cells #[.int .u8 ((dig16 a).toNat : Int), .int .u8 ((dig16 b4).toNat : Int)] 5)).drew wr.heap.size 5 (byteCells [dig16 a, dig16 b4]).toArray := Blk.drew (Blk.self_ rfl)
        have hbA := (hbw.alloc hbw.size (.cells #[.int .u8 ((dig16 a).toNat : Int), .int .u8 ((dig16 b4).toNat : Int)] 5)).drew
        have hh' : heldE (fun g => g < w.heap.size) wr.drew (wr.alloc (.cells #[.int .u8 ((dig16 a).toNat : Int), .int .u8 ((dig16 b4).toNat : Int)] 5)).drew := hh
        have hown3 : (wr.alloc (.cells #[.int .u8 ((dig16 a).toNat : Int), .int .u8 ((dig16 b4).toNat : Int)] 5)).drew.ownsRow w.heap.size 5 1 v (2 * i) (byteCells ((l.take i).flatMap hx)) := own_keep (own_keep hown (ext_alloc wr (.cells #[.int .u8 ((dig16 a).toNat : Int), .int .u8 ((dig16 b4).toNat : Int)] 5))) (ext_drew _)
        refine append2E hown3 hbA.size [dig16 a, dig16 b4] rfl hN (by omega) ?_
        intro v4 w4 hown4 g4
        have hb4' := hbA.grown g4 hbA.size (fun k hk => (hlt2 k hk).1)
        have hh4 : heldE (fun g => g < w.heap.size) wr.drew w4 := held_two hbw2 hb4' (Nat.le_trans hh'.1 g4.size)
        simp [go_sem, IntWalk.iteOmega, IntWalk.toNatUp, e9, e3, e10, e11, hh4]
        refine roundEnd.mk ⟨i + 1, v4, by omega, by simp [go_sem, e9], by simp [go_sem], by simp [go_sem, e10], by simp [go_sem], ?_, hb4'⟩ ?_
        · rw [htk, List.flatMap_append]
          have : 2 * (i + 1) = 2 * i + 2 := by omega
          rw [this]
          have e : [c].flatMap hx = [dig16 a, dig16 b4] := by simp [hx, ha.2, hb4.2]
          rw [e]; exact hown4
        · simp [go_sem, intOf]; omega
      · obtain rfl : i = l.length := by omega
        obtain ⟨-, A2, c2, rfl⟩ := own_sl hown
        simp [go_sem, IntWalk.iteOmega, IntWalk.toNatUp, e9, e3, e10, e11]
        have hfl : (l.flatMap hx).length = 2 * l.length := by
          have : ∀ r : List UInt8, (r.flatMap hx).length = 2 * r.length := by
            intro r; induction r with
            | nil => rfl
            | cons a r ih => rw [List.flatMap_cons, List.length_append, ih]; simp [hx]; omega
          exact this l
        rw [List.take_of_length_le (Nat.le_refl _)] at hown
        rw [← hfl] at hown ⊢
        refine stringE _ (Rd.of_own hown) (by omega) ?_
        simp [go_sem, IntWalk.iteOmega, IntWalk.toNatUp]
        exact ⟨by unfold hexV; rw [if_neg he]; rfl, hbw⟩
end Go.Proofs.YtmdkkhogldklnaaDoorRRRR
