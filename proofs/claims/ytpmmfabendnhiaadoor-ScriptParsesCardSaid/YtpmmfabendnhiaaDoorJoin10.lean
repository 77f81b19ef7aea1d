/-
  Texts joined: SWords2, SHex, SHex2.
-/
import Derived.Test.YtpmmfabendnhiaaDoorJoin09
namespace Go.Proofs.YtpmmfabendnhiaaDoor
open Go.RowKit
set_option linter.unusedVariables false
set_option linter.unusedSimpArgs false
set_option maxRecDepth 10000
set_option maxHeartbeats 3200000 in
theorem rwords_any (t : List UInt8) (ht : t.length ≤ 50000) (w : World) :
    callE Tryd.prog 32 #[.string (strOf t)] w fun v w' => w'.ownsRow w.heap.size 9 1 v (wordsV t).length (strs (wordsV t)) ∧ Below w.heap.size w w' := by
  have c0 : (⟨#[]⟩ : ByteArray) = strOf [] := rfl
  refine calls_E Tryd.func32 rfl rfl rfl (Nat.le_of_ble_eq_true rfl) ?_
  simp [go_sem, IntWalk.iteOmega, IntWalk.toNatUp, c0]
  have hN0 : Blk (w.alloc (.cells #[.string (strOf [])] 9)) w.heap.size 9 #[.string (strOf [])] := Blk.self_ rfl
  refine W_loop (fun st wr => ∃ (i g c : Nat) (ws : List (List UInt8)) (cur : List UInt8), i ≤ t.length ∧ ws.length ≤ i ∧ cur.length ≤ i ∧ st 0 = .string (strOf t) ∧ st 3 = .slice (some ⟨g, 0, none⟩) (ws.length + 1) c ∧ st 4 = .int .i64 i ∧ wordsV t = ws ++ wordsGo cur (t.drop i) ∧ wr.ownsRow w.heap.size 9 1 (.slice (some ⟨g, 0, none⟩) (ws.length + 1) c) (ws.length + 1) (strs (ws ++ [cur])) ∧ Below w.heap.size w wr) (fun st _ => t.length - (intOf (st 4)).toNat) ?_ ?_
  · refine ⟨0, w.heap.size, 1, [], [], by omega, by simp, by simp, by simp [go_sem], by simp [go_sem], by simp [go_sem], by simp [wordsV], ⟨by simp [strs], .inr ⟨w.heap.size, 1, _, rfl, Nat.le_refl _, hN0, by simp, by unfold maxLen; omega, by simp, by simp [strs]⟩⟩, ext_alloc _ _⟩
  · rintro st wr ⟨i, g, c, ws, cur, hi, hwl, hcl, e0, e3, e4, hwv, hown, hbw⟩
    by_cases hlt : i < t.length
    · have hlt' : (i : Int) < t.length := by omega
      have x1 := fun w => run_index_str (P := Tryd.prog) (w := w) Tryd.underlying9 t i hlt
      have hdr : t.drop i = t[i] :: t.drop (i + 1) := drop_at hlt
      generalize t[i] = ch at *
      by_cases hq : ch = 32
      · subst hq
        have hq' : ((UInt8.toNat 32 : Nat) : Int) = 32 := rfl
        simp [go_sem, IntWalk.iteOmega, IntWalk.toNatUp, c0, strOf_size, e0, e3, e4, hlt, hlt', x1, hq']
        have hN : Blk (wr.alloc (.cells #[.string (strOf [])] 9)) wr.heap.size 9 #[.string (strOf [])] := Blk.self_ rfl
        have hlt2 := hown.lt
        have hbA := hbw.alloc hbw.size (.cells #[.string (strOf [])] 9)
        refine appendW (own_keep hown (ext_alloc wr _)) hN hbA.size (by omega) ?_
        intro v3 w3 hown3 g3
        have hb3 := hbA.grown g3 hbA.size (fun k hk => (hlt2 k hk).1)
        obtain ⟨g', c', rfl⟩ : ∃ g' c', v3 = .slice (some ⟨g', 0, none⟩) (ws.length + 1 + 1) c' := by
          rcases hown3.2 with ⟨_, h⟩ | ⟨g', cap, cur', h, _⟩
          · omega
          · exact ⟨g', cap, h⟩
        simp [go_sem, IntWalk.iteOmega, IntWalk.toNatUp, e0, e3, e4]
        refine roundEnd.mk ⟨i + 1, g', c', ws ++ [cur], [], by omega, by simp; omega, by simp, by simp [go_sem, e0], by simp [go_sem], by simp [go_sem], ?_, ?_, hb3⟩ ?_
        · rw [hwv, hdr, wordsGo, if_pos rfl]; simp
        · simpa using hown3
        · simp [go_sem, intOf]; omega
      · have hq' : ((ch.toNat : Int) == 32) = false := by
          have : ¬ ch.toNat = 32 := fun h => hq (UInt8.toNat_inj.1 h)
          simp; omega
        simp [go_sem, IntWalk.iteOmega, IntWalk.toNatUp, c0, strOf_size, e0, e3, e4, hlt, hlt', x1, hq']
        refine W_tail 13 follows (by kernel_rfl) ?_
        have hcell := hown.cells (g := g) rfl ws.length (.string (strOf cur)) (by simp [strs])
        rw [add_none, Nat.zero_add] at hcell
        obtain ⟨cs, hB⟩ : ∃ cs, Blk wr g 9 cs := by
          rcases hown.2 with ⟨h, _⟩ | ⟨g', cap, cs, h, _, hg, _⟩
          · cases h
          · injection h with h
            injection h with h
            injection h with h
            subst h
            exact ⟨cs, hg⟩
        have hfz := hB.drew.frozen ws.length
        have hcell2 : wr.drew.cell? ⟨g, ws.length, none⟩ = some (.string (strOf cur)) := hcell
        have e1 : (t.take (i + 1)).drop i = [ch] := by
          have h1 : i < (t.take (i + 1)).length := by simp; omega
          have := drop_at h1
          have h2 : (t.take (i + 1)).drop (i + 1) = [] := List.drop_eq_nil_of_le (by simp; omega)
          rw [h2] at this
          rw [this]
          have h3 := drop_at hlt
          rw [hdr] at h3
          injection h3 with h3 _
          rw [h3]
          simp
        have hsl : ¬ 9223372036854775807 < cur.length + 1 := by omega
        have hlen1 : ((ws.length + 1 : Nat) : Int) - 1 = ws.length := by omega
        have hput := own_put (own_keep hown (ext_drew wr)) (i := ws.length) (by omega) (.string (strOf (cur ++ [ch])))
        have hbp := hbw.drew.setCell (p := ⟨g, ws.length, none⟩) (hown.lt g rfl).1 (.string (strOf (cur ++ [ch])))
        simp [go_sem, IntWalk.iteOmega, IntWalk.toNatUp, e0, e3, e4, hcell2, hfz, strOf_part, strOf_app, strOf_size, hsl, e1]
        refine roundEnd.mk ⟨i + 1, g, c, ws, cur ++ [ch], by omega, by omega, by simp; omega, by simp [go_sem, e0], by simp [go_sem, e3], by simp [go_sem], ?_, ?_, hbp⟩ ?_
        · rw [hwv, hdr, wordsGo, if_neg hq]
        · have : strs (ws ++ [cur ++ [ch]]) = (strs (ws ++ [cur])).set ws.length (.string (strOf (cur ++ [ch]))) := by simp [strs]
          rw [this]; exact hput
        · simp [go_sem, intOf]; omega
    · obtain rfl : i = t.length := by omega
      simp [go_sem, IntWalk.iteOmega, IntWalk.toNatUp, c0, strOf_size, e0, e3, e4]
      have hwv' : wordsV t = ws ++ [cur] := by
        rw [hwv, List.drop_of_length_le (Nat.le_refl _)]; rfl
      rw [hwv']
      exact ⟨by simpa using hown, hbw⟩
end Go.Proofs.YtpmmfabendnhiaaDoor
namespace Go.Proofs.YtpmmfabendnhiaaDoor
open Go.RowKit
open Go.Lib (strCells byteCells)
set_option linter.unusedVariables false
set_option linter.unusedSimpArgs false
set_option maxRecDepth 10000
def hexDigits : List UInt8 := [48, 49, 50, 51, 52, 53, 54, 55, 56, 57, 97, 98, 99, 100, 101, 102]
theorem hexDigits_at : ∀ n : Fin 16, hexDigits[n.val]? = some (dig16 n.val) := by decide +kernel
theorem hexDigits_get {n : Nat} (h : n < 16) : ∃ h' : n < hexDigits.length, hexDigits[n] = dig16 n := by
  have := hexDigits_at ⟨n, h⟩
  simp only at this
  obtain ⟨h1, h2⟩ := List.getElem?_eq_some_iff.1 this
  exact ⟨h1, h2⟩
theorem hexDigits_str : (⟨#[48, 49, 50, 51, 52, 53, 54, 55, 56, 57, 97, 98, 99, 100, 101, 102]⟩ : ByteArray) = strOf hexDigits := rfl
theorem run_index_str8 {P : Program} {w : World} {t : TypeId} (ht : P.underlying t = some .string) (l : List UInt8) (i : Nat) (h : i < l.length) : (Instr.index t (.string (strOf l)) (.int .u8 i)).run P w = .ok (.int .u8 ((l[i]).toNat : Int)) w := by
  unfold Instr.index
  have h2 : (0 : Int) ≤ i := by omega
  simp only [Sem.run_bind, asIntOf, Sem.run_pure, Result.andThen_ok, run_underlying ht]
  rw [if_pos h2, Int.toNat_natCast, strOf_get l i h]
  rfl
theorem run_hex {w : World} {n : Nat} (h : n < 16) : (Instr.index 9 (.string (strOf hexDigits)) (.int .u8 n)).run Tryd.prog w = .ok (.int .u8 ((dig16 n).toNat : Int)) w := by
  obtain ⟨h1, h2⟩ := hexDigits_get h
  rw [run_index_str8 undS hexDigits n h1, h2]
theorem and15 (c : UInt8) : bits .and .u8 (c.toNat : Int) 15 = ((c.toNat % 16 : Nat) : Int) := by
  have h : ∀ n : Fin 256, bits .and .u8 (n.val : Int) 15 = ((n.val % 16 : Nat) : Int) := by decide +kernel
  exact h ⟨c.toNat, c.toNat_lt⟩
theorem held_twoH {B : Nat} {w a b : World} (h1 : Below B w a) (h2 : Below B w b) (hs : a.heap.size ≤ b.heap.size) : heldE (fun g => g < B) a b :=
  ⟨hs, fun g hg _ => (h2.block g hg).trans (h1.block g hg).symm⟩
def hx (c : UInt8) : List UInt8 := [dig16 (c.toNat / 16), dig16 (c.toNat % 16)]
theorem append2E {w : World} {base n g : Nat} {v : Value} {xs : List UInt8} {k : Kont} (hown : w.ownsRow base 5 1 v n (byteCells xs)) (hbs : base ≤ w.heap.size) (l : List UInt8) (hl : l.length = 2) {T : TypeId}
    (hN : Blk w g T (byteCells l).toArray) (hn : n + 2 ≤ 70368744177664) (hk : ∀ v' w', w'.ownsRow base 5 1 v' (n + 2) (byteCells (xs ++ l)) → w.grownBy w' v.ownBlock → k v' w') :
    resE Tryd.prog (appendR Tryd.prog 37 37 37 v (.slice (some ⟨g, 0, none⟩) 2 2) w) k := by
  refine appendE base 5 1 1 Tryd.underlying37 el5 hown (m := 2) (news := byteCells l) ⟨by simp [byteCells, hl], fun _ => ⟨_, 0, rfl, hN.lt, fun j u hu => by rw [hN.cell]; simpa using hu⟩⟩ (bl_one _) (by unfold maxLen; omega) (by omega) hbs ?_
  intro v' w' hown' hgr _
  exact hk v' w' (by rw [← bl_app]; exact hown') hgr
set_option maxHeartbeats 3200000 in
theorem hex_any (l : List UInt8) (hl : l.length ≤ 100000) (vl : Value) (w : World) (hs : Sl w 1 vl l.length (byteCells l)) :
    callE Tryd.prog 21 #[vl] w fun v w' => v = .string (strOf (hexV l)) ∧ Below w.heap.size w w' := by
  obtain ⟨A, cap, rfl, hrd, hA, hc1, hc2⟩ := id hs
  refine calls_E Tryd.func21 rfl rfl rfl (Nat.le_of_ble_eq_true rfl) ?_
  by_cases he : l = []
  · subst he
    simp [go_sem, IntWalk.iteOmega, IntWalk.toNatUp]
    exact ⟨rfl, Below.refl _ _⟩
  · have hpos : 0 < l.length := List.length_pos_iff.2 he
    have hne : ((l.length : Int) == 0) = false := by simp; omega
    simp [go_sem, IntWalk.iteOmega, IntWalk.toNatUp, hne]
    refine W_loop (fun st wr => ∃ (i : Nat) (v : Value), i ≤ l.length ∧ st 9 = .slice A l.length cap ∧ st 3 = v ∧ st 10 = .int .i64 l.length ∧ st 11 = .int .i64 i ∧ wr.ownsRow w.heap.size 5 1 v (2 * i) (byteCells ((l.take i).flatMap hx)) ∧ Below w.heap.size w wr) (fun st _ => l.length - (intOf (st 11)).toNat) ?_ ?_
    · exact ⟨0, .slice none 0 0, by omega, by simp [go_sem], by simp [go_sem], by simp [go_sem], by simp [go_sem], by simpa [byteCells] using World.ownsRow_nil _ _ _ _, Below.refl _ _⟩
    · rintro st wr ⟨i, v, hi, e9, e3, e10, e11, hown, hbw⟩
      by_cases hlt : i < l.length
      · obtain ⟨b, o, rfl, hb, hc⟩ := hrd.cells (by omega)
        have x0 := hc i _ (bl_at l i hlt)
        rw [← hbw.cell hb] at x0
        have hlt' : (i : Int) < l.length := by omega
        have htk : l.take (i + 1) = l.take i ++ [l[i]] := take_digs hlt
        have hcl := (l[i]).toNat_lt
        generalize l[i] = c at *
        simp [go_sem, IntWalk.iteOmega, IntWalk.toNatUp, e9, e3, e10, e11, hlt, hlt', x0, hexDigits_str]
        refine W_flow (fun g => g < w.heap.size) (.pure 0 (.pure 1 (.pure 2 (.pure 3 (.pure 4 (.pure 5 (.pure 6 (.one 7 (.one 8 (.pure 9 (.done)))))))))))  follows (by kernel_rfl) ?_
        obtain ⟨a, ha⟩ : ∃ a : Nat, (c.toNat : Int) / 16 = a ∧ c.toNat / 16 = a := ⟨c.toNat / 16, by omega, rfl⟩
        have ra := fun w => run_hex (w := w) (n := a) (by omega)
        obtain ⟨b4, hb4⟩ : ∃ b4 : Nat, bits .and .u8 (c.toNat : Int) 15 = b4 ∧ c.toNat % 16 = b4 := ⟨c.toNat % 16, and15 c, rfl⟩
        have rb := fun w => run_hex (w := w) (n := b4) (by omega)
        have hown2 := own_keep hown (ext_drew wr)
        have hbw2 := hbw.drew
        have hlt2 := hown2.lt
        have hh := (held_refl (fun g => g < w.heap.size) wr.drew).alloc (.cells #[.int .u8 ((dig16 a).toNat : Int), .int .u8 ((dig16 b4).toNat : Int)] 5)
        simp [go_sem, IntWalk.iteOmega, IntWalk.toNatUp, e9, e3, e10, e11, hexDigits_str, ha.1, ra, hb4.1, rb]
        refine ⟨hh, ?_⟩
        have hN : Blk (wr.alloc (.cells #[.int .u8 ((dig16 a).toNat : Int), .int .u8 ((dig16 b4).toNat : Int)] 5)).drew wr.heap.size 5 (byteCells [dig16 a, dig16 b4]).toArray := Blk.drew (Blk.self_ rfl)
        have hbA := (hbw.alloc hbw.size (.cells #[.int .u8 ((dig16 a).toNat : Int), .int .u8 ((dig16 b4).toNat : Int)] 5)).drew
        have hh' : heldE (fun g => g < w.heap.size) wr.drew (wr.alloc (.cells #[.int .u8 ((dig16 a).toNat : Int), .int .u8 ((dig16 b4).toNat : Int)] 5)).drew := hh
        have hown3 : (wr.alloc (.cells #[.int .u8 ((dig16 a).toNat : Int), .int .u8 ((dig16 b4).toNat : Int)] 5)).drew.ownsRow w.heap.size 5 1 v (2 * i) (byteCells ((l.take i).flatMap hx)) := own_keep (own_keep hown (ext_alloc wr (.cells #[.int .u8 ((dig16 a).toNat : Int), .int .u8 ((dig16 b4).toNat : Int)] 5))) (ext_drew _)
        refine append2E hown3 hbA.size [dig16 a, dig16 b4] rfl hN (by omega) ?_
        intro v4 w4 hown4 g4
        have hb4' := hbA.grown g4 hbA.size (fun k hk => (hlt2 k hk).1)
        have hh4 : heldE (fun g => g < w.heap.size) wr.drew w4 := held_twoH hbw2 hb4' (Nat.le_trans hh'.1 g4.size)
        simp [go_sem, IntWalk.iteOmega, IntWalk.toNatUp, e9, e3, e10, e11, hh4]
        refine roundEnd.mk ⟨i + 1, v4, by omega, by simp [go_sem, e9], by simp [go_sem], by simp [go_sem, e10], by simp [go_sem], ?_, hb4'⟩ ?_
        · rw [htk, List.flatMap_append]
          have : 2 * (i + 1) = 2 * i + 2 := by omega
          rw [this]
          have e : [c].flatMap hx = [dig16 a, dig16 b4] := by simp [hx, ha.2, hb4.2]
          rw [e]; exact hown4
        · simp [go_sem, intOf]; omega
      · obtain rfl : i = l.length := by omega
        obtain ⟨-, A2, c2, rfl⟩ := own_sl hown
        simp [go_sem, IntWalk.iteOmega, IntWalk.toNatUp, e9, e3, e10, e11]
        have hfl : (l.flatMap hx).length = 2 * l.length := by
          have : ∀ r : List UInt8, (r.flatMap hx).length = 2 * r.length := by
            intro r; induction r with
            | nil => rfl
            | cons a r ih => rw [List.flatMap_cons, List.length_append, ih]; simp [hx]; omega
          exact this l
        rw [List.take_of_length_le (Nat.le_refl _)] at hown
        rw [← hfl] at hown ⊢
        refine stringE _ (Rd.of_own hown) (by omega) ?_
        simp [go_sem, IntWalk.iteOmega, IntWalk.toNatUp]
        exact ⟨by unfold hexV; rw [if_neg he]; rfl, hbw⟩
end Go.Proofs.YtpmmfabendnhiaaDoor
namespace Go.Proofs.YtpmmfabendnhiaaDoor
open Go.RowKit
open Go.Lib (strCells byteCells)
set_option linter.unusedVariables false
set_option linter.unusedSimpArgs false
set_option maxRecDepth 10000
theorem hexDigits_cut : ∀ n : Fin 16, (hexDigits.take (n.val + 1)).drop n.val = [dig16 n.val] := by decide +kernel
set_option maxHeartbeats 3200000 in
theorem rhex_any (l : List UInt8) (hl : l.length ≤ 100000) (vl : Value) (w : World) (hs : Sl w 1 vl l.length (byteCells l)) :
    callE Tryd.prog 59 #[vl] w fun v w' => v = .string (strOf (hexV l)) ∧ Below w.heap.size w w' := by
  obtain ⟨A, cap, rfl, hrd, hA, hc1, hc2⟩ := id hs
  have c0 : (⟨#[]⟩ : ByteArray) = strOf [] := rfl
  refine calls_E Tryd.func59 rfl rfl rfl (Nat.le_of_ble_eq_true rfl) ?_
  by_cases he : l = []
  · subst he
    simp [go_sem, IntWalk.iteOmega, IntWalk.toNatUp]
    exact ⟨rfl, Below.refl _ _⟩
  · have hpos : 0 < l.length := List.length_pos_iff.2 he
    have hne : ((l.length : Int) == 0) = false := by simp; omega
    simp [go_sem, IntWalk.iteOmega, IntWalk.toNatUp, hne, c0]
    refine W_loop (fun st wr => ∃ (i : Nat), i ≤ l.length ∧ st 0 = .slice A l.length cap ∧ st 3 = .string (strOf ((l.take i).flatMap hx)) ∧ st 4 = .int .i64 i ∧ Below w.heap.size w wr) (fun st _ => l.length - (intOf (st 4)).toNat) ?_ ?_
    · exact ⟨0, by omega, by simp [go_sem], by simp [go_sem], by simp [go_sem], Below.refl _ _⟩
    · rintro st wr ⟨i, hi, e0, e3, e4, hbw⟩
      have hfl : ∀ r : List UInt8, (r.flatMap hx).length = 2 * r.length := by
        intro r; induction r with
        | nil => rfl
        | cons a r ih => rw [List.flatMap_cons, List.length_append, ih]; simp [hx]; omega
      by_cases hlt : i < l.length
      · obtain ⟨b, o, rfl, hb, hc⟩ := hrd.cells (by omega)
        have x0 := hc i _ (bl_at l i hlt)
        rw [← hbw.cell hb] at x0
        have hlt' : (i : Int) < l.length := by omega
        have htk : l.take (i + 1) = l.take i ++ [l[i]] := take_digs hlt
        have hcl := (l[i]).toNat_lt
        have hfi := hfl (l.take i)
        have x0' : wr.drew.cell? ⟨b, o + i, none⟩ = some (.int .u8 ((l[i]).toNat : Int)) := x0
        generalize l[i] = c at *
        obtain ⟨a, ha⟩ : ∃ a : Nat, (c.toNat : Int).tdiv 16 = a ∧ c.toNat / 16 = a := ⟨c.toNat / 16, by rw [Int.tdiv_eq_ediv_of_nonneg (by omega)]; omega, rfl⟩
        obtain ⟨b4, hb4⟩ : ∃ b4 : Nat, (c.toNat : Int).tmod 16 = b4 ∧ c.toNat % 16 = b4 := ⟨c.toNat % 16, by rw [Int.tmod_eq_emod_of_nonneg (by omega)]; omega, rfl⟩
        have fa : IntKind.u8.wrap (a : Int) = a := by rw [wrap_u8_if, if_pos (by omega)]
        have fa1 : IntKind.u8.wrap ((a : Int) + 1) = a + 1 := by rw [wrap_u8_if, if_pos (by omega)]
        have fb : IntKind.u8.wrap (b4 : Int) = b4 := by rw [wrap_u8_if, if_pos (by omega)]
        have fb1 : IntKind.u8.wrap ((b4 : Int) + 1) = b4 + 1 := by rw [wrap_u8_if, if_pos (by omega)]
        have hTl : ((l.take i).flatMap hx).length ≤ 200000 := by rw [hfi]; simp; omega
        obtain ⟨T, hT⟩ : ∃ T, (l.take i).flatMap hx = T := ⟨_, rfl⟩
        rw [hT] at hTl e3
        have ha2 : a < 16 := by omega
        have hb2 : b4 < 16 := by omega
        have ka : (hexDigits.take (a + 1)).drop a = [dig16 a] := hexDigits_cut ⟨a, ha2⟩
        have kb : (hexDigits.take (b4 + 1)).drop b4 = [dig16 b4] := hexDigits_cut ⟨b4, hb2⟩
        have hsz : (strOf hexDigits).size = 16 := rfl
        have hcat1 : ¬ 9223372036854775807 < ([dig16 a].length + [dig16 b4].length : Nat) := by simp
        have hcat2 : ¬ 9223372036854775807 < T.length + 2 := by omega
        simp [go_sem, IntWalk.iteOmega, IntWalk.toNatUp, e0, e3, e4, hlt, hlt', x0, hexDigits_str]
        refine W_still follows (by kernel_rfl) ?_
        simp [go_sem, IntWalk.iteOmega, IntWalk.toNatUp, e0, e3, e4, hlt, hlt', x0', hexDigits_str, ha.1, hb4.1, fa, fa1, fb, fb1, strOf_part, hsz, ka, kb, strOf_app, strOf_size, hcat1, hcat2]
        refine roundEnd.mk ⟨i + 1, by omega, by simp [go_sem, e0], ?_, by simp [go_sem], hbw.drew⟩ ?_
        · rw [htk, List.flatMap_append, hT]
          have e : [c].flatMap hx = [dig16 a, dig16 b4] := by simp [hx, ha.2, hb4.2]
          rw [e]
          simp [go_sem]
        · simp [go_sem, intOf]; omega
      · obtain rfl : i = l.length := by omega
        simp [go_sem, IntWalk.iteOmega, IntWalk.toNatUp, e0, e3, e4]
        refine ⟨?_, hbw⟩
        unfold hexV; rw [if_neg he]; rfl
end Go.Proofs.YtpmmfabendnhiaaDoor
