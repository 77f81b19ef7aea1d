/-
  Texts joined: HHex, HPlain, HWords, HStand, HErrs.
-/
import Derived.Test.YtjjopoigbonjbaaGreatDoorJoin30
import Derived.Laws.MakeOwn
import Derived.Laws.BytesArg
import Derived.Lib.OthersKept
import Derived.Laws.RangeAny
import Derived.Lib.AppendIntMem
import Derived.Lib.ItoaLen
namespace Go.Proofs.YtjjopoigbonjbaaGreatDoor
open Go.RowKit
set_option linter.unusedVariables false
set_option linter.unusedSimpArgs false
set_option maxRecDepth 10000
theorem makeE {P : Program} {w : World} {t e size bytes : Nat} (ht : P.underlying t = some (.slice e)) (he : El P e size bytes) (kl kc : IntKind) (c : Nat) (hbytes : bytes * c ≤ 281474976710656) (h63 : c ≤ maxLen) {k : Kont}
    (hk : ∀ v w', w'.ownsRow w.heap.size e size v 0 [] → Below w.heap.size w w' → k v w') :
    resE P (((Instr.makeSlice t (.int kl 0) (.int kc (c : Int))).run P w).andThen fun a w' => .ok (.value a) w') k := by
  obtain ⟨i, z, hi, hz, hsz, hby, hzs, hpos⟩ := he
  obtain ⟨w', hr, ho, hg⟩ := run_make_own (P := P) w w.heap.size t e i z size ht hi hz hsz kl kc c (by rw [hby]; exact hbytes) h63 (Nat.le_refl _)
  rw [hr]
  exact hk _ w' ho ⟨hg.os, hg.tape, hg.output, hg.size, fun k hk => hg.block k hk (by simp)⟩
theorem stringE {w : World} {A : Option Addr} {c : Nat} (l : List UInt8) (h : Rd w 1 A l.length (bl l)) (hpos : 0 < l.length) {k : Kont} (hk : k (.string ⟨l.toArray⟩) w) :
    resE Tryz.prog (((convert 50 9 (.slice A l.length c)).run Tryz.prog w).andThen fun a w' => .ok (.value a) w') k := by
  have hs : (convert 50 9 (.slice A l.length c)).run Tryz.prog w = .ok (.string ⟨l.toArray⟩) w := by
    obtain ⟨b, o, rfl, hlt, hc⟩ := h.cells hpos
    rw [run_convert_bytes_arg w 50 5 Tryz.underlying50 Tryz.underlying5 b o l.length c (l.map fun x => (x.toNat : Int)) (by simp) (fun i hi => ?_) 9 Tryz.underlying9]
    · simp [strOfNums, Function.comp_def]
    · rw [hc i _ (bl_at l i hi)]
      simp [byteAt, List.getD, List.getElem?_eq_getElem hi]
  rw [hs]; exact hk
theorem append_bytes {w0 w1 w2 : World} {base n g : Nat} {v : Value} {xs news : List UInt8} {k : Kont} (hown : w1.ownsRow base 5 1 v n (bl xs)) (hle : w0.heap.size ≤ base) (hbs : base ≤ w1.heap.size) (hB : Below w0.heap.size w0 w1)
    (h12 : Below w1.heap.size w1 w2) (hN : Blk w2 g 5 (bl news).toArray) (m : Nat) (hm : news.length = m) (hn : n + m ≤ 70368744177664) (hk : ∀ v' w', w'.ownsRow base 5 1 v' (n + m) (bl (xs ++ news)) → base ≤ w'.heap.size → Below w0.heap.size w0 w' → k v' w') :
    resE Tryz.prog (appendR Tryz.prog 50 50 50 v (.slice (some ⟨g, 0, none⟩) m m) w2) k := by
  have hown2 := own_keep hown h12
  have hsz : base ≤ w2.heap.size := Nat.le_trans hbs h12.size
  have hB2 := ext_trans hB h12
  refine appendE base 5 1 1 Tryz.underlying50 el5 hown2 (m := m) (news := bl news) ⟨by rw [bl_length, hm]; omega, fun _ => ⟨_, 0, rfl, hN.lt, fun j u hu => by rw [hN.cell]; simpa using hu⟩⟩ (bl_one news) (by unfold maxLen; omega) (by omega) hsz ?_
  intro v' w' hown' hgr _
  exact hk v' w' (by rw [bl_append]; exact hown') (Nat.le_trans hsz hgr.size) (hB2.grown hgr (by have := hB2.size; omega) (fun k hk => by have := (hown2.lt k hk).1; omega))
theorem digit_at : ∀ (n : Nat) (h : n < 16), (ByteArray.mk #[48, 49, 50, 51, 52, 53, 54, 55, 56, 57, 97, 98, 99, 100, 101, 102])[n]'h = hexDigit n := by decide
theorem and15 (c : UInt8) : bits .and .u8 (c.toNat : Int) 15 = ((c.toNat % 16 : Nat) : Int) := by
  have h : ∀ n : Fin 256, bits .and .u8 (n.val : Int) 15 = ((n.val % 16 : Nat) : Int) := by decide +kernel
  exact h ⟨c.toNat, c.toNat_lt⟩
theorem hexOf_take (T : List UInt8) (i : Nat) (h : i < T.length) : hexOf (T.take (i + 1)) = hexOf (T.take i) ++ [hexDigit ((T.getD i 0).toNat / 16), hexDigit ((T.getD i 0).toNat % 16)] := by
  rw [List.take_add_one, List.getElem?_eq_getElem h]
  unfold hexOf
  rw [List.flatMap_append]
  congr 1
  simp [List.getD, List.getElem?_eq_getElem h]
theorem hexOf_length (T : List UInt8) : (hexOf T).length = 2 * T.length := by
  induction T with
  | nil => rfl
  | cons a t ih => simp only [hexOf, List.flatMap_cons, List.length_append] at ih ⊢; rw [ih]; simp; omega
theorem hex_any (T : List UInt8) (w : World) (hT : T.length = 32) :
    callE Tryz.prog 43 #[.agg (bl T).toArray] w fun v' w' => v' = .string ⟨(hexOf T).toArray⟩ ∧ Below w.heap.size w w' := by
  refine calls_E Tryz.func43 rfl rfl rfl (Nat.le_of_ble_eq_true rfl) ?_
  have x5 : (bl T).length = 32 := by rw [bl_length, hT]
  simp [go_sem, IntWalk.iteOmega, IntWalk.toNatUp, x5]
  refine makeE Tryz.underlying50 el5 .i64 .i64 64 (by omega) (by unfold maxLen; omega) ?_
  intro v w1 hown hB1
  have hN : Blk (w.alloc (.cells (bl T).toArray 58)) w.heap.size 58 (bl T).toArray := Blk.self_ rfl
  have x0 : readCells w1 ⟨w.heap.size, 0, none⟩ 0 32 = some (bl T) := readCells_all (hN.keep hB1) 32 (by simpa using x5)
  have hB := ext_trans (ext_alloc w _) hB1
  have hbs : w.heap.size + 1 ≤ w1.heap.size := by have := hB1.size; simpa using this
  have hown' := own_mono (base' := w.heap.size) hown (by simp)
  clear hown hB1 hN
  simp [go_sem, IntWalk.iteOmega, IntWalk.toNatUp, x5, x0]
  refine W_loop (fun s wr => ∃ (i : Nat) (v : Value), i ≤ 32 ∧ s 7 = .agg (bl T).toArray ∧ s 8 = .int .i64 i ∧ s 3 = v ∧ wr.ownsRow w.heap.size 5 1 v (2 * i) (bl (hexOf (T.take i))) ∧ w.heap.size ≤ wr.heap.size ∧ Below w.heap.size w wr) (fun s _ => 32 - (intOf (s 8)).toNat) ?_ ?_
  · exact ⟨0, v, by omega, by simp [go_sem], by simp [go_sem], by simp [go_sem], by simpa [hexOf, bl] using hown', by omega, hB⟩
  · clear hown' hB x0 hbs
    rintro s w1 ⟨i, v, hi, e7, e8, e3, hown, hsz, hB⟩
    have hhl : (hexOf (T.take i)).length = 2 * i := by rw [hexOf_length, List.length_take, hT, Nat.min_eq_left hi]
    obtain ⟨A2, c2, rfl, hr21, hr22, hr23, hr24⟩ := own_rdB (l := hexOf (T.take i)) (by rw [hhl]; exact hown)
    rw [hhl] at e3 hown
    by_cases hlt : i < 32
    · have hlt' : (i : Int) < 32 := by omega
      have x1 : (bl T)[i]? = some (.int .u8 (T.getD i 0).toNat) := bl_at T i (by omega)
      have hh := hexOf_take T i (by omega)
      have htl := (T.getD i 0).toNat_lt
      generalize T.getD i 0 = c at x1 hh htl
      have hq1 : 0 ≤ (c.toNat : Int) / 16 ∧ (c.toNat : Int) / 16 < 16 := by omega
      have hd1 := digit_at (c.toNat / 16) (by omega)
      have hd2 := digit_at (c.toNat % 16) (by omega)
      have hq2 : bits .and .u8 (c.toNat : Int) 15 = ((c.toNat % 16 : Nat) : Int) := and15 c
      simp [go_sem, IntWalk.iteOmega, IntWalk.toNatUp, e7, e8, e3, hlt', x1]
      refine W_plan [(0, true), (1, true), (2, true), (3, true), (4, true), (5, true), (6, true), (7, false), (8, false), (9, true)] follows (by kernel_rfl) ?_
      simp [go_sem, IntWalk.iteOmega, IntWalk.toNatUp, e7, e8, e3, hlt', x1, hq1, hq2, hd1, hd2]
      refine append_bytes (w0 := w) (w1 := w1) (news := [hexDigit (c.toNat / 16), hexDigit (c.toNat % 16)]) hown (Nat.le_refl _) hsz hB (ext_trans (ext_alloc w1 _) (ext_drew _)) ((Blk_drew (w := w1.alloc _)).mpr (Blk.self_ rfl)) 2 rfl (by omega) ?_
      clear hown hB hsz hr21 hr22 hr23 hr24
      intro v w2 hown hsz hB
      simp [go_sem, IntWalk.iteOmega, IntWalk.toNatUp, e8]
      refine roundEnd.mk ⟨i + 1, v, by omega, by simp [go_sem, e7], by simp [go_sem], by simp [go_sem], ?_, hsz, hB⟩ ?_
      · rw [hh]; exact hown
      · simp [go_sem, intOf]; omega
    · obtain rfl : i = 32 := by omega
      rw [List.take_of_length_le (by omega)] at hr21 hr22 hhl
      rw [← hhl] at e3
      simp [go_sem, IntWalk.iteOmega, IntWalk.toNatUp, e7, e8, e3]
      refine stringE (hexOf T) hr21 (by omega) ?_
      simp [go_sem, IntWalk.iteOmega, IntWalk.toNatUp, e7, e8, e3]
      exact hB
theorem refHex_any (T : List UInt8) (w : World) (hT : T.length = 32) :
    callE Tryz.prog 45 #[.agg (bl T).toArray] w fun v' w' => v' = .string ⟨(hexOf T).toArray⟩ ∧ Below w.heap.size w w' := by
  refine calls_E Tryz.func45 rfl rfl rfl (Nat.le_of_ble_eq_true rfl) ?_
  have x5 : (bl T).length = 32 := by rw [bl_length, hT]
  simp [go_sem, IntWalk.iteOmega, IntWalk.toNatUp, x5]
  refine W_at fun W hW => ?_
  obtain ⟨b0, hB, hS⟩ := news1 hW
  clear hW
  refine W_loop (fun s wr => ∃ (i : Nat) (v : Value), i ≤ 32 ∧ s 1 = .pointer (some ⟨w.heap.size, 0, none⟩) ∧ s 4 = .int .i64 i ∧ s 3 = v ∧ wr.ownsRow W.heap.size 5 1 v (2 * i) (bl (hexOf (T.take i))) ∧ W.heap.size ≤ wr.heap.size ∧ Below W.heap.size W wr) (fun s _ => 32 - (intOf (s 4)).toNat) ?_ ?_
  · exact ⟨0, .slice none 0 0, by omega, by simp [go_sem], by simp [go_sem], by simp [go_sem], World.ownsRow_nil _ _ _ _, by omega, Below.refl _ _⟩
  · rintro s w1 ⟨i, v, hi, e1, e4, e3, hown, hsz, hB1⟩
    have hhl : (hexOf (T.take i)).length = 2 * i := by rw [hexOf_length, List.length_take, hT, Nat.min_eq_left hi]
    obtain ⟨A2, c2, rfl, hr21, hr22, hr23, hr24⟩ := own_rdB (l := hexOf (T.take i)) (by rw [hhl]; exact hown)
    rw [hhl] at e3 hown
    by_cases hlt : i < 32
    · have hlt' : (i : Int) < 32 := by omega
      have x1 : w1.cell? ⟨w.heap.size, i, none⟩ = some (.int .u8 (T.getD i 0).toNat) := ((b0.keep hB1).cell i).trans (by rw [List.getElem?_toArray]; exact bl_at T i (by omega))
      have hh := hexOf_take T i (by omega)
      have htl := (T.getD i 0).toNat_lt
      generalize T.getD i 0 = c at x1 hh htl
      have hd1 := digit_at (c.toNat / 16) (by omega)
      have hd2 := digit_at (c.toNat % 16) (by omega)
      simp [go_sem, IntWalk.iteOmega, IntWalk.toNatUp, e1, e4, e3, hlt']
      refine W_tree (.pure 0 (.pure 1 (.pure 2 (.pure 6 (.pure 7 (.two 3 (.pure 4 (.pure 5 (.one 8 (.pure 9 (.pure 10 (.one 11 (.one 12 (.pure 13 (.done))))))))) 8 (.pure 9 (.pure 10 (.one 3 (.pure 4 (.pure 5 (.one 11 (.one 12 (.pure 13 (.done))))))))))))))) follows (by kernel_rfl) ?_
      have hq1 : 0 ≤ (c.toNat : Int) / 16 ∧ (c.toNat : Int) / 16 < 16 := by omega
      simp [go_sem, IntWalk.iteOmega, IntWalk.toNatUp, e1, e4, e3, hlt', x1, hd1, hd2, hq1, wrap_u8_if, (show ((c.toNat : Int)).tmod 16 = ((c.toNat % 16 : Nat) : Int) from rfl)]
      constructor <;>
      · refine append_bytes (w0 := W) (w1 := w1) (news := [hexDigit (c.toNat / 16), hexDigit (c.toNat % 16)]) hown (Nat.le_refl _) hsz hB1 (ext_trans (ext_alloc _ _) (ext_drew _)) ((Blk_drew (w := w1.alloc _)).mpr (Blk.self_ rfl)) 2 rfl (by omega) ?_
        clear hown hB1 hsz hr21 hr22 hr23 hr24
        intro v w2 hown hsz hB1
        simp [go_sem, IntWalk.iteOmega, IntWalk.toNatUp, e1, e4]
        refine roundEnd.mk ⟨i + 1, v, by omega, by simp [go_sem, e1], by simp [go_sem], by simp [go_sem], ?_, hsz, hB1⟩ ?_
        · rw [hh]; exact hown
        · simp [go_sem, intOf]; omega
    · obtain rfl : i = 32 := by omega
      rw [List.take_of_length_le (by omega)] at hr21 hr22 hhl
      rw [← hhl] at e3
      simp [go_sem, IntWalk.iteOmega, IntWalk.toNatUp, e1, e4, e3]
      refine stringE (hexOf T) hr21 (by omega) ?_
      simp [go_sem, IntWalk.iteOmega, IntWalk.toNatUp]
      exact ext_trans hB hB1
end Go.Proofs.YtjjopoigbonjbaaGreatDoor
namespace Go.Proofs.YtjjopoigbonjbaaGreatDoor.Ho
open Go.RowKit
set_option linter.unusedVariables false
/-- A validator's stand. -/
structure Std where
  name : List UInt8
  byz : Bool
  down : Bool
  phase : Int
  height : Int
  last : List UInt8
  pref : List UInt8
structure Rep where
  errs : List Int
  stands : List Std
  sent : Int
  forged : Int
  delivered : Int
  refused : Int
  lost : Int
  dropped : Int
  doubled : Int
  flight : Int
  facts : Int
  agree : Bool
  share : Bool
  noFlip : Bool
  boots : Bool
def Rep.nums (r : Rep) : List Int := [r.sent, r.forged, r.delivered, r.refused, r.lost, r.dropped, r.doubled, r.flight]
def Std.OK (s : Std) : Prop := s.last.length = 32 ∧ s.pref.length = 32
def stdCells (s : Std) : List Value := [.string (strOf s.name), .bool s.byz, .bool s.down, .int .i64 s.phase, .int .i64 s.height] ++ bl s.last ++ bl s.pref
def wordN (n : Nat) : List UInt8 := match n with | 1 => [105, 100, 108, 101] | 2 => [102, 114, 111, 110, 116] | 3 => [102, 101, 116, 99, 104] | 4 => [108, 105, 118, 101] | 5 => [97, 103, 97, 105, 110] | 6 => [111, 102, 102] | _ => [63]
def wordV (n : Int) : List UInt8 := if n < 0 then [63] else wordN n.toNat
def yesV (b : Bool) : List UInt8 := if b then [121, 101, 115] else [110, 111]
def lineV (ws : List (List UInt8)) : List UInt8 := Lib.join ws [32] ++ [10]
def stdWords (s : Std) : List (List UInt8) :=
  if s.byz then [[98, 121, 122], s.name] else [[110, 111, 100, 101], s.name, if s.down then [100, 111, 119, 110] else wordV s.phase, Lib.itoa s.height, (hexOf s.last).take 16, (hexOf s.pref).take 16]
def errWords (i : Nat) (e : Int) : List (List UInt8) := [[109, 111, 118, 101], Lib.itoa ((i : Int) + 1), Lib.itoa e]
def errLine (i : Nat) (e : Int) : List UInt8 := if e = 0 then [] else lineV (errWords i e)
def errsV (i : Nat) : List Int → List UInt8
  | [] => []
  | e :: r => errLine i e ++ errsV (i + 1) r
def standsV (l : List Std) : List UInt8 := l.flatMap fun s => lineV (stdWords s)
def netWords (r : Rep) : List (List UInt8) := [110, 101, 116] :: r.nums.map Lib.itoa
def judgeWords (r : Rep) : List (List UInt8) := [[106, 117, 100, 103, 101, 100], yesV r.agree, yesV r.share, yesV r.noFlip, yesV r.boots]
def textV (r : Rep) : List UInt8 := errsV 0 r.errs ++ standsV r.stands ++ lineV (netWords r) ++ lineV [[102, 97, 99, 116, 115], Lib.itoa r.facts] ++ lineV (judgeWords r)
def I64 (n : Int) : Prop := -9223372036854775808 ≤ n ∧ n ≤ 9223372036854775807
def Std.Fit (s : Std) : Prop := s.OK ∧ s.name.length ≤ 2000000 ∧ I64 s.height ∧ I64 s.phase
structure Rep.Fit (r : Rep) : Prop where
  errs : ∀ e ∈ r.errs, I64 e
  stands : ∀ s ∈ r.stands, s.Fit
  nums : ∀ n ∈ r.nums, I64 n
  facts : I64 r.facts
  many : r.errs.length ≤ 200
  stood : r.stands.length ≤ 100
/-- A report's cells, its two slices aside. -/
def repCells (r : Rep) (ev sv : Value) : Array Value := #[ev, sv, .int .i64 r.sent, .int .i64 r.forged, .int .i64 r.delivered, .int .i64 r.refused, .int .i64 r.lost, .int .i64 r.dropped, .int .i64 r.doubled, .int .i64 r.flight, .int .i64 r.facts, .bool r.agree, .bool r.share, .bool r.noFlip, .bool r.boots]
def stands (l : List Std) : List Value := l.flatMap stdCells
theorem errsV_take (l : List Int) (k i : Nat) (h : i < l.length) : errsV k (l.take (i + 1)) = errsV k (l.take i) ++ errLine (k + i) (l[i]) := by
  induction l generalizing k i with
  | nil => simp at h
  | cons e r ih =>
    cases i with
    | zero => simp [errsV]
    | succ i =>
      have := ih (k + 1) i (by simpa using h)
      simp only [List.take_succ_cons, errsV, List.getElem_cons_succ, List.append_assoc]
      rw [this, Nat.add_right_comm, Nat.add_assoc]
theorem standsV_take (l : List Std) (i : Nat) (h : i < l.length) : standsV (l.take (i + 1)) = standsV (l.take i) ++ lineV (stdWords l[i]) := by
  unfold standsV
  rw [List.take_add_one, List.getElem?_eq_getElem h, List.flatMap_append]
  simp
end Go.Proofs.YtjjopoigbonjbaaGreatDoor.Ho
namespace Go.Proofs.YtjjopoigbonjbaaGreatDoor.Ho
open Go.RowKit
set_option linter.unusedVariables false
set_option linter.unusedSimpArgs false
set_option maxRecDepth 10000
theorem wordV_far {p : Int} (h : p < 0 ∨ 7 ≤ p) : wordV p = [63] := by
  unfold wordV
  split
  · rfl
  · obtain ⟨n, rfl⟩ := Int.eq_ofNat_of_zero_le (show 0 ≤ p by omega)
    unfold wordN
    split <;> first | rfl | (simp at *; omega)
theorem word_any (p : Int) (w : World) : callE Tryz.prog 9 #[.int .i64 p] w fun u w' => u = .string (strOf (wordV p)) ∧ Below w.heap.size w w' := by
  refine calls_E Tryz.func9 rfl rfl rfl (Nat.le_of_ble_eq_true rfl) ?_
  by_cases h0 : p < 0
  · simp [go_sem, IntWalk.iteOmega, IntWalk.toNatUp, h0]
    exact ⟨by rw [wordV_far (.inl h0)]; rfl, ext_alloc w _⟩
  by_cases h7 : 7 ≤ p
  · simp [go_sem, IntWalk.iteOmega, IntWalk.toNatUp, h0, h7]
    exact ⟨by rw [wordV_far (.inr h7)]; rfl, ext_alloc w _⟩
  have hp : p = 0 ∨ p = 1 ∨ p = 2 ∨ p = 3 ∨ p = 4 ∨ p = 5 ∨ p = 6 := by omega
  rcases hp with rfl | rfl | rfl | rfl | rfl | rfl | rfl
  all_goals
    simp [go_sem, IntWalk.iteOmega, IntWalk.toNatUp]
    exact ⟨rfl, ext_alloc w _⟩
theorem rword_any (p : Int) (w : World) : callE Tryz.prog 10 #[.int .i64 p] w fun u w' => u = .string (strOf (wordV p)) ∧ w' = w := by
  refine calls_E Tryz.func10 rfl rfl rfl (Nat.le_of_ble_eq_true rfl) ?_
  by_cases h1 : p = 1
  · subst h1; simp [go_sem, IntWalk.iteOmega, IntWalk.toNatUp]; rfl
  by_cases h2 : p = 2
  · subst h2; simp [go_sem, IntWalk.iteOmega, IntWalk.toNatUp]; rfl
  by_cases h3 : p = 3
  · subst h3; simp [go_sem, IntWalk.iteOmega, IntWalk.toNatUp]; rfl
  by_cases h4 : p = 4
  · subst h4; simp [go_sem, IntWalk.iteOmega, IntWalk.toNatUp]; rfl
  by_cases h5 : p = 5
  · subst h5; simp [go_sem, IntWalk.iteOmega, IntWalk.toNatUp]; rfl
  by_cases h6 : p = 6
  · subst h6; simp [go_sem, IntWalk.iteOmega, IntWalk.toNatUp]; rfl
  have hw : wordV p = [63] := by
    by_cases h : p < 0 ∨ 7 ≤ p
    · exact wordV_far h
    · obtain rfl : p = 0 := by omega
      rfl
  simp [go_sem, IntWalk.iteOmega, IntWalk.toNatUp, beq_eq_false_iff_ne.2 h1, beq_eq_false_iff_ne.2 h2, beq_eq_false_iff_ne.2 h3, beq_eq_false_iff_ne.2 h4, beq_eq_false_iff_ne.2 h5, beq_eq_false_iff_ne.2 h6]
  rw [hw]; rfl
theorem yes_runs (b : Bool) (w : World) : Runs Tryz.prog 16 #[.bool b] w (.string (strOf (yesV b))) w := by
  refine runs_of_callE ?_
  refine calls_E Tryz.func16 rfl rfl rfl (Nat.le_of_ble_eq_true rfl) ?_
  cases b <;> simp [go_sem, IntWalk.iteOmega, IntWalk.toNatUp] <;> rfl
theorem ryes_runs (b : Bool) (w : World) : Runs Tryz.prog 20 #[.bool b] w (.string (strOf (32 :: yesV b))) w := by
  refine runs_of_callE ?_
  refine calls_E Tryz.func20 rfl rfl rfl (Nat.le_of_ble_eq_true rfl) ?_
  cases b <;> simp [go_sem, IntWalk.iteOmega, IntWalk.toNatUp] <;> rfl
/-- The table of tens. -/
abbrev Tens (w : World) : Prop := Lib.TabIs Tryz.prog w "internal/strconv.uint64pow10" .u64 Lib.pow10Tab
theorem number_any (n : Int) (h0 : -9223372036854775808 ≤ n) (h1 : n ≤ 9223372036854775807) (w : World) (ht : Tens w) :
    callE Tryz.prog 14 #[.int .i64 n] w fun u w' => u = .string (strOf (Lib.itoa n)) ∧ Below w.heap.size w w' := by
  refine calls_E Tryz.func14 rfl rfl rfl (Nat.le_of_ble_eq_true rfl) ?_
  simp [go_sem, IntWalk.iteOmega, IntWalk.toNatUp]
  have hc : callE Tryz.prog 41 #[.int .i64 n, .int .i64 10] w fun u w' => u = .string (strOf (Lib.itoa n)) ∧ Below w.heap.size w w' := by
    refine (Tryz.strconv_FormatInt_10 n h0 h1 w ht).mono ?_
    rintro e w' ⟨rfl, k, os, rfl⟩
    exact ⟨_, rfl, rfl, Lib.below_grow _ _ (Nat.le_refl _) _ _⟩
  refine callE_of hc ?_
  rintro _ w1 ⟨rfl, k1⟩
  simp [go_sem, IntWalk.iteOmega, IntWalk.toNatUp]
  exact k1
theorem std_cells (s : Std) (hs : s.OK) : ∃ A : Array Value, (stdCells s).toArray = A ∧ A.size = 69 ∧ A[0]? = some (.string (strOf s.name)) ∧ A[1]? = some (.bool s.byz) ∧ A[2]? = some (.bool s.down) ∧ A[3]? = some (.int .i64 s.phase) ∧ A[4]? = some (.int .i64 s.height) ∧ (A.toList.drop 5).take 32 = bl s.last ∧ (A.toList.drop 37).take 32 = bl s.pref := by
  refine ⟨_, rfl, by simp [stdCells, bl_length, hs.1, hs.2], rfl, rfl, rfl, rfl, rfl, ?_, ?_⟩
  · simp [stdCells, bl_length, hs.1, hs.2]
  · rw [show 37 = 5 + 32 from rfl, ← List.drop_drop]
    show List.take 32 (List.drop 32 (bl s.last ++ bl s.pref)) = _
    rw [List.drop_left' (by rw [bl_length, hs.1]), List.take_of_length_le (by rw [bl_length, hs.2]; omega)]
theorem of_any (s : Std) (w : World) (hs : s.OK) :
    callE Tryz.prog 42 #[.agg (stdCells s).toArray] w fun u w' => u = .int .i64 (if s.byz then 0 else if s.down then 1 else 2) ∧ Below w.heap.size w w' := by
  obtain ⟨A, hA, a, _, c1, c2, _⟩ := std_cells s hs
  rw [hA]
  obtain ⟨_, c1⟩ := Array.getElem?_eq_some_iff.1 c1
  obtain ⟨_, c2⟩ := Array.getElem?_eq_some_iff.1 c2
  refine calls_E Tryz.func42 rfl rfl rfl (Nat.le_of_ble_eq_true rfl) ?_
  cases hb : s.byz <;> cases hd : s.down <;> rw [hb] at c1 <;> rw [hd] at c2 <;> simp [go_sem, IntWalk.iteOmega, IntWalk.toNatUp, a, c1, c2]
  all_goals exact ext_alloc w _
theorem itoa_length (n : Int) (h0 : -9223372036854775808 ≤ n) (h1 : n ≤ 9223372036854775807) : (Lib.itoa n).length ≤ 21 := by
  unfold Lib.itoa
  split
  · rw [List.length_cons, Lib.decDigits_length]
    have := Lib.nDigits_le20 n.natAbs (by omega)
    omega
  · rw [Lib.decDigits_length]
    have := Lib.nDigits_le20 n.toNat (by omega)
    omega
end Go.Proofs.YtjjopoigbonjbaaGreatDoor.Ho
namespace Go.Proofs.YtjjopoigbonjbaaGreatDoor.Ho
open Go.RowKit
set_option linter.unusedVariables false
set_option linter.unusedSimpArgs false
set_option maxRecDepth 10000
theorem Tens.on {w w' : World} (h : Tens w) (hb : Below w.heap.size w w') : Tens w' := by
  exact Lib.tabBelow_of_tabIs h w' hb
theorem strOf_slice16 (l : List UInt8) (h : 16 ≤ l.length) : (strOf l).extract 0 16 = strOf (l.take 16) := strOf_take l 16
def strCs (ws : List (List UInt8)) : List Value := ws.map fun x => .string (strOf x)
theorem line_lit {w : World} {base b : Nat} {xs : List UInt8} (h : LinesAt w base b xs) (ws : List (List UInt8)) {cs : Array Value} (hcs : cs.toList = strCs ws) {n : Nat} (hl : ws.length = n) (hpos : 0 < n) (hn : xs.length + (Lib.join ws [32]).length + 1 ≤ 70368744177664) (hw : n ≤ 1000) :
    callE Tryz.prog 13 #[.pointer (some ⟨b, 0, none⟩), .slice (some ⟨w.heap.size, 0, none⟩) n n] (w.alloc (.cells cs 9)) fun u w' => LinesAt w' base b (xs ++ lineV ws) ∧ Oth base b w w' := by
  subst hl
  have hB := h.1
  have hlt := h.lt
  have hX : Blk (w.alloc (.cells cs 9)) w.heap.size 9 cs := Blk.self_ rfl
  have o1 : Oth base b w (w.alloc (.cells cs 9)) := Oth.of (ext_alloc w _) (by omega)
  refine (line_any (h.on (ext_alloc w _)) ws w.heap.size ws.length hX.lt (fun j x hx => ?_) (Nat.le_refl _) hpos hn hw).mono ?_
  · rw [hX.cell, ← Array.getElem?_toList, hcs]
    simp [strCs, hx]
  · rintro e w' ⟨u, rfl, h1, h2⟩
    exact ⟨u, rfl, by simpa [lineV] using h1, o1.trans h2⟩
theorem join_len : ∀ (ws : List (List UInt8)) (m : Nat), (∀ x ∈ ws, x.length ≤ m) → (Lib.join ws [32]).length ≤ ws.length * (m + 1)
  | [], m, h => by simp [Lib.join, List.intercalate]
  | [x], m, h => by
    have := h x (by simp)
    simp [Lib.join, List.intercalate]; omega
  | x :: y :: r, m, h => by
    have h1 := h x (by simp)
    have h2 := join_len (y :: r) m fun z hz => h z (List.mem_cons_of_mem _ hz)
    have e : Lib.join (x :: y :: r) [32] = x ++ 32 :: Lib.join (y :: r) [32] := by simp [Lib.join, List.intercalate, List.intersperse]
    rw [e, List.length_append, List.length_cons]
    simp only [List.length_cons] at h2 ⊢
    rw [Nat.add_mul]
    omega
theorem part_at {l m : List Value} {o n j : Nat} {v : Value} (h : (l.drop o).take n = m) (hv : m[j]? = some v) : l.toArray[o + j]? = some v := by
  rw [← h, List.getElem?_take] at hv
  split at hv
  · rw [List.getElem?_drop] at hv
    simpa using hv
  · cases hv
theorem wordV_len (p : Int) : (wordV p).length ≤ 5 := by
  unfold wordV
  split
  · decide
  · unfold wordN
    split <;> decide
set_option maxHeartbeats 1600000 in
theorem stand_any {w : World} {base b : Nat} {xs : List UInt8} (h : LinesAt w base b xs) (s : Std) (hs : s.OK) (hname : s.name.length ≤ 2000000) (hph : -9223372036854775808 ≤ s.height ∧ s.height ≤ 9223372036854775807) (hn : xs.length ≤ 10000000000) (ht : Tens w) :
    callE Tryz.prog 15 #[.pointer (some ⟨b, 0, none⟩), .agg (stdCells s).toArray] w fun u w' => LinesAt w' base b (xs ++ lineV (stdWords s)) ∧ Oth base b w w' := by
  obtain ⟨A, hA, a, c0, c1, c2, c3, c4, c5, c6⟩ := std_cells s hs
  have hof := of_any s
  rw [hA] at hof ⊢
  have hB := h.1
  have hlt := h.lt
  refine calls_E Tryz.func15 rfl rfl rfl (Nat.le_of_ble_eq_true rfl) ?_
  simp [go_sem, IntWalk.iteOmega, IntWalk.toNatUp, a]
  obtain ⟨W, hW⟩ : ∃ W, w.alloc (.cells A 60) = W := ⟨_, rfl⟩
  rw [hW]
  have kW : Below w.heap.size w W := by rw [← hW]; exact ext_alloc _ _
  have hX : Blk W w.heap.size 60 A := by rw [← hW]; exact Blk.self_ rfl
  obtain ⟨_, g0⟩ := Array.getElem?_eq_some_iff.1 c0
  obtain ⟨_, g3⟩ := Array.getElem?_eq_some_iff.1 c3
  obtain ⟨_, g4⟩ := Array.getElem?_eq_some_iff.1 c4
  rw [g3]
  refine callE_of (word_any s.phase W) ?_
  rintro _ w1 ⟨rfl, k1⟩
  have hX1 := hX.keep k1
  have r1 : readCells w1 ⟨w.heap.size, 0, none⟩ 0 69 = some A.toList := readCells_all hX1 69 a
  simp [go_sem, IntWalk.iteOmega, IntWalk.toNatUp, r1]
  refine callE_of (hof w1 hs) ?_
  rintro _ w2 ⟨rfl, k2⟩
  have hX2 := hX1.keep k2
  have K2 : Below w.heap.size w w2 := (kW.trans (k1.mono kW.size)).trans (k2.mono (kW.trans (k1.mono kW.size)).size)
  have h2 := h.on K2
  have hE : ∀ {w3 : World}, Oth base b w2 w3 → Oth base b w w3 := fun o => (Oth.of K2 (by omega)).trans o
  have x0 := hX2.cell 0
  rw [c0] at x0
  have hlt2 : w.heap.size < w2.heap.size := hX2.lt
  cases hb : s.byz with
  | true =>
    have hws : stdWords s = [[98, 121, 122], s.name] := by simp [stdWords, hb]
    rw [hws]
    simp [go_sem, IntWalk.iteOmega, IntWalk.toNatUp, x0]
    refine callE_of (line_lit h2 [[98, 121, 122], s.name] rfl rfl (by omega) ?_ (by omega)) ?_
    · have := join_len [[98, 121, 122], s.name] 2000000 (by simp; omega)
      simp at this ⊢; omega
    rintro _ w3 ⟨h3, o3⟩
    simp [go_sem, IntWalk.iteOmega, IntWalk.toNatUp]
    exact ⟨h3, hE o3⟩
  | false =>
    have hws : stdWords s = [[110, 111, 100, 101], s.name, if s.down then [100, 111, 119, 110] else wordV s.phase, Lib.itoa s.height, (hexOf s.last).take 16, (hexOf s.pref).take 16] := by simp [stdWords, hb]
    rw [hws]
    generalize hwd : (if s.down then [100, 111, 119, 110] else wordV s.phase) = wd
    have hwl : wd.length ≤ 5 := by subst hwd; split; decide; exact wordV_len _
    have q5 : readCells w2.drew ⟨w.heap.size, 5, none⟩ 0 32 = some (bl s.last) := readCells_blk hX2.drew 32 5 0 _ (by rw [bl_length, hs.1]) fun j v hv => by
      have := part_at c5 hv
      simpa [Nat.add_comm] using this
    have q6 : readCells w2.drew ⟨w.heap.size, 37, none⟩ 0 32 = some (bl s.pref) := readCells_blk hX2.drew 32 37 0 _ (by rw [bl_length, hs.2]) fun j v hv => by
      have := part_at c6 hv
      simpa [Nat.add_comm] using this
    have x4 := hX2.cell 4
    rw [c4] at x4
    have ht2 : Tens w2 := ht.on K2
    have hl5 : (bl s.last).length = 32 := by rw [bl_length, hs.1]
    have hl6 : (bl s.pref).length = 32 := by rw [bl_length, hs.2]
    have hh5 : (hexOf s.last).length = 64 := by rw [hexOf_length, hs.1]
    have hh6 : (hexOf s.pref).length = 64 := by rw [hexOf_length, hs.2]
    have hjl := join_len [[110, 111, 100, 101], s.name, wd, Lib.itoa s.height, (hexOf s.last).take 16, (hexOf s.pref).take 16] 2000000 (by
      have := itoa_length s.height hph.1 hph.2
      simp; omega)
    have hjl' : (Lib.join [[110, 111, 100, 101], s.name, wd, Lib.itoa s.height, (hexOf s.last).take 16, (hexOf s.pref).take 16] [32]).length ≤ 12000006 := Nat.le_trans hjl (by simp)
    clear hjl
    have e5 : (strOf (hexOf s.last)).extract 0 16 = strOf ((hexOf s.last).take 16) := strOf_take _ _
    have e6 : (strOf (hexOf s.pref)).extract 0 16 = strOf ((hexOf s.pref).take 16) := strOf_take _ _
    cases hd : s.down
    all_goals
      rw [hd] at hwd
      simp only [if_true, if_false, Bool.false_eq_true] at hwd
      subst hwd
      simp [go_sem, IntWalk.iteOmega, IntWalk.toNatUp]
      refine W_flow (fun j => j = w.heap.size) (.pure 0 (.pure 1 (.pure 2 (.pure 3 (.pure 4 (.pure 5 (.pure 7 (.pure 8 (.pure 11 (.pure 12 (.one 6 (.one 9 (.pure 10 (.one 13 (.pure 14 (.one 15 (.one 16 (.done)))))))))))))))))) follows (by kernel_rfl) ?_
      have hr := held_refl (fun j => j = w.heap.size) w2.drew
      have hlt3 : w.heap.size < w2.drew.heap.size := hlt2
      simp [go_sem, IntWalk.iteOmega, IntWalk.toNatUp, x0, x4, q5, q6, hr, hlt3, hlt2, hl5, hl6]
      refine callE_of (number_any s.height hph.1 hph.2 w2.drew (ht2.on (ext_drew _))) ?_
      rintro _ w3 ⟨rfl, k3⟩
      have hr3 := hr.below k3
      simp [go_sem, IntWalk.iteOmega, IntWalk.toNatUp, hr3, hl5, hl6]
      refine callE_of (hex_any s.last w3 hs.1) ?_
      rintro _ w4 ⟨rfl, k4⟩
      have hr4 := hr3.below k4
      rw [show (⟨(hexOf s.last).toArray⟩ : ByteArray) = strOf (hexOf s.last) from rfl]
      simp [go_sem, IntWalk.iteOmega, IntWalk.toNatUp, hr4, hl5, hl6, strOf_size, hh5, e5]
      refine callE_of (hex_any s.pref w4 hs.2) ?_
      rintro _ w5 ⟨rfl, k5⟩
      have hr5 := hr4.below k5
      rw [show (⟨(hexOf s.pref).toArray⟩ : ByteArray) = strOf (hexOf s.pref) from rfl]
      simp [go_sem, IntWalk.iteOmega, IntWalk.toNatUp, hr5, hl5, hl6, strOf_size, hh6, e6]
      have K5 : Below w2.heap.size w2 w5 := ext_trans (ext_trans (ext_trans (ext_drew w2) k3) k4) k5
      have h5 := h2.on K5
      have hX5 := hX2.keep K5
      refine ⟨hr5.alloc _, ?_⟩
      clear hof hr hr3 hr4 q5 q6 r1 x0 x4 hX hX1 c0 c1 c2 c3 c4 c5 c6 g0 g3 g4
      refine callE_of (line_lit h5 [[110, 111, 100, 101], s.name, _, Lib.itoa s.height, (hexOf s.last).take 16, (hexOf s.pref).take 16] rfl rfl (by omega) (by omega) (by omega)) ?_
      rintro _ w6 ⟨h6, o6⟩
      have hX6 := o6.2 w.heap.size _ _ (by omega) (by decide) hX5
      have hr6 : heldE (fun j => j = w.heap.size) w2.drew w6 := ⟨Nat.le_trans K5.size o6.1.size, fun j hj _ => by subst hj; exact hX6.trans hX2.drew.symm⟩
      simp [go_sem, IntWalk.iteOmega, IntWalk.toNatUp, hr6]
      exact ⟨h6, hE ((Oth.of K5 (by omega)).trans o6)⟩
end Go.Proofs.YtjjopoigbonjbaaGreatDoor.Ho
namespace Go.Proofs.YtjjopoigbonjbaaGreatDoor.Ho
open Go.RowKit
set_option linter.unusedVariables false
set_option linter.unusedSimpArgs false
set_option maxRecDepth 10000
theorem errLine_len {i : Nat} {e : Int} (he : I64 e) (hi : i ≤ 1000) : (errLine i e).length ≤ 100 := by
  unfold errLine
  split
  · simp
  · have h := join_len (errWords i e) 21 (by
      have h1 := itoa_length e he.1 he.2
      have h2 := itoa_length ((i : Int) + 1) (by omega) (by omega)
      simp [errWords]; omega)
    simp [lineV, errWords] at h ⊢
    omega
theorem errsV_len : ∀ (l : List Int) (k : Nat), (∀ e ∈ l, I64 e) → k + l.length ≤ 1000 → (errsV k l).length ≤ l.length * 100
  | [], k, _, _ => by simp [errsV]
  | e :: r, k, h, hk => by
    have h1 := errLine_len (i := k) (h e List.mem_cons_self) (by simp at hk; omega)
    have h2 := errsV_len r (k + 1) (fun x hx => h x (List.mem_cons_of_mem _ hx)) (by simp at hk; omega)
    simp [errsV] at h2 ⊢
    omega
theorem stdLine_len {s : Std} (hs : s.Fit) : (lineV (stdWords s)).length ≤ 13000000 := by
  obtain ⟨hok, hn, hh, hp⟩ := hs
  have h := join_len (stdWords s) 2000000 (by
    have h1 := itoa_length s.height hh.1 hh.2
    have h2 := wordV_len s.phase
    have h5 : (hexOf s.last).length = 64 := by rw [hexOf_length, hok.1]
    have h6 : (hexOf s.pref).length = 64 := by rw [hexOf_length, hok.2]
    unfold stdWords
    split
    · simp; omega
    · split <;> simp <;> omega)
  have hl : (stdWords s).length ≤ 6 := by unfold stdWords; split <;> simp
  simp only [lineV, List.length_append, List.length_cons, List.length_nil]
  have : (stdWords s).length * (2000000 + 1) ≤ 6 * (2000000 + 1) := Nat.mul_le_mul_right _ hl
  omega
theorem standsV_len : ∀ (l : List Std), (∀ s ∈ l, s.Fit) → (standsV l).length ≤ l.length * 13000000
  | [], _ => by simp [standsV]
  | s :: r, h => by
    have h1 := stdLine_len (h s List.mem_cons_self)
    have h2 := standsV_len r fun x hx => h x (List.mem_cons_of_mem _ hx)
    simp [standsV] at h2 ⊢
    omega
end Go.Proofs.YtjjopoigbonjbaaGreatDoor.Ho
