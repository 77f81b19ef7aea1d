/-
  Texts joined: HRef, HTxt.
-/
import Derived.Test.YtjjopoigbonjbaaGreatDoorJoin31
namespace Go.Proofs.YtjjopoigbonjbaaGreatDoor.Ho
open Go.RowKit
set_option linter.unusedVariables false
set_option linter.unusedSimpArgs false
set_option maxRecDepth 10000
theorem digits_any : ∀ (n : Nat), n ≤ 18446744073709551615 → ∀ (w : World), callE Tryz.prog 44 #[.int .u64 n] w fun u w' => u = .string (strOf (Lib.decDigits n)) ∧ Below w.heap.size w w' := by
  intro n
  induction n using Nat.strongRecOn with
  | ind n ih =>
    intro hn w
    refine calls_E Tryz.func44 rfl rfl rfl (Nat.le_of_ble_eq_true rfl) ?_
    have q1 : (n : Int).tmod 10 = (n : Int) % 10 := Int.tmod_eq_emod_of_nonneg (by omega)
    have q2 : (n : Int).tdiv 10 = (n : Int) / 10 := Int.tdiv_eq_ediv_of_nonneg (by omega)
    obtain ⟨m, hm⟩ : ∃ m : Nat, (n : Int) / 10 = m := ⟨n / 10, by omega⟩
    have hm2 : m = n / 10 := by omega
    obtain ⟨c, hc⟩ : ∃ c : UInt8, c = UInt8.ofNat (48 + n % 10) := ⟨_, rfl⟩
    have hcn : c.toNat = 48 + n % 10 := by subst hc; simp; omega
    have hwr : IntKind.u8.wrap (IntKind.u64.wrap (48 + (n : Int) % 10)) = (c.toNat : Int) := by
      rw [IntWalk.u64_in _ (by omega), IntWalk.u8_in _ (by omega), hcn]; omega
    have hX : Blk (w.alloc (.cells #[.int .u8 (c.toNat : Int)] 5)) w.heap.size 5 #[.int .u8 (c.toNat : Int)] := Blk.self_ rfl
    have hrd : Rd (w.alloc (.cells #[.int .u8 (c.toNat : Int)] 5)) 1 (some ⟨w.heap.size, 0, none⟩) [c].length (Lib.byteCells [c]) := ⟨rfl, fun _ => ⟨_, 0, rfl, hX.lt, fun j u hu => by rw [hX.cell]; simpa [Lib.byteCells] using hu⟩⟩
    have kA := ext_alloc w (.cells #[.int .u8 (c.toNat : Int)] 5)
    by_cases h : n < 10
    · have h' : (n : Int) < 10 := by omega
      simp [go_sem, IntWalk.iteOmega, IntWalk.toNatUp, q1, q2, hwr]
      refine stringE [c] hrd (by simp) ?_
      simp [go_sem, IntWalk.iteOmega, IntWalk.toNatUp, h']
      refine ⟨?_, kA⟩
      rw [show Lib.decDigits n = [c] by rw [Lib.decDigits, dif_pos h, hc, Nat.mod_eq_of_lt h]]
    · have h' : ¬ (n : Int) < 10 := by omega
      have e : Lib.decDigits n = Lib.decDigits m ++ [c] := by rw [hc, hm2]; conv => lhs; rw [Lib.decDigits, dif_neg h]
      simp [go_sem, IntWalk.iteOmega, IntWalk.toNatUp, q1, q2, hwr]
      refine stringE [c] hrd (by simp) ?_
      have f1 : IntKind.u64.wrap (m : Int) = m := IntWalk.u64_in _ (by omega)
      simp [go_sem, IntWalk.iteOmega, IntWalk.toNatUp, h', q2, hm, f1]
      have hihm := ih m (by omega) (by omega)
      refine callE_of (hihm _) ?_
      rintro _ w2 ⟨rfl, k2⟩
      have l1 := Go.Lib.nDigits_le20 m (by omega)
      have hsz : ¬ 9223372036854775807 < (strOf (Lib.decDigits m)).size + (strOf [c]).size := by rw [strOf_size, strOf_size, Go.Lib.decDigits_length]; simp; omega
      simp [go_sem, IntWalk.iteOmega, IntWalk.toNatUp, hsz, strOf_app]
      exact ⟨by rw [e], ext_trans kA k2⟩
theorem num_any (n : Int) (hn : I64 n) (w : World) : callE Tryz.prog 18 #[.int .i64 n] w fun u w' => u = .string (strOf (Lib.itoa n)) ∧ Below w.heap.size w w' := by
  obtain ⟨h0, h1⟩ := hn
  refine calls_E Tryz.func18 rfl rfl rfl (Nat.le_of_ble_eq_true rfl) ?_
  by_cases hneg : n < 0
  · obtain ⟨m, hm⟩ : ∃ m : Nat, n = -(m : Int) - 1 := ⟨(-n - 1).toNat, by omega⟩
    subst hm
    have f1 : IntKind.i64.wrap (-(m : Int) - 1 + 1) = -(m : Int) := by rw [IntWalk.i64_in _ (by omega)]; omega
    have f2 : IntKind.i64.wrap (-(-(m : Int))) = (m : Int) := by rw [IntWalk.i64_in _ (by omega)]; omega
    have f3 : IntKind.u64.wrap (m : Int) = (m : Int) := IntWalk.u64_in _ (by omega)
    have f4 : IntKind.u64.wrap ((m : Int) + 1) = ((m + 1 : Nat) : Int) := IntWalk.u64_in _ (by omega)
    have hd := digits_any (m + 1) (by omega) w
    have l1 := Go.Lib.nDigits_le20 (m + 1) (by omega)
    have hsz : ¬ 9223372036854775807 < 1 + (strOf (Lib.decDigits (m + 1))).size := by rw [strOf_size, Go.Lib.decDigits_length]; omega
    have hd' : callE Tryz.prog 44 #[.int .u64 ((m : Int) + 1)] w fun u w' => u = .string (strOf (Lib.decDigits (m + 1))) ∧ Below w.heap.size w w' := by
      rw [show (m : Int) + 1 = ((m + 1 : Nat) : Int) by omega]; exact hd
    simp [go_sem, IntWalk.iteOmega, IntWalk.toNatUp, hneg, f1, f2, f3, f4]
    refine callE_of hd' ?_
    rintro _ w1 ⟨rfl, k1⟩
    rw [show (⟨#[45]⟩ : ByteArray) = strOf [45] from rfl]
    have hsz' : ¬ 9223372036854775807 < (strOf [45]).size + (strOf (Lib.decDigits (m + 1))).size := hsz
    simp [go_sem, IntWalk.iteOmega, IntWalk.toNatUp, hsz', strOf_app]
    refine ⟨?_, k1⟩
    unfold Lib.itoa
    rw [if_pos hneg, show (-(m : Int) - 1).natAbs = m + 1 by omega]
  · obtain ⟨m, rfl⟩ := Int.eq_ofNat_of_zero_le (show 0 ≤ n by omega)
    have f3 : IntKind.u64.wrap (m : Int) = (m : Int) := IntWalk.u64_in _ (by omega)
    simp [go_sem, IntWalk.iteOmega, IntWalk.toNatUp, hneg, f3]
    refine callE_of (digits_any m (by omega) w) ?_
    rintro _ w1 ⟨rfl, k1⟩
    simp [go_sem, IntWalk.iteOmega, IntWalk.toNatUp]
    exact ⟨by unfold Lib.itoa; rw [if_neg hneg]; rfl, k1⟩
theorem short_any (T : List UInt8) (w : World) (hT : T.length = 32) :
    callE Tryz.prog 19 #[.agg (bl T).toArray] w fun u w' => u = .string (strOf ((hexOf T).take 16)) ∧ Below w.heap.size w w' := by
  have x5 : (bl T).length = 32 := by rw [bl_length, hT]
  have hh : (hexOf T).length = 64 := by rw [hexOf_length, hT]
  have e5 : (strOf (hexOf T)).extract 0 16 = strOf ((hexOf T).take 16) := strOf_take _ _
  refine calls_E Tryz.func19 rfl rfl rfl (Nat.le_of_ble_eq_true rfl) ?_
  simp [go_sem, IntWalk.iteOmega, IntWalk.toNatUp, x5]
  have hX : Blk (w.alloc (.cells (bl T).toArray 58)) w.heap.size 58 (bl T).toArray := Blk.self_ rfl
  have x0 := readCells_all hX 32 (by simpa using x5)
  simp [go_sem, IntWalk.iteOmega, IntWalk.toNatUp, x5, x0]
  refine callE_of (refHex_any T _ hT) ?_
  rintro _ w1 ⟨rfl, k1⟩
  rw [show (⟨(hexOf T).toArray⟩ : ByteArray) = strOf (hexOf T) from rfl]
  simp [go_sem, IntWalk.iteOmega, IntWalk.toNatUp, strOf_size, hh, e5]
  exact ext_trans (ext_alloc w _) k1
end Go.Proofs.YtjjopoigbonjbaaGreatDoor.Ho
namespace Go.Proofs.YtjjopoigbonjbaaGreatDoor.Ho
open Go.RowKit
set_option linter.unusedVariables false
set_option linter.unusedSimpArgs false
set_option maxRecDepth 10000
theorem stands_at : ∀ (l : List Std), (∀ s ∈ l, s.OK) → ∀ (i : Nat) (h : i < l.length) (j : Nat), j < 69 → (stands l)[i * 69 + j]? = (stdCells l[i])[j]?
  | [], _, i, h, _, _ => by simp at h
  | s :: r, hs, 0, h, j, hj => by
    have hl : (stdCells s).length = 69 := by have := hs s List.mem_cons_self; simp [stdCells, bl_length, this.1, this.2]
    show (stdCells s ++ stands r)[0 * 69 + j]? = _
    rw [Nat.zero_mul, Nat.zero_add, List.getElem?_append_left (by omega)]
    rfl
  | s :: r, hs, i + 1, h, j, hj => by
    have hl : (stdCells s).length = 69 := by have := hs s List.mem_cons_self; simp [stdCells, bl_length, this.1, this.2]
    show (stdCells s ++ stands r)[(i + 1) * 69 + j]? = _
    rw [List.getElem?_append_right (by omega), show (i + 1) * 69 + j - (stdCells s).length = i * 69 + j by omega]
    exact stands_at r (fun x hx => hs x (List.mem_cons_of_mem _ hx)) i (by simpa using h) j hj
theorem readCells_cells {w : World} {b o : Nat} : ∀ (n i : Nat) (l : List Value), l.length = n → (∀ j v, l[j]? = some v → w.cell? ⟨b, o + i + j, none⟩ = some v) → readCells w ⟨b, o, none⟩ i n = some l := by
  intro n
  induction n with
  | zero => intro i l hl _; rw [List.length_eq_zero_iff.1 hl]; rfl
  | succ n ih =>
    intro i l hl h
    rcases l with _ | ⟨v, l⟩
    · simp at hl
    · have h0 := h 0 v rfl
      have h1 := ih (i + 1) l (by simpa using hl) (fun j u hj => by have := h (j + 1) u (by simpa using hj); rw [show o + (i + 1) + j = o + i + (j + 1) by omega]; exact this)
      simp only [readCells, add_none, h1]
      rw [show o + i = o + i + 0 from rfl, h0]
      rfl
theorem stand_cells {r : Rep} (hr : r.Fit) {i : Nat} (hlt : i < r.stands.length) {w wr : World} {b o : Nat} (hc : ∀ (j : Nat) (u : Value), (stands r.stands)[j]? = some u → w.cell? ⟨b, o + j, none⟩ = some u) {B : Nat} (kB : Below B w wr) (hb : b < B) :
    readCells wr ⟨b, o + i * 69, none⟩ 0 69 = some (stdCells r.stands[i]) := by
  have hok : ∀ s ∈ r.stands, s.OK := fun s hs => (hr.stands s hs).1
  have hl : (stdCells r.stands[i]).length = 69 := by have := hok _ (List.getElem_mem hlt); simp [stdCells, bl_length, this.1, this.2]
  refine readCells_cells 69 0 _ hl fun j v hv => ?_
  have hj : j < 69 := by
    rw [← hl]
    exact (List.getElem?_eq_some_iff.1 hv).1
  have := hc (i * 69 + j) v (by rw [stands_at _ hok i hlt j hj]; exact hv)
  rw [kB.cell (p := ⟨b, _, none⟩) hb]
  rw [← this]
  congr 2
  omega
theorem std_len {s : Std} (h : s.OK) : (stdCells s).length = 69 := by simp [stdCells, bl_length, h.1, h.2]
theorem allOne_app : ∀ (a b : List Value), allOne a = true → allOne b = true → allOne (a ++ b) = true
  | [], b, _, h => h
  | x :: a, b, h, k => by
    have h' : (x.oneCell' && allOne a) = true := h
    rw [Bool.and_eq_true] at h'
    show (x.oneCell' && allOne (a ++ b)) = true
    rw [h'.1, allOne_app a b h'.2 k]; rfl
theorem std_one (s : Std) : allOne (stdCells s) = true := by
  unfold stdCells
  exact allOne_app _ _ (allOne_app _ _ rfl (Go.Proofs.YtjjopoigbonjbaaGreatDoor.bl_one _)) (Go.Proofs.YtjjopoigbonjbaaGreatDoor.bl_one _)
/-- All but rows of words is as it was. -/
def Wrd (w w' : World) : Prop := w.heap.size ≤ w'.heap.size ∧ ∀ g t cs, t ≠ 9 → Blk w g t cs → Blk w' g t cs
theorem Wrd.of {w w' : World} (k : Below w.heap.size w w') : Wrd w w' := ⟨k.size, fun g t cs _ h => h.keep k⟩
theorem Wrd.lines {w w' : World} {base b : Nat} {xs : List UInt8} (k : Wrd w w') (h : LinesAt w base b xs) : LinesAt w' base b xs := by
  obtain ⟨hB, p, v, hb, hp, hown⟩ := h
  exact ⟨hB, p, v, k.2 _ _ _ (by decide) hb, hp, own_far hown fun j cs hj => (k.2 j 5 cs (by decide) hj).trans hj.symm⟩
theorem wordE {w1 : World} {base n : Nat} {v : Value} {ws : List (List UInt8)} (t : List UInt8) {k : Kont} (own : w1.ownsRow base 9 1 v n (strCs ws)) (hb : base ≤ w1.heap.size) (hn : n ≤ 1000)
    (hk : ∀ v3 w3, w3.ownsRow base 9 1 v3 (n + 1) (strCs (ws ++ [t])) → Below base w1 w3 → Wrd w1 w3 → k v3 w3) :
    resE Tryz.prog (appendR Tryz.prog 69 69 69 v (.slice (some ⟨w1.heap.size, 0, none⟩) 1 1) (w1.alloc (.cells #[.string (strOf t)] 9))) k := by
  have hX : Blk (w1.alloc (.cells #[.string (strOf t)] 9)) w1.heap.size 9 #[.string (strOf t)] := Blk.self_ rfl
  have own1 := row_below own (ext_alloc w1 (.cells #[.string (strOf t)] 9))
  have kA := ext_alloc w1 (.cells #[.string (strOf t)] 9)
  refine appendE base 9 1 16 Tryz.underlying69 el9 own1 (m := 1) (news := [.string (strOf t)]) ⟨rfl, fun _ => ⟨_, 0, rfl, hX.lt, fun j u hu => by rw [hX.cell]; simpa using hu⟩⟩ rfl (by unfold maxLen; omega) (by omega) (Nat.le_trans hb kA.size) ?_
  intro v' w' hown' hgr _
  refine hk v' w' (by simpa [strCs] using hown') ((kA.mono hb).grown hgr (Nat.le_trans hb kA.size) fun j hj => (own1.lt j hj).1) ⟨Nat.le_trans kA.size hgr.size, fun g T cs ht h => ?_⟩
  have h1 := h.more (.cells #[.string (strOf t)] 9)
  exact (hgr.block g h1.lt fun e => row_ne own1 h1 (fun e' => ht e'.symm) e.symm).trans h1
theorem own_slice {w : World} {base e n : Nat} {v : Value} {xs : List Value} (h : w.ownsRow base e 1 v n xs) (hn : 0 < n) : ∃ g c, v = .slice (some ⟨g, 0, none⟩) n c ∧ n ≤ c ∧ base ≤ g ∧ g < w.heap.size ∧ ∀ j u, xs[j]? = some u → w.cell? ⟨g, 0 + j, none⟩ = some u := by
  rcases h.2 with ⟨_, h0⟩ | ⟨g, cap, cur, rfl, hb, hg, hnc, _⟩
  · omega
  · refine ⟨g, cap, rfl, hnc, hb, (Array.getElem?_eq_some_iff.1 hg).1, fun j u hu => ?_⟩
    have := h.cells (g := g) rfl j u hu
    rwa [add_none] at this
theorem noinit_yes : Tryz.prog.inits.idxOf? 16 = none := by kernel_rfl
theorem yesE (b : Bool) (w : World) (k : Kont) : callE Tryz.prog 16 #[.bool b] w k = k (.string (strOf (yesV b))) w := callE_eq noinit_yes (yes_runs b w) k
set_option maxHeartbeats 3200000 in
theorem text_any (r : Rep) (hr : r.Fit) (ev sv : Value) (w : World) (hev : Sl w 1 ev r.errs.length (r.errs.map (.int .i64))) (hsv : Sl w 69 sv r.stands.length (stands r.stands)) (ht : Tens w) :
    callE Tryz.prog 5 #[.agg (repCells r ev sv)] w fun u w' => u = .string (strOf (textV r)) ∧ Below w.heap.size w w' := by
  obtain ⟨EA, ec, rfl, hrd, hEA, hec, hec2⟩ := hev
  obtain ⟨SA, sc, rfl, hsd, hSA, hsc, hsc2⟩ := hsv
  refine calls_E Tryz.func5 rfl rfl rfl (Nat.le_of_ble_eq_true rfl) ?_
  unfold repCells
  simp [go_sem, IntWalk.iteOmega, IntWalk.toNatUp]
  generalize hRc : (#[Value.slice EA r.errs.length ec, .slice SA r.stands.length sc, .int .i64 r.sent, .int .i64 r.forged, .int .i64 r.delivered, .int .i64 r.refused, .int .i64 r.lost, .int .i64 r.dropped, .int .i64 r.doubled, .int .i64 r.flight, .int .i64 r.facts, .bool r.agree, .bool r.share, .bool r.noFlip, .bool r.boots] : Array Value) = R
  obtain ⟨W, hW⟩ : ∃ W, (w.alloc (.cells R 27)).alloc (.cells #[.pointer none, .slice none 0 0] 65) = W := ⟨_, rfl⟩
  rw [hW]
  obtain ⟨b0, b1, kW, sW⟩ := news2 hW.symm
  have hl0 : LinesAt W w.heap.size (w.heap.size + 1) [] := ⟨by omega, none, .slice none 0 0, b1, .inl rfl, World.ownsRow_nil _ _ _ _⟩
  have hr0 := hr.errs
  refine W_loop (fun s wr => ∃ i : Nat, i ≤ r.errs.length ∧ s 1 = .pointer (some ⟨w.heap.size, 0, none⟩) ∧ s 3 = .pointer (some ⟨w.heap.size + 1, 0, none⟩) ∧ s 13 = .slice EA r.errs.length ec ∧ s 14 = .int .i64 r.errs.length ∧ s 15 = .int .i64 i ∧ LinesAt wr w.heap.size (w.heap.size + 1) (errsV 0 (r.errs.take i)) ∧ Oth w.heap.size (w.heap.size + 1) W wr) (fun s _ => r.errs.length - (intOf (s 15)).toNat) ?_ ?_
  · exact ⟨0, by omega, by simp [go_sem], by simp [go_sem], by simp [go_sem], by simp [go_sem], by simp [go_sem], by simpa [errsV] using hl0, Oth.refl _⟩
  · rintro s wr ⟨i, hi, e1, e3, e13, e14, e15, hL, hO⟩
    have kB : Below w.heap.size w wr := kW.trans hO.1
    by_cases hlt : i < r.errs.length
    · have hlt' : (i : Int) < r.errs.length := by omega
      obtain ⟨b, o, rfl, hb, hc⟩ := hrd.cells (by omega)
      have x0 := hc i (.int .i64 (r.errs[i])) (by simp [List.getElem?_eq_getElem hlt])
      rw [← kB.cell (p := ⟨b, o + i, none⟩) hb] at x0
      have hb2 : b < wr.heap.size := by have := kB.size; omega
      have hI := hr0 _ (List.getElem_mem hlt)
      have htk := errsV_take r.errs 0 i hlt
      rw [Nat.zero_add] at htk
      have hll := errsV_len (r.errs.take i) 0 (fun e he => hr0 e (List.mem_of_mem_take he)) (by have := hr.many; simp; omega)
      have hl2 := errLine_len (i := i) hI (by have := hr.many; omega)
      generalize r.errs[i] = E at *
      by_cases hE : E = 0
      · have hE' : (E != 0) = false := by simp [hE]
        simp [go_sem, IntWalk.iteOmega, IntWalk.toNatUp, e1, e3, e13, e14, e15, hlt', hlt, x0, hb2, hE']
        refine roundEnd.mk ⟨i + 1, by omega, by simp [go_sem, e1], by simp [go_sem, e3], by simp [go_sem, e13], by simp [go_sem, e14], by simp [go_sem], ?_, hO⟩ ?_
        · rw [htk, hE]
          simpa [errLine] using hL
        · simp [go_sem, intOf]; omega
      · have hE' : (E != 0) = true := by simp [hE]
        have hm := hr.many
        have hi1 : I64 ((i : Int) + 1) := ⟨by omega, by omega⟩
        simp [go_sem, IntWalk.iteOmega, IntWalk.toNatUp, e1, e3, e13, e14, e15, hlt', hlt, x0, hb2, hE', hi1.2]
        refine callE_of (number_any ((i : Int) + 1) hi1.1 hi1.2 wr (ht.on kB)) ?_
        rintro _ w1 ⟨rfl, k1⟩
        simp [go_sem, IntWalk.iteOmega, IntWalk.toNatUp]
        refine callE_of (number_any E hI.1 hI.2 w1 (ht.on (ext_trans kB k1))) ?_
        rintro _ w2 ⟨rfl, k2⟩
        simp [go_sem, IntWalk.iteOmega, IntWalk.toNatUp, e3]
        have K2 := k1.trans (k2.mono k1.size)
        have hlen : (lineV (errWords i E)).length ≤ 100 := by simpa [errLine, hE] using hl2
        refine callE_of (line_lit (hL.on K2) (errWords i E) rfl rfl (by omega) (by simp [lineV] at hlen; simp at hll; omega) (by omega)) ?_
        rintro _ w3 ⟨h3, o3⟩
        have hB3 := kB.size
        have sW' := sW
        simp [go_sem, IntWalk.iteOmega, IntWalk.toNatUp, e1, e3, e13, e14, e15]
        refine roundEnd.mk ⟨i + 1, by omega, by simp [go_sem, e1], by simp [go_sem, e3], by simp [go_sem, e13], by simp [go_sem, e14], by simp [go_sem], ?_, (hO.trans (Oth.of K2 (by omega))).trans o3⟩ ?_
        · rw [htk]
          simpa [errLine, hE] using h3
        · simp [go_sem, intOf]; omega
    · obtain rfl : i = r.errs.length := by omega
      rw [List.take_length] at hL
      have hX : Blk wr w.heap.size 27 R := hO.2 _ _ _ (by omega) (by decide) b0
      have x1 : wr.cell? ⟨w.heap.size, 1, none⟩ = some (.slice SA r.stands.length sc) := by rw [hX.cell 1, ← hRc]; rfl
      simp [go_sem, IntWalk.iteOmega, IntWalk.toNatUp, e1, e3, e13, e14, e15, x1]
      clear e13 e14 e15 hrd hEA hec hec2 hr0 x1
      have hW1 := hO
      clear hO hi hlt kB
      have hbase : (errsV 0 r.errs).length ≤ 20000 := by
        have := errsV_len r.errs 0 hr.errs (by have := hr.many; omega)
        have := hr.many
        omega
      generalize hXe : errsV 0 r.errs = XS at *
      refine W_loop (fun s wr => ∃ i : Nat, i ≤ r.stands.length ∧ s 1 = .pointer (some ⟨w.heap.size, 0, none⟩) ∧ s 3 = .pointer (some ⟨w.heap.size + 1, 0, none⟩) ∧ s 31 = .slice SA r.stands.length sc ∧ s 32 = .int .i64 r.stands.length ∧ s 33 = .int .i64 i ∧ LinesAt wr w.heap.size (w.heap.size + 1) (XS ++ standsV (r.stands.take i)) ∧ Oth w.heap.size (w.heap.size + 1) W wr) (fun s _ => r.stands.length - (intOf (s 33)).toNat) ?_ ?_
      · exact ⟨0, by omega, by simp [go_sem, e1], by simp [go_sem, e3], by simp [go_sem], by simp [go_sem], by simp [go_sem], by simpa [standsV] using hL, hW1⟩
      · clear hL hW1 hX
        rintro s wr ⟨i, hi, e1, e3, e31, e32, e33, hL, hO⟩
        have kB : Below w.heap.size w wr := kW.trans hO.1
        by_cases hlt : i < r.stands.length
        · have hlt' : (i : Int) < r.stands.length := by omega
          obtain ⟨b, o, rfl, hb, hc⟩ := hsd.cells (by omega)
          have hF := hr.stands _ (List.getElem_mem hlt)
          have x0 := stand_cells hr hlt hc kB hb
          have hb2 : b < wr.heap.size := by have := kB.size; omega
          have htk := standsV_take r.stands i hlt
          have hll := standsV_len (r.stands.take i) (fun e he => hr.stands e (List.mem_of_mem_take he))
          generalize r.stands[i] = E at *
          have hl69 : (stdCells E).length = 69 := std_len hF.1
          have hone := std_one E
          have hzs : (Tryz.zeroCells60).size = 69 := by kernel_rfl
          have y2 : ∀ (k : Array Value) (t : TypeId), k.size = 69 → canWrite (wr.alloc (.cells k t)) ⟨wr.heap.size, 0, none⟩ 0 69 = true := fun k t hk => canWrite_all (Blk.self_ rfl) 69 hk
          have y3 : ∀ (k : Array Value) (t : TypeId), k.size = 69 → storeSeg (wr.alloc (.cells k t)) ⟨wr.heap.size, 0, none⟩ 0 (stdCells E) = (wr.alloc (.cells k t)).setRow wr.heap.size (stdCells E).toArray := fun k t hk => storeSeg_all (Blk.self_ rfl) _ (by rw [hk, hl69])
          have hself : ∀ k : Array Value, Blk ((wr.alloc (.cells k 60)).setRow wr.heap.size (stdCells E).toArray) wr.heap.size 60 (stdCells E).toArray := fun k => Blk_setRow (Blk.self_ rfl)
          have r3 : ∀ k : Array Value, readCells ((wr.alloc (.cells k 60)).setRow wr.heap.size (stdCells E).toArray) ⟨wr.heap.size, 0, none⟩ 0 69 = some (stdCells E) := fun k => readCells_all (hself k) 69 (by simpa using hl69)
          simp [go_sem, IntWalk.iteOmega, IntWalk.toNatUp, e1, e3, e31, e32, e33, hlt', hlt, x0, hb2, hl69, hone, y2, y3, hzs, r3]
          rw [setRow_new]
          have kA := ext_alloc wr (.cells (stdCells E).toArray 60)
          have hs32 := hr.stood
          refine callE_of (stand_any (hL.on kA) E hF.1 hF.2.1 hF.2.2.1 (by simp at hll ⊢; omega) (ht.on (ext_trans kB kA))) ?_
          rintro _ w3 ⟨h3, o3⟩
          have hB3 := kB.size
          simp [go_sem, IntWalk.iteOmega, IntWalk.toNatUp, e1, e3, e31, e32, e33]
          refine roundEnd.mk ⟨i + 1, by omega, by simp [go_sem, e1], by simp [go_sem, e3], by simp [go_sem, e31], by simp [go_sem, e32], by simp [go_sem], ?_, (hO.trans (Oth.of kA (by omega))).trans o3⟩ ?_
          · rw [htk]
            simpa using h3
          · simp [go_sem, intOf]; omega
        · obtain rfl : i = r.stands.length := by omega
          rw [List.take_length] at hL
          have hX : Blk wr w.heap.size 27 R := hO.2 _ _ _ (by omega) (by decide) b0
          have hsl := standsV_len r.stands hr.stands
          have hs32 := hr.stood
          have hXS : (XS ++ standsV r.stands).length ≤ 2000000000 := by simp; omega
          have htx : textV r = (XS ++ standsV r.stands) ++ lineV (netWords r) ++ lineV [[102, 97, 99, 116, 115], Lib.itoa r.facts] ++ lineV (judgeWords r) := by rw [← hXe]; rfl
          rw [htx]
          generalize XS ++ standsV r.stands = YS at *
          have x2 : wr.cell? ⟨w.heap.size, 2, none⟩ = some (.int .i64 r.sent) := by rw [hX.cell, ← hRc]; rfl
          have x3 : wr.cell? ⟨w.heap.size, 3, none⟩ = some (.int .i64 r.forged) := by rw [hX.cell, ← hRc]; rfl
          have x4 : wr.cell? ⟨w.heap.size, 4, none⟩ = some (.int .i64 r.delivered) := by rw [hX.cell, ← hRc]; rfl
          have x5 : wr.cell? ⟨w.heap.size, 5, none⟩ = some (.int .i64 r.refused) := by rw [hX.cell, ← hRc]; rfl
          have x6 : wr.cell? ⟨w.heap.size, 6, none⟩ = some (.int .i64 r.lost) := by rw [hX.cell, ← hRc]; rfl
          have x7 : wr.cell? ⟨w.heap.size, 7, none⟩ = some (.int .i64 r.dropped) := by rw [hX.cell, ← hRc]; rfl
          have x8 : wr.cell? ⟨w.heap.size, 8, none⟩ = some (.int .i64 r.doubled) := by rw [hX.cell, ← hRc]; rfl
          have x9 : wr.cell? ⟨w.heap.size, 9, none⟩ = some (.int .i64 r.flight) := by rw [hX.cell, ← hRc]; rfl
          have hltw := hX.lt
          have x9' : ∀ o1 o2, ((wr.alloc o1).alloc o2).cell? ⟨w.heap.size, 9, none⟩ = some (.int .i64 r.flight) := fun o1 o2 => by rw [((hX.more o1).more o2).cell, ← hRc]; rfl
          simp [go_sem, IntWalk.iteOmega, IntWalk.toNatUp, e1, e3, e31, e32, e33, x2, x3, x4, x5, x6, x7, x8, x9']
          clear x2 x3 x4 x5 x6 x7 x8 x9 x9' e31 e32 e33 hsd hSA hsc hsc2 hsl hs32 hXe htx
          generalize hC0 : (#[Value.int .i64 r.sent, .int .i64 r.forged, .int .i64 r.delivered, .int .i64 r.refused, .int .i64 r.lost, .int .i64 r.dropped, .int .i64 r.doubled] : Array Value) = C0
          generalize hC2 : (#[Value.int .i64 r.sent, .int .i64 r.forged, .int .i64 r.delivered, .int .i64 r.refused, .int .i64 r.lost, .int .i64 r.dropped, .int .i64 r.doubled, .int .i64 r.flight] : Array Value) = C2
          obtain ⟨W3, hW3⟩ : ∃ W3, ((wr.alloc (.cells C0 25)).alloc (.cells #[.string ⟨#[110, 101, 116]⟩] 9)).alloc (.cells C2 2) = W3 := ⟨_, rfl⟩
          rw [hW3]
          obtain ⟨n0, n1, n2, kW3, sW3⟩ := news3 hW3.symm
          have ow : W3.ownsRow wr.heap.size 9 1 (.slice (some ⟨wr.heap.size + 1, 0, none⟩) 1 1) (0 + 1) (strCs ([110, 101, 116] :: (r.nums.take 0).map Lib.itoa)) :=
            ⟨rfl, .inr ⟨wr.heap.size + 1, 1, _, rfl, by omega, n1, Nat.le_refl _, by unfold maxLen; omega, by simp, rfl⟩⟩
          have hL3 := hL.on kW3
          have hX3 := hX.keep kW3
          have kB3 : Below w.heap.size w W3 := kB.trans (kW3.mono kB.size)
          have hnums : r.nums.length = 8 := rfl
          have hCn : C2.toList = r.nums.map (.int .i64) := by rw [← hC2]; rfl
          have hrn := hr.nums
          have hnl : (lineV (netWords r)).length ≤ 1000 := by
            have h := join_len (netWords r) 21 (by
              intro x hx
              simp only [netWords, List.mem_cons, List.mem_map] at hx
              rcases hx with rfl | ⟨n, hn, rfl⟩
              · simp
              · exact itoa_length n (hrn n hn).1 (hrn n hn).2)
            have h2 : (netWords r).length = 9 := rfl
            rw [h2] at h
            simp [lineV]; omega
          clear hC0 hC2 hL hX n0 n1 hW3
          refine W_loop (fun s w4 => ∃ (i : Nat) (v : Value), i ≤ 8 ∧ s 1 = .pointer (some ⟨w.heap.size, 0, none⟩) ∧ s 3 = .pointer (some ⟨w.heap.size + 1, 0, none⟩) ∧ s 9 = v ∧ s 59 = .slice (some ⟨wr.heap.size + 1 + 1, 0, none⟩) 8 8 ∧ s 60 = .int .i64 8 ∧ s 61 = .int .i64 i ∧ LinesAt w4 w.heap.size (w.heap.size + 1) YS ∧
            w4.ownsRow wr.heap.size 9 1 v (i + 1) (strCs ([110, 101, 116] :: (r.nums.take i).map Lib.itoa)) ∧ Blk w4 (wr.heap.size + 1 + 1) 2 C2 ∧ Blk w4 w.heap.size 27 R ∧ Below w.heap.size w w4 ∧ wr.heap.size + 3 ≤ w4.heap.size) (fun s _ => 8 - (intOf (s 61)).toNat) ?_ ?_
          · exact ⟨0, _, by omega, by simp [go_sem, e1], by simp [go_sem, e3], by simp [go_sem], by simp [go_sem], by simp [go_sem], by simp [go_sem], hL3, ow, n2, hX3, kB3, by omega⟩
          · clear e1 e3 hL3 ow n2 hX3 kB3 kW3 sW3
            rintro s w4 ⟨i, v, hi, e1, e3, e9, e59, e60, e61, hL, ow, hN, hX, kB4, s4⟩
            by_cases hlt : i < 8
            · have hlt' : (i : Int) < 8 := by omega
              have hI := hrn _ (List.getElem_mem (show i < r.nums.length by omega))
              have x0 : w4.cell? ⟨wr.heap.size + 1 + 1, i, none⟩ = some (.int .i64 (r.nums[i])) := by
                rw [hN.cell, ← Array.getElem?_toList, hCn, List.getElem?_map, List.getElem?_eq_getElem (by omega)]; rfl
              have htk : (r.nums.take (i + 1)).map Lib.itoa = (r.nums.take i).map Lib.itoa ++ [Lib.itoa r.nums[i]] := by
                rw [List.take_add_one, List.getElem?_eq_getElem (by omega), List.map_append]; rfl
              generalize r.nums[i] = E at *
              have hb2 := hN.lt
              simp [go_sem, IntWalk.iteOmega, IntWalk.toNatUp, e1, e3, e9, e59, e60, e61, hlt', hlt, x0, hb2]
              refine callE_of (number_any E hI.1 hI.2 w4 (ht.on kB4)) ?_
              rintro _ w5 ⟨rfl, k5⟩
              simp [go_sem, IntWalk.iteOmega, IntWalk.toNatUp]
              refine wordE (Lib.itoa E) (row_below ow k5) (Nat.le_trans (by omega) k5.size) (by omega) ?_
              intro v6 w6 ow6 k6 z6
              have k46 : Wrd w4 w6 := ⟨Nat.le_trans k5.size z6.1, fun g t cs ht h => z6.2 g t cs ht (h.keep k5)⟩
              simp [go_sem, IntWalk.iteOmega, IntWalk.toNatUp, e61]
              refine roundEnd.mk ⟨i + 1, v6, by omega, by simp [go_sem, e1], by simp [go_sem, e3], by simp [go_sem], by simp [go_sem, e59], by simp [go_sem, e60], by simp [go_sem], k46.lines hL, ?_, k46.2 _ _ _ (by decide) hN, k46.2 _ _ _ (by decide) hX, (ext_trans kB4 k5).trans (k6.mono (by omega)), by have := k46.1; omega⟩ ?_
              · rw [htk]
                simpa using ow6
              · simp [go_sem, intOf]; omega
            · obtain rfl : i = 8 := by omega
              rw [show r.nums.take 8 = r.nums from rfl] at ow
              obtain ⟨g, c, rfl, hgc, hgb, hgl, hgx⟩ := own_slice ow (by omega)
              simp [go_sem, IntWalk.iteOmega, IntWalk.toNatUp, e1, e3, e9, e59, e60, e61]
              have hnw : netWords r = [110, 101, 116] :: r.nums.map Lib.itoa := rfl
              have hnl2 : (Lib.join (netWords r) [32]).length + 1 ≤ 1000 := by simpa [lineV] using hnl
              have hlw : (netWords r).length = 9 := rfl
              refine callE_of (line_any hL (netWords r) g c hgl (fun j x hx => by
                have := hgx j (.string (strOf x)) (by rw [← hnw]; simp only [strCs, List.getElem?_map, hx]; rfl)
                rwa [Nat.zero_add] at this) (by omega) (by omega) (by omega) (by omega)) ?_
              rintro _ w5 ⟨h5, o5⟩
              have hX5 := o5.2 _ _ _ (by omega) (by decide) hX
              have x10 : w5.cell? ⟨w.heap.size, 10, none⟩ = some (.int .i64 r.facts) := by rw [hX5.cell, ← hRc]; rfl
              have x11 : w5.cell? ⟨w.heap.size, 11, none⟩ = some (.bool r.agree) := by rw [hX5.cell, ← hRc]; rfl
              have x12 : w5.cell? ⟨w.heap.size, 12, none⟩ = some (.bool r.share) := by rw [hX5.cell, ← hRc]; rfl
              have x13 : w5.cell? ⟨w.heap.size, 13, none⟩ = some (.bool r.noFlip) := by rw [hX5.cell, ← hRc]; rfl
              have x14 : w5.cell? ⟨w.heap.size, 14, none⟩ = some (.bool r.boots) := by rw [hX5.cell, ← hRc]; rfl
              simp [go_sem, IntWalk.iteOmega, IntWalk.toNatUp, e1, e3, x10]
              have k5 : Below w.heap.size w w5 := kB4.trans o5.1
              refine callE_of (number_any r.facts hr.facts.1 hr.facts.2 w5 (ht.on k5)) ?_
              rintro _ w6 ⟨rfl, k6⟩
              simp [go_sem, IntWalk.iteOmega, IntWalk.toNatUp, e1, e3]
              have hfl := itoa_length r.facts hr.facts.1 hr.facts.2
              have hfj := join_len [[102, 97, 99, 116, 115], Lib.itoa r.facts] 21 (by simp; omega)
              have hfj' : (Lib.join [[102, 97, 99, 116, 115], Lib.itoa r.facts] [32]).length ≤ 44 := Nat.le_trans hfj (by simp)
              refine callE_of (line_lit (h5.on k6) [[102, 97, 99, 116, 115], Lib.itoa r.facts] rfl rfl (by omega) (by simp at hnl2 ⊢; omega) (by omega)) ?_
              rintro _ w7 ⟨h7, o7⟩
              have hX7 := o7.2 _ _ _ (by omega) (by decide) (hX5.keep k6)
              simp [go_sem, IntWalk.iteOmega, IntWalk.toNatUp, e1, e3]
              have k7 : Below w.heap.size w w7 := (ext_trans k5 k6).trans o7.1
              have y11 : w7.drew.cell? ⟨w.heap.size, 11, none⟩ = some (.bool r.agree) := by rw [hX7.drew.cell, ← hRc]; rfl
              have y12 : w7.drew.cell? ⟨w.heap.size, 12, none⟩ = some (.bool r.share) := by rw [hX7.drew.cell, ← hRc]; rfl
              have y13 : w7.drew.cell? ⟨w.heap.size, 13, none⟩ = some (.bool r.noFlip) := by rw [hX7.drew.cell, ← hRc]; rfl
              have y14 : w7.drew.cell? ⟨w.heap.size, 14, none⟩ = some (.bool r.boots) := by rw [hX7.drew.cell, ← hRc]; rfl
              refine W_flow (fun j => j = w.heap.size) (.pure 0 (.pure 1 (.pure 3 (.pure 4 (.pure 6 (.pure 7 (.pure 9 (.pure 10 (.one 2 (.one 5 (.one 8 (.one 11 (.one 12 (.one 13 (.done))))))))))))))) follows (by kernel_rfl) ?_
              have hh := held_refl (fun j => j = w.heap.size) w7.drew
              have hl7 : w.heap.size < w7.drew.heap.size := hX7.lt
              have hl7' : w.heap.size < w7.heap.size := hX7.lt
              simp [go_sem, IntWalk.iteOmega, IntWalk.toNatUp, e1, e3, y11, y12, y13, y14, hh, hl7, hl7', yesE]
              refine ⟨hh.alloc _, ?_⟩
              have h7' : LinesAt w7.drew w.heap.size (w.heap.size + 1) _ := h7.on (ext_drew w7)
              have hjj := join_len (judgeWords r) 6 (by simp [judgeWords]; refine ⟨?_, ?_, ?_, ?_⟩ <;> (unfold yesV; split <;> decide))
              have hjj' : (Lib.join (judgeWords r) [32]).length ≤ 35 := Nat.le_trans hjj (by simp [judgeWords])
              refine callE_of (line_lit h7' (judgeWords r) (n := 5) rfl rfl (by omega) (by simp [lineV] at hnl2 ⊢; omega) (by omega)) ?_
              rintro _ w8 ⟨h8, o8⟩
              have hX8 := o8.2 _ _ _ (by omega) (by decide) hX7.drew
              have hr8 : heldE (fun j => j = w.heap.size) w7.drew w8 := ⟨o8.1.size, fun j hj _ => by subst hj; exact hX8.trans hX7.drew.symm⟩
              simp [go_sem, IntWalk.iteOmega, IntWalk.toNatUp, hr8, e3]
              refine callE_of (string_any h8 (by simp [lineV])) ?_
              rintro _ w9 ⟨rfl, k9⟩
              simp [go_sem, IntWalk.iteOmega, IntWalk.toNatUp]
              exact ⟨by simp [lineV], ((k7.trans (ext_drew w7 |>.mono (by have := k7.size; omega))).trans o8.1).trans k9⟩
end Go.Proofs.YtjjopoigbonjbaaGreatDoor.Ho
