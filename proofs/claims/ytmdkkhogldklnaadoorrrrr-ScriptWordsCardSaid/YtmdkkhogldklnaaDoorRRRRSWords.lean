/-
  A line's words: the program's, the document's.
-/
import Derived.Test.YtmdkkhogldklnaaDoorRRRRSPlain
namespace Go.Proofs.YtmdkkhogldklnaaDoorRRRR
open Go.RowKit
set_option linter.unusedVariables false
set_option linter.unusedSimpArgs false
set_option maxRecDepth 10000
theorem undS : Tryd.prog.underlying 9 = some .string := by kernel_rfl
theorem own_keep {w w' : World} {base e size n : Nat} {v : Value} {xs : List Value} (h : w.ownsRow base e size v n xs) (hb : Below w.heap.size w w') : w'.ownsRow base e size v n xs := row_below h hb
def strs (l : List (List UInt8)) : List Value := l.map fun t => .string (strOf t)
theorem strs_app (a b : List (List UInt8)) : strs (a ++ b) = strs a ++ strs b := by simp [strs]
/-- A word appended to a row of the call's own. -/
theorem appendW {w : World} {base n g : Nat} {v : Value} {xs : List (List UInt8)} {t : List UInt8} {T : TypeId} {k : Kont} (hown : w.ownsRow base 9 1 v n (strs xs)) (hN : Blk w g T #[.string (strOf t)]) (hbs : base ≤ w.heap.size) (hn : n ≤ 100000)
    (hk : ∀ v' w', w'.ownsRow base 9 1 v' (n + 1) (strs (xs ++ [t])) → w.grownBy w' v.ownBlock → k v' w') :
    resE Tryd.prog (appendR Tryd.prog 31 31 31 v (.slice (some ⟨g, 0, none⟩) 1 1) w) k := by
  refine appendE base 9 1 16 Tryd.underlying31 el9 hown (m := 1) (news := strs [t]) ⟨rfl, fun _ => ⟨_, 0, rfl, hN.lt, fun j u hu => by rw [hN.cell]; simpa [strs] using hu⟩⟩ rfl (by unfold maxLen; omega) (by omega) hbs ?_
  intro v' w' hown' hgr _
  exact hk v' w' (by rw [strs_app]; exact hown') hgr
theorem wordsGo_len : ∀ (l cur : List UInt8), (wordsGo cur l).length ≤ l.length + 1
  | [], cur => by simp [wordsGo]
  | c :: l, cur => by
    unfold wordsGo
    split
    · have := wordsGo_len l []; simp; omega
    · have := wordsGo_len l (cur ++ [c]); simp; omega
theorem drop_at {l : List UInt8} {i : Nat} (h : i < l.length) : l.drop i = l[i] :: l.drop (i + 1) := by simp
theorem take_more {l : List UInt8} {f i j : Nat} (h1 : f ≤ i) (h2 : i ≤ j) (h3 : i ≤ l.length) : (l.take j).drop f = (l.take i).drop f ++ (l.take j).drop i := by
  have e : l.take j = l.take i ++ (l.take j).drop i := by
    have := List.take_append_drop i (l.take j)
    rw [List.take_take, Nat.min_eq_left h2] at this
    exact this.symm
  have := congrArg (List.drop f) e
  rw [List.drop_append_of_le_length (by simp; omega)] at this
  exact this
/-- the bytes that an iterator has ahead -/
def itLeft (r n : Nat) (w : World) : Nat := match w.heap[r]? with | some (.stringIter _ i) => n - i | _ => 0
theorem itLeft_eq {r n : Nat} {w : World} {s : ByteArray} {i : Nat} (h : It w r s i) : itLeft r n w = n - i := by
  have h' : w.heap[r]? = some (.stringIter s i) := h
  unfold itLeft; rw [h']
theorem own_itPut {w : World} {base e size n : Nat} {v : Value} {xs : List Value} (h : w.ownsRow base e size v n xs) {r : Nat} (hr : r < base) (o : Obj) : (itPut w r o).ownsRow base e size v n xs := by
  refine ⟨h.1, ?_⟩
  rcases h.2 with q | ⟨g, cap, cur, q1, q2, q3, q4⟩
  · exact .inl q
  · exact .inr ⟨g, cap, cur, q1, q2, by rw [itPut_far _ _ _ (by omega)]; exact q3, q4⟩
theorem It_far {w w' : World} {r : Nat} {s : ByteArray} {i : Nat} (h : It w r s i) (he : w'.heap[r]? = w.heap[r]?) : It w' r s i := he.trans h
theorem row_low {w : World} {b b' e size n : Nat} {v : Value} {xs : List Value} (h : w.ownsRow b e size v n xs) (hb : b' ≤ b) : w.ownsRow b' e size v n xs := by
  refine ⟨h.1, ?_⟩
  rcases h.2 with q | ⟨g, cap, cur, q1, q2, q3⟩
  · exact .inl q
  · exact .inr ⟨g, cap, cur, q1, by omega, q3⟩
/-- what a rune that is no blank leaves behind: no blank among its bytes -/
theorem rune_no {l : List UInt8} {i : Nat} (h : i < l.length) {c : UInt8} (hc : l[i] ≠ c) (h128 : c.toNat < 128) : c ∉ (l.take (i + (Utf8.decode (strOf l) i).2)).drop i ∧ (((Utf8.decode (strOf l) i).1 : Int) == (c.toNat : Int)) = false := by
  have hfit := rune_fits l h
  refine ⟨fun hm => ?_, ?_⟩
  · obtain ⟨k, hk, e⟩ := List.getElem_of_mem hm
    simp only [List.getElem_drop, List.getElem_take] at e
    simp only [List.length_drop, List.length_take] at hk
    rcases Nat.eq_zero_or_pos k with rfl | hp
    · exact hc (by simpa using e)
    · have := rune_skip l h (j := i + k) (by omega) (by omega) (by omega)
      rw [e] at this
      omega
  · apply beq_eq_false_iff_ne.2
    intro e
    have hg := get_eq l i h
    by_cases hlo : ((strOf l).get! i).toNat < 128
    · rw [rune_low hlo, hg] at e
      have e' : ((l[i].toNat : Nat) : Int) = ((c.toNat : Nat) : Int) := e
      exact hc (UInt8.toNat_inj.1 (Int.ofNat.inj e'))
    · have := rune_high hlo
      omega
set_option maxHeartbeats 3200000 in
theorem words_any (t : List UInt8) (ht : t.length ≤ 50000) (w : World) :
    callE Tryd.prog 10 #[.string (strOf t)] w fun v w' => w'.ownsRow w.heap.size 9 1 v (wordsV t).length (strs (wordsV t)) ∧ Below w.heap.size w w' := by
  have hr := fun w => run_range_str (P := Tryd.prog) (w := w) undS (strOf t)
  refine calls_E Tryd.func10 rfl rfl rfl (Nat.le_of_ble_eq_true rfl) ?_
  simp [go_sem, IntWalk.iteOmega, IntWalk.toNatUp, hr]
  refine W_loop (fun st wr => ∃ (i f : Nat) (ws : List (List UInt8)) (v : Value), f ≤ i ∧ i ≤ t.length ∧ ws.length ≤ i ∧ st 0 = .string (strOf t) ∧ st 8 = .pointer (some ⟨w.heap.size, 0, none⟩) ∧ st 3 = v ∧ st 4 = .int .i64 f ∧ It wr w.heap.size (strOf t) i ∧ wordsV t = ws ++ wordsGo ((t.take i).drop f) (t.drop i) ∧ wr.ownsRow (w.heap.size + 1) 9 1 v ws.length (strs ws) ∧ Below w.heap.size w wr) (fun _ wr => itLeft w.heap.size t.length wr) ?_ ?_
  · exact ⟨0, 0, [], .slice none 0 0, by omega, by omega, by simp, by simp [go_sem], by simp [go_sem], by simp [go_sem], by simp [go_sem], It_made w _, by simp [wordsV], World.ownsRow_nil _ _ _ _, ext_alloc _ _⟩
  · rintro st wr ⟨i, f, ws, v, hfi, hi, hwl, e0, e8, e3, e4, hit, hwv, hown, hbw⟩
    have hsz : w.heap.size < wr.heap.size := hit.lt
    have hleft := itLeft_eq (n := t.length) hit
    by_cases hlt : i < t.length
    · have hlt' : i < (strOf t).size := by rw [strOf_size]; exact hlt
      have hw := width_pos (strOf t) i
      have hfit := rune_fits t hlt
      have hx := run_next_str (P := Tryd.prog) hit
      by_cases hc : t[i] = 32
      · have hg : ((strOf t).get! i).toNat = 32 := (congrArg UInt8.toNat ((get_eq t i hlt).trans hc)).trans rfl
        have hd := rune_low (s := strOf t) (i := i) (by rw [hg]; omega)
        rw [hg] at hd
        rw [hd] at hx hfit
        simp only at hx hfit
        have hit2 := hit.put (i + 1)
        have hown2 := own_itPut hown (r := w.heap.size) (by omega) (.stringIter (strOf t) (i + 1))
        have hbw2 := Below.itPut hbw (Nat.le_refl _) (.stringIter (strOf t) (i + 1))
        have hsz2 : w.heap.size < (itPut wr w.heap.size (.stringIter (strOf t) (i + 1))).heap.size := hit2.lt
        have hpsz := itPut_size wr w.heap.size (.stringIter (strOf t) (i + 1))
        simp [go_sem, IntWalk.iteOmega, IntWalk.toNatUp, e0, e8, e3, e4, hx, hlt', strOf_part]
        rw [← hpsz]
        generalize itPut wr w.heap.size (.stringIter (strOf t) (i + 1)) = w2 at *
        have hN : Blk (w2.alloc (.cells #[.string (strOf ((t.take i).drop f))] 9)) w2.heap.size 9 #[.string (strOf ((t.take i).drop f))] := Blk.self_ rfl
        have hlt2 := hown2.lt
        have hbA := hbw2.alloc hbw2.size (.cells #[.string (strOf ((t.take i).drop f))] 9)
        refine appendW (own_keep hown2 (ext_alloc w2 _)) hN (by simp; omega) (by omega) ?_
        intro v3 w3 hown3 g3
        have hb3 := hbA.grown g3 hbA.size (fun k hk => by have := (hlt2 k hk).1; omega)
        have hit3 := It_far (hit2.keep (ext_alloc w2 (.cells #[.string (strOf ((t.take i).drop f))] 9))) (g3.block w.heap.size (by simp; omega) (fun e => by have := (hlt2 _ e.symm).1; omega))
        simp [go_sem, IntWalk.iteOmega, IntWalk.toNatUp, e0, e8, e3, e4]
        refine roundEnd.mk ⟨i + 1, i + 1, ws ++ [(t.take i).drop f], v3, by omega, by omega, by simp; omega, by simp [go_sem, e0], by simp [go_sem, e8], by simp [go_sem], by simp [go_sem], hit3, ?_, by simpa using hown3, hb3⟩ ?_
        · have hdr : t.drop i = 32 :: t.drop (i + 1) := (drop_at hlt).trans (congrArg (· :: t.drop (i + 1)) hc)
          have e2 : (t.take (i + 1)).drop (i + 1) = [] := List.drop_eq_nil_of_le (by simp; omega)
          rw [hwv, hdr, wordsGo, if_pos rfl, e2]
          simp
        · rw [itLeft_eq hit3, hleft]; omega
      · obtain ⟨hno, hne⟩ := rune_no hlt (c := 32) hc (by decide)
        have hne' : (((Utf8.decode (strOf t) i).1 : Int) == 32) = false := hne
        have hit2 := hit.put (i + (Utf8.decode (strOf t) i).2)
        have hown2 := own_itPut hown (r := w.heap.size) (by omega) (.stringIter (strOf t) (i + (Utf8.decode (strOf t) i).2))
        have hbw2 := Below.itPut hbw (Nat.le_refl _) (.stringIter (strOf t) (i + (Utf8.decode (strOf t) i).2))
        generalize Utf8.decode (strOf t) i = D at *
        obtain ⟨rn, wd⟩ := D
        simp only at hno hne' hit2 hown2 hbw2 hw hfit hx
        simp [go_sem, IntWalk.iteOmega, IntWalk.toNatUp, e0, e8, e3, e4, hx, hlt', hne']
        refine roundEnd.mk ⟨i + wd, f, ws, v, by omega, by omega, by omega, by simp [go_sem, e0], by simp [go_sem, e8], by simp [go_sem, e3], by simp [go_sem, e4], hit2, ?_, hown2, hbw2⟩ ?_
        · rw [hwv, take_more (j := i + wd) hfi (by omega) hi]
          have : t.drop i = (t.take (i + wd)).drop i ++ t.drop (i + wd) := by
            conv => lhs; rw [← List.take_append_drop (i + wd) t]
            exact List.drop_append_of_le_length (by simp; omega)
          rw [this, wordsGo_skip _ _ _ hno]
        · rw [itLeft_eq hit2, hleft]; omega
    · obtain rfl : i = t.length := by omega
      have hx := run_next_end (P := Tryd.prog) hit
      have hlt' : ¬ t.length < (strOf t).size := by rw [strOf_size]; omega
      simp [go_sem, IntWalk.iteOmega, IntWalk.toNatUp, e0, e8, e3, e4, hx, hlt', strOf_size, strOf_drop]
      have hN : Blk (wr.alloc (.cells #[.string (strOf (t.drop f))] 9)) wr.heap.size 9 #[.string (strOf (t.drop f))] := Blk.self_ rfl
      have hlt2 := hown.lt
      have hbA := hbw.alloc hbw.size (.cells #[.string (strOf (t.drop f))] 9)
      refine appendW (own_keep hown (ext_alloc wr _)) hN (by simp; omega) (by omega) ?_
      intro v3 w3 hown3 g3
      have hb3 := hbA.grown g3 hbA.size (fun k hk => by have := (hlt2 k hk).1; omega)
      have hwv' : wordsV t = ws ++ [t.drop f] := by
        rw [hwv, List.take_of_length_le (Nat.le_refl _), List.drop_of_length_le (Nat.le_refl _)]; rfl
      simp [go_sem, IntWalk.iteOmega, IntWalk.toNatUp]
      rw [hwv']
      exact ⟨row_low (by simpa using hown3) (by omega), hb3⟩
end Go.Proofs.YtmdkkhogldklnaaDoorRRRR
