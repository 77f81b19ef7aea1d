/-
  The draws left over: both.
-/
import Derived.Test.YtmoafaaeeanofaaSUnits2
namespace Go.Proofs.Ytmoafaaeeanofaa
open Go.RowKit
set_option linter.unusedVariables false
set_option linter.unusedSimpArgs false
set_option maxRecDepth 10000
theorem Rd.drop {w : World} {b o n : Nat} {xs : List Value} (h : Rd w 1 (some ⟨b, o, none⟩) n xs) (k : Nat) (hk : k ≤ n) : Rd w 1 (some ⟨b, o + k, none⟩) (n - k) (xs.drop k) := by
  refine ⟨by rw [List.length_drop, h.len]; omega, fun hn => ?_⟩
  obtain ⟨b', o', e, hlt, hc⟩ := h.cells (by omega)
  obtain ⟨rfl, rfl⟩ : b = b' ∧ o = o' := by simpa using e
  exact ⟨b, o + k, rfl, hlt, fun j u hu => by rw [Nat.add_assoc]; exact hc (k + j) u (by rw [← List.getElem?_drop]; exact hu)⟩
/-- a slice cut at its head -/
theorem Sl_drop {w : World} {A : Option Addr} {n c : Nat} {xs : List Value} (h : Sl w 1 (.slice A n c) n xs) (m : Nat) (hm : m ≤ n) :
    Sl w 1 (.slice (if c = m then A else A.map (fun x => x.add m)) (n - m) (c - m)) (n - m) (xs.drop m) := by
  obtain ⟨A', c', e, hrd, hA, hc1, hc2⟩ := h
  obtain ⟨rfl, rfl⟩ : A = A' ∧ c = c' := by simpa using e
  refine ⟨_, _, rfl, ?_, ?_, by omega, by omega⟩
  · by_cases h0 : m = n
    · have : xs.drop m = [] := List.drop_eq_nil_of_le (by have := hrd.len; omega)
      rw [this, h0, Nat.sub_self]; exact Rd.nil_ _ _ _
    · obtain ⟨b, o, rfl, hb, hc⟩ := hrd.cells (by omega)
      rw [if_neg (by omega)]
      have ha : (some (⟨b, o, none⟩ : Addr)).map (fun x => x.add m) = some ⟨b, o + m, none⟩ := by simp [Addr.add]
      rw [ha]
      exact hrd.drop m hm
  · intro he
    have hn : A = none := by
      split at he
      · exact he
      · simpa using he
    obtain ⟨h1, h2⟩ := hA hn
    exact ⟨by omega, by omega⟩
theorem run_eql_nil {P : Program} {t e : TypeId} (ht : P.underlying t = some (.slice e)) (A : Option Addr) (n c : Nat) (w : World) :
    (binOp .eql t (.slice A n c) (.slice none 0 0)).run P w = .ok (.bool A.isNone) w := by
  unfold binOp Op.equal
  rw [show Op.maxDepth = 9999 + 1 from rfl]
  unfold Op.equalIn
  cases A <;> simp [run_underlying ht, Result.andThen]
theorem ownsEmpty {w : World} {b g : Nat} {e : TypeId} (hg : Blk w g e #[]) (hb : b ≤ g) : w.ownsRow b e 1 (.slice (some ⟨g, 0, none⟩) 0 0) 0 [] := ⟨rfl, .inr ⟨g, 0, #[], rfl, hb, hg, Nat.le_refl _, by unfold maxLen; omega, rfl, rfl⟩⟩
theorem oneU (k : IntKind) (l : List Int) : allOne (intsK k l) = true := allOne_of fun v hv => by
  obtain ⟨x, _, rfl⟩ := List.mem_map.1 hv; rfl
set_option maxHeartbeats 3200000 in
theorem clone_any (ds : List Int) (hlen : ds.length ≤ 1000) (vd : Value) (w : World) (hs : Sl w 1 vd ds.length (intsK .u64 ds)) :
    callE Try.prog 35 #[vd] w fun v w' => Sl w' 1 v ds.length (intsK .u64 ds) ∧ Below w.heap.size w w' := by
  obtain ⟨A, cap, rfl, hrd, hA, hc1, hc2⟩ := id hs
  refine calls_E Try.func35 rfl rfl rfl (Nat.le_of_ble_eq_true rfl) ?_
  rcases A with _ | a
  · obtain ⟨hn, hcap⟩ := hA rfl
    obtain rfl : ds = [] := List.length_eq_zero_iff.1 hn
    subst hcap
    have hE := run_eql_nil (P := Try.prog) Try.underlying23 none 0 0 w
    simp [go_sem, IntWalk.iteOmega, IntWalk.toNatUp, hE]
    exact ⟨sl_nil _ _, Below.refl _ _⟩
  · have hE := run_eql_nil (P := Try.prog) Try.underlying23 (some a) ds.length cap w
    simp [go_sem, IntWalk.iteOmega, IntWalk.toNatUp, hE]
    have kB := ext_alloc w (.cells #[] 37)
    have hxb3 : Blk (w.alloc (.cells #[] 37)) w.heap.size 37 #[] := Blk.self_ rfl
    have hrd2 := hrd.keep kB
    refine appendE w.heap.size 37 1 8 Try.underlying23 el37 (ownsEmpty hxb3 (Nat.le_refl _)) hrd2 (oneU _ _) (by unfold maxLen; omega) (by omega) kB.size ?_
    intro out' w6 hout6 hgr6 hblk6
    have hb6 := kB.grown hgr6 kB.size (fun k hk => by
      have : w.heap.size = k := Option.some.inj hk
      omega)
    rw [Nat.zero_add, List.nil_append] at hout6
    simp [go_sem, IntWalk.iteOmega, IntWalk.toNatUp]
    exact ⟨(own_sl hout6).1, hb6⟩
theorem max0 (k : Int) : (if k < 0 then 0 else k) = max k 0 := by
  by_cases h : k < 0
  · rw [if_pos h]; omega
  · rw [if_neg h]; omega
theorem minN (k n : Int) : (if n < k then n else k) = min k n := by
  by_cases h : n < k
  · rw [if_pos h]; omega
  · rw [if_neg h]; omega
set_option maxHeartbeats 3200000 in
theorem vRest_any (k : Int) (hk : -9223372036854775808 ≤ k ∧ k ≤ 9223372036854775807) (ds : List Int) (hlen : ds.length ≤ 1000) (vd : Value) (w : World) (hs : Sl w 1 vd ds.length (intsK .u64 ds)) :
    callE Try.prog 20 #[.int .i64 k, vd] w fun v w' => Sl w' 1 v (ds.drop (max k 0).toNat).length (intsK .u64 (ds.drop (max k 0).toNat)) ∧ Below w.heap.size w w' := by
  obtain ⟨A, cap, rfl, hrd, hA, hc1, hc2⟩ := id hs
  refine calls_E Try.func20 rfl rfl rfl (Nat.le_of_ble_eq_true rfl) ?_
  obtain ⟨m, hm, hml⟩ : ∃ m : Nat, min (max k 0) ds.length = m ∧ m ≤ ds.length := ⟨(min (max k 0) ds.length).toNat, by omega, by omega⟩
  have hE1 := max0 k
  have hE2 := minN (max k 0) ds.length
  rw [hm] at hE2
  have hdr : ds.drop m = ds.drop (max k 0).toNat := by
    by_cases h : (max k 0) ≤ ds.length
    · congr 1; omega
    · rw [List.drop_eq_nil_of_le (by omega), List.drop_eq_nil_of_le (by omega)]
  simp [go_sem, IntWalk.iteOmega, IntWalk.toNatUp, hE1, hE2]
  rw [← hdr]
  have hsl := Sl_drop hs m hml
  have hl2 : ds.length - m = (ds.drop m).length := by rw [List.length_drop]
  have hl3 : (intsK .u64 ds).drop m = intsK .u64 (ds.drop m) := by unfold intsK; rw [List.map_drop]
  rw [hl3] at hsl
  have hsl2 : Sl w 1 (.slice (if cap = m then A else A.map (fun x => x.add m)) (ds.length - m) (cap - m)) (ds.drop m).length (intsK .u64 (ds.drop m)) := by rw [← hl2]; exact hsl
  refine callE_of (clone_any (ds.drop m) (by rw [List.length_drop]; omega) _ w hsl2) ?_
  rintro v w1 ⟨h1, h2⟩
  rw [← hl2] at h1
  simp [go_sem, IntWalk.iteOmega, IntWalk.toNatUp]
  exact ⟨h1, h2⟩
set_option maxHeartbeats 3200000 in
theorem rRest_any (k : Int) (hk : -9223372036854775808 ≤ k ∧ k ≤ 9223372036854775807) (ds : List Int) (hlen : ds.length ≤ 1000) (vd : Value) (w : World) (hs : Sl w 1 vd ds.length (intsK .u64 ds)) :
    callE Try.prog 21 #[.int .i64 k, vd] w fun v w' => Sl w' 1 v (ds.drop (max k 0).toNat).length (intsK .u64 (ds.drop (max k 0).toNat)) ∧ Below w.heap.size w w' := by
  obtain ⟨A, cap, rfl, hrd, hA, hc1, hc2⟩ := id hs
  refine calls_E Try.func21 rfl rfl rfl (Nat.le_of_ble_eq_true rfl) ?_
  by_cases hk2 : (ds.length : Int) < k
  · have hdr : ds.drop (max k 0).toNat = [] := List.drop_eq_nil_of_le (by omega)
    rw [hdr]
    simp [go_sem, IntWalk.iteOmega, IntWalk.toNatUp, hk2]
    exact ⟨sl_nil _ _, Below.refl _ _⟩
  obtain ⟨m, hm, hml⟩ : ∃ m : Nat, max k 0 = m ∧ m ≤ ds.length := ⟨(max k 0).toNat, by omega, by omega⟩
  have hE1 := max0 k
  rw [hm] at hE1
  rw [hm, Int.toNat_natCast]
  have hsl := Sl_drop hs m hml
  have hl2 : ds.length - m = (ds.drop m).length := by rw [List.length_drop]
  have hl3 : (intsK .u64 ds).drop m = intsK .u64 (ds.drop m) := by unfold intsK; rw [List.map_drop]
  obtain ⟨A2, c2, e2, hrd2, hA2, hc12, hc22⟩ := id hsl
  obtain ⟨e3, e4⟩ : (if cap = m then A else A.map (fun x => x.add m)) = A2 ∧ cap - m = c2 := by simpa using e2
  simp [go_sem, IntWalk.iteOmega, IntWalk.toNatUp, hk2, hE1, e3]
  refine appendE w.heap.size 37 1 8 Try.underlying23 el37 (World.ownsRow_nil _ _ _ _) hrd2 (by rw [hl3]; exact oneU _ _) (by unfold maxLen; omega) (by omega) (Nat.le_refl _) ?_
  intro out' w6 hout6 hgr6 hblk6
  have hb6 := (Below.refl w.heap.size w).grown hgr6 (Nat.le_refl _) (fun k hk => by cases hk)
  rw [Nat.zero_add, List.nil_append, hl3] at hout6
  simp [go_sem, IntWalk.iteOmega, IntWalk.toNatUp]
  exact ⟨(own_sl hout6).1, hb6⟩
end Go.Proofs.Ytmoafaaeeanofaa
