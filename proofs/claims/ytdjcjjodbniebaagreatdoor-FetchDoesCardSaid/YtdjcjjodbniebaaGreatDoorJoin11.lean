/-
  Texts joined: FUnpack, FCount, FRead.
-/
import Derived.Test.YtdjcjjodbniebaaGreatDoorJoin10
import Derived.Deep.Draws
namespace Go.Proofs.YtdjcjjodbniebaaGreatDoor
open Go.RowKit
set_option linter.unusedVariables false
set_option linter.unusedSimpArgs false
set_option maxRecDepth 10000
theorem bl_at2 (l : List UInt8) (i : Nat) (h : i < l.length) : (bl l)[i]? = some (.int .u8 ((l[i]).toNat : Int)) := by simp [bl, h]
def beN (l : List UInt8) : Nat := l.foldl (fun n c => n * 256 + c.toNat) 0
theorem beN_snoc (l : List UInt8) (c : UInt8) : beN (l ++ [c]) = beN l * 256 + c.toNat := by unfold beN; rw [List.foldl_append]; rfl
theorem beN_lt (l : List UInt8) : beN l < 256 ^ l.length := by
  have key : ∀ (l : List UInt8) (n : Nat), l.foldl (fun n c => n * 256 + c.toNat) n < (n + 1) * 256 ^ l.length := by
    intro l
    induction l with
    | nil => intro n; simp
    | cons c l ih =>
      intro n
      have h1 := ih (n * 256 + c.toNat)
      have h2 := c.toNat_lt
      have h3 : n * 256 + c.toNat + 1 ≤ (n + 1) * 256 := by omega
      have h4 := Nat.mul_le_mul_right (256 ^ l.length) h3
      rw [List.foldl_cons, List.length_cons, Nat.pow_succ, Nat.mul_comm (256 ^ l.length) 256, ← Nat.mul_assoc]
      omega
  have := key l 0
  unfold beN
  omega
theorem take_snoc {l : List UInt8} {i : Nat} (h : i < l.length) : l.take (i + 1) = l.take i ++ [l[i]] := by
  rw [List.take_add_one, List.getElem?_eq_getElem h]; rfl
set_option maxHeartbeats 1600000 in
theorem value_any (A : Option Addr) (c : Nat) (l : List UInt8) (hl : l.length ≤ 8) (w : World) (h : Rd w 1 A l.length (bl l)) :
    callE Tryz.prog 126 #[.slice A l.length c] w fun v w' => v = .int .u64 (beN l) ∧ w' = w := by
  refine calls_E Tryz.func126 rfl rfl rfl (Nat.le_of_ble_eq_true rfl) ?_
  simp [go_sem, IntWalk.iteOmega, IntWalk.toNatUp]
  refine W_loop (fun st wr => ∃ i : Nat, i ≤ l.length ∧ st 3 = .int .u64 (beN (l.take i)) ∧ st 6 = .slice A l.length c ∧ st 7 = .int .i64 l.length ∧ st 8 = .int .i64 i ∧ wr = w) (fun st _ => l.length - (intOf (st 8)).toNat) ?_ ?_
  · exact ⟨0, by omega, by simp [go_sem, beN], by simp [go_sem], by simp [go_sem], by simp [go_sem], rfl⟩
  · rintro st wr ⟨i, hi, e3, e6, e7, e8, rfl⟩
    by_cases hlt : i < l.length
    · obtain ⟨b, o, rfl, hb, hc⟩ := h.cells (by omega)
      have x0 := hc i _ (bl_at2 l i hlt)
      have hlt' : (i : Int) < l.length := by omega
      have hs := beN_snoc (l.take i) l[i]
      rw [← take_snoc hlt] at hs
      have hV := beN_lt (l.take i)
      have hp : 256 ^ (l.take i).length ≤ 72057594037927936 := by
        have : (l.take i).length ≤ 7 := by simp; omega
        exact Nat.le_trans (Nat.pow_le_pow_right (by omega) this) (by decide)
      have hc256 := (l[i]).toNat_lt
      generalize beN (l.take i) = V at *
      generalize (l[i]).toNat = ch at *
      have f1 : IntKind.u64.wrap ((V : Int) * 256) = (V : Int) * 256 := by rw [wrap_u64_if, if_pos (by omega)]
      have f2 : IntKind.u64.wrap (ch : Int) = ch := by rw [wrap_u64_if, if_pos (by omega)]
      have f3 : bits .or .u64 ((V : Int) * 256) (ch : Int) = (V : Int) * 256 + ch := by
        have h1 := bits_or_u64_nat (V * 256) ch (by omega) (by omega)
        have h2 := Nat.two_pow_add_eq_or_of_lt (i := 8) (b := ch) (by omega) V
        have h3 : V * 256 ||| ch = V * 256 + ch := by rw [Nat.mul_comm V 256]; exact h2.symm
        rw [h3] at h1
        simpa using h1
      simp [go_sem, IntWalk.iteOmega, IntWalk.toNatUp, e3, e6, e7, e8, hlt, hlt', x0, f1, f2, f3]
      refine roundEnd.mk ⟨i + 1, by omega, ?_, by simp [go_sem, e6], by simp [go_sem, e7], by simp [go_sem], rfl⟩ ?_
      · rw [hs]; simp [go_sem]
      · simp [go_sem, intOf]; omega
    · obtain rfl : i = l.length := by omega
      rw [List.take_of_length_le (Nat.le_refl _)] at e3
      simp [go_sem, IntWalk.iteOmega, IntWalk.toNatUp, e3, e6, e7, e8]
def UnIn (w : World) (B u : Nat) (l : List UInt8) (e : Int) : Prop := ∃ g o c, B ≤ g ∧ B ≤ u ∧ g ≠ u ∧ Blk w u 187 #[.bool true, .slice (some ⟨g, o, none⟩) l.length c, .int .i64 e] ∧ l.length ≤ c ∧ c ≤ 9223372036854775807 ∧ g < w.heap.size ∧ ∀ j v, (bl l)[j]? = some v → w.cell? ⟨g, o + j, none⟩ = some v
theorem UnIn.keep {w w' : World} {B u : Nat} {l : List UInt8} {e : Int} (h : UnIn w B u l e) (hb : Below w.heap.size w w') : UnIn w' B u l e := by
  obtain ⟨g, o, c, h1, h2, h3, h4, h5, h6, h7, h8⟩ := h
  exact ⟨g, o, c, h1, h2, h3, h4.keep hb, h5, h6, Nat.lt_of_lt_of_le h7 hb.size, fun j v hj => by rw [hb.cell h7]; exact h8 j v hj⟩
theorem noinit_works : Tryz.prog.inits.idxOf? 147 = none := by kernel_rfl
theorem noinit_fails : Tryz.prog.inits.idxOf? 148 = none := by kernel_rfl
theorem works_runs {w : World} {B u : Nat} {l : List UInt8} {e : Int} (h : UnIn w B u l e) : Runs Tryz.prog 147 #[.pointer (some ⟨u, 0, none⟩)] w (.bool (e == 0)) w := by
  obtain ⟨g, o, c, h1, h2, h3, h4, h5, h6, h7, h8⟩ := h
  refine runs_of_callE ?_
  refine calls_E Tryz.func147 rfl rfl rfl (Nat.le_of_ble_eq_true rfl) ?_
  simp [go_sem, IntWalk.iteOmega, IntWalk.toNatUp, h4.cell]
theorem fails_runs {w : World} {B u : Nat} {l : List UInt8} {e : Int} (h : UnIn w B u l e) (he : e = 0) (e' : Int) : Runs Tryz.prog 148 #[.pointer (some ⟨u, 0, none⟩), .int .i64 e'] w (.tuple #[]) (w.setCell ⟨u, 2, none⟩ (.int .i64 e')) := by
  subst he
  obtain ⟨g, o, c, h1, h2, h3, h4, h5, h6, h7, h8⟩ := h
  refine runs_of_callE ?_
  refine calls_E Tryz.func148 rfl rfl rfl (Nat.le_of_ble_eq_true rfl) ?_
  simp [go_sem, IntWalk.iteOmega, IntWalk.toNatUp, h4.cell, h4.frozen]
theorem UnIn.failed {w : World} {B u : Nat} {l : List UInt8} {e : Int} (h : UnIn w B u l e) (e' : Int) : UnIn (w.setCell ⟨u, 2, none⟩ (.int .i64 e')) B u l e' := by
  obtain ⟨g, o, c, h1, h2, h3, h4, h5, h6, h7, h8⟩ := h
  refine ⟨g, o, c, h1, h2, h3, Blk_set h4, h5, h6, by rw [sz_set]; exact h7, fun j v hj => ?_⟩
  rw [World.cell?_of_block (w := w) (by rw [hp_set, if_neg h3])]
  exact h8 j v hj
def takeL (n : Nat) (l : List UInt8) (e : Int) : List UInt8 := if e = 0 ∧ n ≤ l.length then l.take n else []
def takeR (n : Nat) (l : List UInt8) (e : Int) : List UInt8 := if e = 0 ∧ n ≤ l.length then l.drop n else l
def takeE (n : Nat) (l : List UInt8) (e : Int) : Int := if e = 0 ∧ ¬ n ≤ l.length then 11 else e
theorem grown_set {w : World} {u i : Nat} (v : Value) : w.grownBy (w.setCell ⟨u, i, none⟩ v) (some u) :=
  ⟨rfl, rfl, rfl, by rw [sz_set]; exact Nat.le_refl _, fun k hk hne => by rw [hp_set, if_neg (fun h => hne (by rw [h]))]⟩
theorem grown_refl (w : World) (r : Option Nat) : w.grownBy w r := ⟨rfl, rfl, rfl, Nat.le_refl _, fun _ _ _ => rfl⟩
theorem grown_trans {a b c : World} {u : Nat} (h : a.grownBy b (some u)) (k : b.grownBy c (some u)) : a.grownBy c (some u) :=
  ⟨k.os.trans h.os, k.tape.trans h.tape, k.output.trans h.output, Nat.le_trans h.size k.size, fun g hg hne => (k.block g (Nat.lt_of_lt_of_le hg h.size) hne).trans (h.block g hg hne)⟩
set_option maxHeartbeats 3200000 in
theorem take_any {w : World} {B u : Nat} {l : List UInt8} {e : Int} (h : UnIn w B u l e) (n : Nat) (hn : n ≤ 1000) :
    callE Tryz.prog 127 #[.pointer (some ⟨u, 0, none⟩), .int .i64 n] w fun v w' => RdB w' v (takeL n l e) ∧ (∀ g o m c, v = .slice (some ⟨g, o, none⟩) m c → w.heap.size ≤ g) ∧ UnIn w' B u (takeR n l e) (takeE n l e) ∧ w.grownBy w' (some u) := by
  have r0 := fun k => callE_eq noinit_works (works_runs h) k
  refine calls_E Tryz.func127 rfl rfl rfl (Nat.le_of_ble_eq_true rfl) ?_
  by_cases he : e = 0
  · have he' : (e == 0) = true := by simpa using he
    obtain ⟨g, o, c, h1, h2, h3, h4, h5, h6, h7, h8⟩ := id h
    have q0 : ¬ (n : Int) < 0 := by omega
    by_cases hnl : n ≤ l.length
    · have q1 : ¬ (l.length : Int) < n := by omega
      have hm := fun W => run_make1 (P := Tryz.prog) Tryz.underlying22 (e := 5) (z := .int .u8 0) (bytes := 1) (by kernel_rfl) rfl n (by omega) (by omega) W
      have kA := ext_alloc w (.cells (Array.replicate n (.int .u8 0)) 5)
      have hU := h4.keep kA
      have hN : Blk (w.alloc (.cells (Array.replicate n (.int .u8 0)) 5)) w.heap.size 5 (Array.replicate n (.int .u8 0)) := Blk.self_ rfl
      have hlt := h4.lt
      simp [go_sem, IntWalk.iteOmega, IntWalk.toNatUp, r0, he', q0, q1, h4.cell, hm]
      generalize w.alloc (.cells (Array.replicate n (.int .u8 0)) 5) = w1 at *
      simp [go_sem, IntWalk.iteOmega, IntWalk.toNatUp, hU.cell]
      refine copyE (te := 5) (cur := Array.replicate n (.int .u8 0)) Tryz.underlying22 (by kernel_rfl) (bl (l.take n)) hN (by show (bl (l.take n)).length = min l.length n; simp [bl]; omega) (fun _ => rfl) (fun _ => ⟨⟨g, o, none⟩, rfl, fun j v hj => ?_⟩) (by simp [bl]; omega) (bl_one _) ?_
      · rw [add_none, kA.cell h7]
        refine h8 j v ?_
        rw [← hj]
        have : j < n := by
          have := (List.getElem?_eq_some_iff.1 hj).1
          simp [bl] at this; omega
        simp [bl, List.getElem?_map, List.getElem?_take, this]
      · intro w2 cur2 hN2 hcur2 hg2 hs2
        have hU2 : Blk w2 u 187 #[.bool true, .slice (some ⟨g, o, none⟩) l.length c, .int .i64 e] := (hg2.block u hU.lt (fun h => by injection h with h; omega)).trans hU
        simp [go_sem, IntWalk.iteOmega, IntWalk.toNatUp, hU2.cell, hU2.frozen]
        have e1 : takeL n l e = l.take n := by unfold takeL; rw [if_pos ⟨he, hnl⟩]
        have e2 : takeR n l e = l.drop n := by unfold takeR; rw [if_pos ⟨he, hnl⟩]
        have e3 : takeE n l e = e := by unfold takeE; rw [if_neg (fun h => h.2 hnl)]
        have hrow : cur2.toList = bl (l.take n) := by
          rw [hcur2, List.drop_of_length_le (by simp [bl]; omega)]; simp
        have hln : (l.take n).length = n := by simp; omega
        rw [e1, e2, e3]
        generalize hv : (Value.slice (if c = n then some (⟨g, o, none⟩ : Addr) else some ⟨g, o + n, none⟩) (l.length - n) (c - n)) = v3
        have hcl : ∀ (b i : Nat), b ≠ u → (w2.setCell ⟨u, 1, none⟩ v3).cell? ⟨b, i, none⟩ = w2.cell? ⟨b, i, none⟩ := fun b i hb => World.cell?_of_block (w := w2) (by rw [hp_set, if_neg hb])
        refine ⟨⟨some ⟨w.heap.size, 0, none⟩, n, by rw [hln], ⟨by simp [bl], fun _ => ⟨_, 0, rfl, by rw [sz_set]; exact hN2.lt, fun j v hj => ?_⟩⟩, fun h => by simp at h, by omega, by omega⟩, fun a b c d h1 h2 h3 h4 => by omega, ⟨g, if c = n then o else o + n, c - n, h1, h2, h3, ?_, by simp; omega, by omega, ?_, fun j v hj => ?_⟩, ?_⟩
        · rw [hcl _ _ (by omega), hN2.cell, Nat.zero_add, ← Array.getElem?_toList, hrow]; exact hj
        · have := Blk_set (o := 1) (v := v3) hU2
          rw [← hv] at this ⊢
          by_cases hcn : c = n
          · simp only [if_pos hcn] at this ⊢
            simpa using this
          · simp only [if_neg hcn] at this ⊢
            simpa using this
        · rw [sz_set, hs2]; have := kA.size; omega
        · have hj2 := (List.getElem?_eq_some_iff.1 hj).1
          simp [bl] at hj2
          rw [hcl _ _ h3, World.cell?_of_block (hg2.block g (by have := kA.size; omega) (fun h => by injection h with h; omega)), kA.cell h7, if_neg (by omega), Nat.add_assoc]
          refine h8 (n + j) v ?_
          rw [← hj]
          simp [bl, List.getElem?_map, List.getElem?_drop]
        · refine grown_trans ⟨hg2.os.trans kA.os, hg2.tape.trans kA.tape, hg2.output.trans kA.output, Nat.le_trans kA.size hg2.size, fun k hk hne => ?_⟩ (grown_set v3)
          exact (hg2.block k (Nat.lt_of_lt_of_le hk kA.size) (fun h => by injection h with h; omega)).trans (kA.block k hk)
    · have q1 : (l.length : Int) < n := by omega
      have r1 := fun k => callE_eq noinit_fails (fails_runs h he 11) k
      simp [go_sem, IntWalk.iteOmega, IntWalk.toNatUp, r0, he', q0, q1, h4.cell, r1]
      have e1 : takeL n l e = [] := by unfold takeL; rw [if_neg (fun h => hnl h.2)]
      have e2 : takeR n l e = l := by unfold takeR; rw [if_neg (fun h => hnl h.2)]
      have e3 : takeE n l e = 11 := by unfold takeE; rw [if_pos ⟨he, hnl⟩]
      rw [e1, e2, e3]
      exact ⟨⟨none, 0, rfl, ⟨rfl, fun h => by simp at h⟩, fun _ => rfl, by simp, by omega⟩, h.failed 11, grown_set _⟩
  · have he' : (e == 0) = false := by simpa using he
    simp [go_sem, IntWalk.iteOmega, IntWalk.toNatUp, r0, he']
    have e1 : takeL n l e = [] := by unfold takeL; rw [if_neg (fun h => he h.1)]
    have e2 : takeR n l e = l := by unfold takeR; rw [if_neg (fun h => he h.1)]
    have e3 : takeE n l e = e := by unfold takeE; rw [if_neg (fun h => he h.1)]
    rw [e1, e2, e3]
    exact ⟨⟨none, 0, rfl, ⟨rfl, fun h => by simp at h⟩, fun _ => rfl, by simp, by omega⟩, h, grown_refl _ _⟩
def cntV (head most : Nat) (l : List UInt8) (e : Int) : List UInt8 × List UInt8 × Int :=
  if e ≠ 0 then ([], l, e) else if l.length < head then ([], l, 11) else
  if most < beN (l.take head) then ([], l, 3) else if l.length - head < beN (l.take head) then ([], l, 11) else
  ((l.drop head).take (beN (l.take head)), (l.drop head).drop (beN (l.take head)), 0)
theorem un_moved {w : World} {B u g o c : Nat} {l : List UInt8} {e : Int} (h1 : B ≤ g) (h2 : B ≤ u) (h3 : g ≠ u) (h4 : Blk w u 187 #[.bool true, .slice (some ⟨g, o, none⟩) l.length c, .int .i64 e]) (h5 : l.length ≤ c) (h6 : c ≤ 9223372036854775807) (h7 : g < w.heap.size)
    (h8 : ∀ j v, (bl l)[j]? = some v → w.cell? ⟨g, o + j, none⟩ = some v) (n : Nat) (hnl : n ≤ l.length) : UnIn (w.setCell ⟨u, 1, none⟩ (.slice (if c = n then some ⟨g, o, none⟩ else some ⟨g, o + n, none⟩) (l.length - n) (c - n))) B u (l.drop n) e := by
  refine ⟨g, if c = n then o else o + n, c - n, h1, h2, h3, ?_, by simp; omega, by omega, by rw [sz_set]; exact h7, fun j v hj => ?_⟩
  · generalize hv : (Value.slice (if c = n then some (⟨g, o, none⟩ : Addr) else some ⟨g, o + n, none⟩) (l.length - n) (c - n)) = v3
    have := Blk_set (o := 1) (v := v3) h4
    rw [← hv] at this ⊢
    by_cases hcn : c = n
    · simp only [if_pos hcn] at this ⊢
      simpa using this
    · simp only [if_neg hcn] at this ⊢
      simpa using this
  · have hj2 := (List.getElem?_eq_some_iff.1 hj).1
    simp [bl] at hj2
    rw [World.cell?_of_block (w := w) (by rw [hp_set, if_neg h3]), if_neg (by omega), Nat.add_assoc]
    refine h8 (n + j) v ?_
    rw [← hj]
    simp [bl, List.getElem?_map, List.getElem?_drop]
theorem nilRd (w : World) : RdB w (.slice none 0 0) [] := ⟨none, 0, rfl, ⟨rfl, fun h => by simp at h⟩, fun _ => rfl, by simp, by omega⟩
set_option maxHeartbeats 3200000 in
theorem counted_any {w : World} {B u : Nat} {l : List UInt8} {e : Int} (h : UnIn w B u l e) (head most : Nat) (hh : head ≤ 8) (hm : most ≤ 1000) :
    callE Tryz.prog 128 #[.pointer (some ⟨u, 0, none⟩), .int .i64 head, .int .i64 most] w fun v w' => RdB w' v (cntV head most l e).1 ∧ (∀ g o m c, v = .slice (some ⟨g, o, none⟩) m c → w.heap.size ≤ g) ∧ UnIn w' B u (cntV head most l e).2.1 (cntV head most l e).2.2 ∧ w.grownBy w' (some u) := by
  have r0 := fun k => callE_eq noinit_works (works_runs h) k
  have q0 : ¬ (most : Int) < 0 := by omega
  refine calls_E Tryz.func128 rfl rfl rfl (Nat.le_of_ble_eq_true rfl) ?_
  by_cases he : e = 0
  · have he' : (e == 0) = true := by simpa using he
    obtain ⟨g, o, c, h1, h2, h3, h4, h5, h6, h7, h8⟩ := id h
    by_cases q1 : l.length < head
    · have q1' : (l.length : Int) < head := by omega
      have r1 := fun k => callE_eq noinit_fails (fails_runs h he 11) k
      have ev : cntV head most l e = ([], l, 11) := by unfold cntV; rw [if_neg (fun hn => hn he), if_pos q1]
      simp [go_sem, IntWalk.iteOmega, IntWalk.toNatUp, r0, he', q0, q1', h4.cell, r1]
      rw [ev]
      exact ⟨nilRd _, h.failed 11, grown_set _⟩
    · have q1' : ¬ (l.length : Int) < head := by omega
      have htl : (l.take head).length = head := by simp; omega
      have hrd : Rd w 1 (some ⟨g, o, none⟩) (l.take head).length (bl (l.take head)) := ⟨by simp [bl], fun _ => ⟨g, o, rfl, h7, fun j v hj => h8 j v (by
        rw [← hj]
        have hj2 := (List.getElem?_eq_some_iff.1 hj).1
        simp [bl] at hj2
        simp [bl, List.getElem?_take, show j < head by omega])⟩⟩
      have hval := value_any (some ⟨g, o, none⟩) c (l.take head) (by omega) w hrd
      rw [htl] at hval
      have hN := beN_lt (l.take head)
      rw [htl] at hN
      have hN8 : beN (l.take head) < 18446744073709551616 := Nat.lt_of_lt_of_le hN (Nat.le_trans (Nat.pow_le_pow_right (by omega) hh) (by decide))
      have q2 : head ≤ c := by omega
      simp [go_sem, IntWalk.iteOmega, IntWalk.toNatUp, r0, he', q0, q1', h4.cell, q2]
      refine callE_of hval ?_
      rintro _ w9 ⟨rfl, hw9⟩
      rw [hw9]
      clear hw9 w9
      generalize hNe : beN (l.take head) = N at *
      have f1 : IntKind.u64.wrap (most : Int) = most := by rw [wrap_u64_if, if_pos (by omega)]
      have f2 : IntKind.u64.wrap ((l.length : Int) - head) = (l.length : Int) - head := by rw [wrap_u64_if, if_pos (by omega)]
      by_cases q3 : most < N
      · have q3' : (most : Int) < N := by omega
        have r1 := fun k => callE_eq noinit_fails (fails_runs h he 3) k
        have ev : cntV head most l e = ([], l, 3) := by unfold cntV; rw [if_neg (fun hn => hn he), if_neg q1, hNe, if_pos q3]
        simp [go_sem, IntWalk.iteOmega, IntWalk.toNatUp, f1, q3', r1]
        rw [ev]
        exact ⟨nilRd _, h.failed 3, grown_set _⟩
      · have q3' : ¬ (most : Int) < N := by omega
        by_cases q4 : l.length - head < N
        · have q4' : (l.length : Int) - head < N := by omega
          have r1 := fun k => callE_eq noinit_fails (fails_runs h he 11) k
          have ev : cntV head most l e = ([], l, 11) := by unfold cntV; rw [if_neg (fun hn => hn he), if_neg q1, hNe, if_neg q3, if_pos q4]
          simp [go_sem, IntWalk.iteOmega, IntWalk.toNatUp, f1, q3', h4.cell, f2, q4', r1]
          rw [ev]
          exact ⟨nilRd _, h.failed 11, grown_set _⟩
        · have q4' : ¬ (l.length : Int) - head < N := by omega
          have ev : cntV head most l e = ((l.drop head).take N, (l.drop head).drop N, 0) := by unfold cntV; rw [if_neg (fun hn => hn he), if_neg q1, hNe, if_neg q3, if_neg q4]
          have f3 : IntKind.i64.wrap (N : Int) = N := IntWalk.i64_in _ (by omega)
          simp [go_sem, IntWalk.iteOmega, IntWalk.toNatUp, f1, q3', h4.cell, h4.frozen, f2, q4', f3]
          have hmv := un_moved h1 h2 h3 h4 h5 h6 h7 h8 head (by omega)
          rw [ev]
          have hgs := grown_set (w := w) (u := u) (i := 1) (.slice (if c = head then some ⟨g, o, none⟩ else some ⟨g, o + head, none⟩) (l.length - head) (c - head))
          have hsz := sz_set w ⟨u, 1, none⟩ (.slice (if c = head then some ⟨g, o, none⟩ else some ⟨g, o + head, none⟩) (l.length - head) (c - head))
          generalize w.setCell ⟨u, 1, none⟩ (.slice (if c = head then some ⟨g, o, none⟩ else some ⟨g, o + head, none⟩) (l.length - head) (c - head)) = w2 at *
          refine callE_of (take_any hmv N (by omega)) ?_
          rintro v w3 ⟨p1, p2, p3, p4⟩
          have hNl : N ≤ (l.drop head).length := by simp; omega
          have t1 : takeL N (l.drop head) e = (l.drop head).take N := by unfold takeL; rw [if_pos ⟨he, hNl⟩]
          have t2 : takeR N (l.drop head) e = (l.drop head).drop N := by unfold takeR; rw [if_pos ⟨he, hNl⟩]
          have t3 : takeE N (l.drop head) e = 0 := by unfold takeE; rw [if_neg (fun h => h.2 hNl), he]
          rw [t1] at p1
          rw [t2, t3] at p3
          simp [go_sem, IntWalk.iteOmega, IntWalk.toNatUp]
          exact ⟨p1, fun a b c d h => by rw [← hsz]; exact p2 a b c d h, by simpa using p3, grown_trans hgs p4⟩
  · have he' : (e == 0) = false := by simpa using he
    have ev : cntV head most l e = ([], l, e) := by unfold cntV; rw [if_pos he]
    simp [go_sem, IntWalk.iteOmega, IntWalk.toNatUp, r0, he']
    rw [ev]
    exact ⟨nilRd _, h, grown_refl _ _⟩
theorem short_any {w : World} {B u : Nat} {l : List UInt8} {e : Int} (h : UnIn w B u l e) :
    callE Tryz.prog 89 #[.pointer (some ⟨u, 0, none⟩)] w fun v w' => v = .int .u16 (beN (takeL 2 l e)) ∧ UnIn w' B u (takeR 2 l e) (takeE 2 l e) ∧ w.grownBy w' (some u) := by
  have hl : (takeL 2 l e).length ≤ 2 := by unfold takeL; split <;> simp; omega
  refine calls_E Tryz.func89 rfl rfl rfl (Nat.le_of_ble_eq_true rfl) ?_
  simp [go_sem, IntWalk.iteOmega, IntWalk.toNatUp]
  refine callE_of (take_any h 2 (by omega)) ?_
  rintro v w1 ⟨⟨A, c, rfl, q1, q2, q3, q4⟩, p2, p3, p4⟩
  simp [go_sem, IntWalk.iteOmega, IntWalk.toNatUp]
  refine callE_of (value_any A c _ (by omega) w1 q1) ?_
  rintro _ w2 ⟨rfl, rfl⟩
  have hN := beN_lt (takeL 2 l e)
  have hN2 : beN (takeL 2 l e) < 65536 := Nat.lt_of_lt_of_le hN (Nat.le_trans (Nat.pow_le_pow_right (by omega) hl) (by decide))
  have f1 : IntKind.u16.wrap (beN (takeL 2 l e) : Int) = beN (takeL 2 l e) := IntWalk.u16_in _ (by omega)
  simp [go_sem, IntWalk.iteOmega, IntWalk.toNatUp, f1]
  exact ⟨p3, p4⟩
theorem long_any {w : World} {B u : Nat} {l : List UInt8} {e : Int} (h : UnIn w B u l e) :
    callE Tryz.prog 91 #[.pointer (some ⟨u, 0, none⟩)] w fun v w' => v = .int .u64 (beN (takeL 8 l e)) ∧ UnIn w' B u (takeR 8 l e) (takeE 8 l e) ∧ w.grownBy w' (some u) := by
  have hl : (takeL 8 l e).length ≤ 8 := by unfold takeL; split <;> simp; omega
  refine calls_E Tryz.func91 rfl rfl rfl (Nat.le_of_ble_eq_true rfl) ?_
  simp [go_sem, IntWalk.iteOmega, IntWalk.toNatUp]
  refine callE_of (take_any h 8 (by omega)) ?_
  rintro v w1 ⟨⟨A, c, rfl, q1, q2, q3, q4⟩, p2, p3, p4⟩
  simp [go_sem, IntWalk.iteOmega, IntWalk.toNatUp]
  refine callE_of (value_any A c _ (by omega) w1 q1) ?_
  rintro _ w2 ⟨rfl, rfl⟩
  simp [go_sem, IntWalk.iteOmega, IntWalk.toNatUp]
  exact ⟨p3, p4⟩
theorem fixed_any {w : World} {B u : Nat} {l : List UInt8} {e : Int} (h : UnIn w B u l e) (n : Nat) (hn : n ≤ 1000) :
    callE Tryz.prog 90 #[.pointer (some ⟨u, 0, none⟩), .int .i64 n] w fun v w' => RdB w' v (takeL n l e) ∧ (∀ g o m c, v = .slice (some ⟨g, o, none⟩) m c → w.heap.size ≤ g) ∧ UnIn w' B u (takeR n l e) (takeE n l e) ∧ w.grownBy w' (some u) := by
  refine calls_E Tryz.func90 rfl rfl rfl (Nat.le_of_ble_eq_true rfl) ?_
  simp [go_sem, IntWalk.iteOmega, IntWalk.toNatUp]
  refine callE_of (take_any h n hn) ?_
  rintro v w1 hp
  simp [go_sem, IntWalk.iteOmega, IntWalk.toNatUp]
  exact hp
theorem unbytes_any {w : World} {B u : Nat} {l : List UInt8} {e : Int} (h : UnIn w B u l e) (most : Nat) (hm : most ≤ 1000) :
    callE Tryz.prog 92 #[.pointer (some ⟨u, 0, none⟩), .int .i64 most] w fun v w' => RdB w' v (cntV 4 most l e).1 ∧ (∀ g o m c, v = .slice (some ⟨g, o, none⟩) m c → w.heap.size ≤ g) ∧ UnIn w' B u (cntV 4 most l e).2.1 (cntV 4 most l e).2.2 ∧ w.grownBy w' (some u) := by
  refine calls_E Tryz.func92 rfl rfl rfl (Nat.le_of_ble_eq_true rfl) ?_
  simp [go_sem, IntWalk.iteOmega, IntWalk.toNatUp]
  refine callE_of (counted_any h 4 most (by omega) hm) ?_
  rintro v w1 hp
  simp [go_sem, IntWalk.iteOmega, IntWalk.toNatUp]
  exact hp
theorem noinit_uerr : Tryz.prog.inits.idxOf? 129 = none := by kernel_rfl
theorem uerr_runs {w : World} {B u : Nat} {l : List UInt8} {e : Int} (h : UnIn w B u l e) : Runs Tryz.prog 129 #[.pointer (some ⟨u, 0, none⟩)] w (.int .i64 e) w := by
  obtain ⟨g, o, c, h1, h2, h3, h4, h5, h6, h7, h8⟩ := h
  refine runs_of_callE ?_
  refine calls_E Tryz.func129 rfl rfl rfl (Nat.le_of_ble_eq_true rfl) ?_
  simp [go_sem, IntWalk.iteOmega, IntWalk.toNatUp, h4.cell]
theorem noinit_uend : Tryz.prog.inits.idxOf? 93 = none := by kernel_rfl
theorem uend_runs {w : World} {B u : Nat} {l : List UInt8} {e : Int} (h : UnIn w B u l e) : Runs Tryz.prog 93 #[.pointer (some ⟨u, 0, none⟩)] w (.int .i64 (if e ≠ 0 then e else if l = [] then 0 else 12)) w := by
  have r0 := fun k => callE_eq noinit_uerr (uerr_runs h) k
  obtain ⟨g, o, c, h1, h2, h3, h4, h5, h6, h7, h8⟩ := h
  refine runs_of_callE ?_
  refine calls_E Tryz.func93 rfl rfl rfl (Nat.le_of_ble_eq_true rfl) ?_
  by_cases he : e = 0
  · have he' : (e != 0) = false := by simp [he]
    by_cases hl : l = []
    · subst hl
      simp [go_sem, IntWalk.iteOmega, IntWalk.toNatUp, r0, he', h4.cell, he]
    · have hl' : ((l.length : Int) == 0) = false := by
        have := List.length_pos_iff.2 hl
        simp; omega
      simp [go_sem, IntWalk.iteOmega, IntWalk.toNatUp, r0, he', h4.cell, he, hl, hl']
  · have he' : (e != 0) = true := by simpa using he
    simp [go_sem, IntWalk.iteOmega, IntWalk.toNatUp, r0, he', he]
set_option maxHeartbeats 3200000 in
theorem read_any {w : World} {v : Value} {l : List UInt8} (h : RdB w v l) (hl : l.length ≤ 100000) :
    callE Tryz.prog 88 #[v] w fun r w' => ∃ u, r = .pointer (some ⟨u, 0, none⟩) ∧ UnIn w' w.heap.size u l 0 ∧ Below w.heap.size w w' := by
  obtain ⟨A, c, rfl, hr, hA, hc, hc2⟩ := h
  have hm := fun W => run_make1 (P := Tryz.prog) Tryz.underlying22 (e := 5) (z := .int .u8 0) (bytes := 1) (by kernel_rfl) rfl l.length (by omega) (by omega) W
  refine calls_E Tryz.func88 rfl rfl rfl (Nat.le_of_ble_eq_true rfl) ?_
  simp [go_sem, IntWalk.iteOmega, IntWalk.toNatUp, hm]
  have kA := ext_alloc w (.cells #[.bool true, .slice (some ⟨w.heap.size + 1, 0, none⟩) l.length l.length, .int .i64 0] 187)
  have kB := kA.alloc kA.size (.cells (Array.replicate l.length (.int .u8 0)) 5)
  have hU : Blk ((w.alloc (.cells #[.bool true, .slice (some ⟨w.heap.size + 1, 0, none⟩) l.length l.length, .int .i64 0] 187)).alloc (.cells (Array.replicate l.length (.int .u8 0)) 5)) w.heap.size 187 #[.bool true, .slice (some ⟨w.heap.size + 1, 0, none⟩) l.length l.length, .int .i64 0] := (Blk.self_ rfl).more _
  have hN : Blk ((w.alloc (.cells #[.bool true, .slice (some ⟨w.heap.size + 1, 0, none⟩) l.length l.length, .int .i64 0] 187)).alloc (.cells (Array.replicate l.length (.int .u8 0)) 5)) (w.heap.size + 1) 5 (Array.replicate l.length (.int .u8 0)) := Blk.self_ (by simp)
  generalize (w.alloc (.cells #[.bool true, .slice (some ⟨w.heap.size + 1, 0, none⟩) l.length l.length, .int .i64 0] 187)).alloc (.cells (Array.replicate l.length (.int .u8 0)) 5) = w2 at *
  refine copyE (te := 5) (cur := Array.replicate l.length (.int .u8 0)) Tryz.underlying22 (by kernel_rfl) (bl l) hN (by show (bl l).length = min l.length l.length; simp [bl]) (fun _ => rfl) (fun hp => ?_) (by simp [bl]) (bl_one _) ?_
  · obtain ⟨b, o, rfl, hb, hc⟩ := hr.cells (by simpa [bl] using hp)
    exact ⟨_, rfl, fun j v hj => by rw [add_none, kB.cell hb]; exact hc j v hj⟩
  · intro w3 cur3 hN3 hcur3 hg3 hs3
    have hU3 : Blk w3 w.heap.size 187 #[.bool true, .slice (some ⟨w.heap.size + 1, 0, none⟩) l.length l.length, .int .i64 0] := (hg3.block _ hU.lt (fun h => by injection h with h; omega)).trans hU
    have hrow : cur3.toList = bl l := by rw [hcur3, List.drop_of_length_le (by simp [bl])]; simp
    simp [go_sem, IntWalk.iteOmega, IntWalk.toNatUp]
    refine ⟨⟨w.heap.size + 1, 0, l.length, by omega, by omega, by omega, hU3, by omega, by omega, hN3.lt, fun j v hj => ?_⟩, kB.grown hg3 kB.size (fun k hk => by injection hk with hk; omega)⟩
    rw [hN3.cell, Nat.zero_add, ← Array.getElem?_toList, hrow]; exact hj
end Go.Proofs.YtdjcjjodbniebaaGreatDoor
