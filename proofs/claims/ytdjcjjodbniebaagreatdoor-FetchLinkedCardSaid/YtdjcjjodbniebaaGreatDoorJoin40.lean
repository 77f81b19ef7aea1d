/-
  Texts joined: FLinkW.
-/
import Derived.Test.YtdjcjjodbniebaaGreatDoorJoin39
namespace Go.Proofs.YtdjcjjodbniebaaGreatDoor
open Go.RowKit
set_option linter.unusedVariables false
set_option linter.unusedSimpArgs false
set_option maxRecDepth 10000
theorem zeroO_lit : zeroO.toArray = #[.int .i64 0, .int .u8 0, .int .u8 0, .bool false, .slice none 0 0, .int .u8 0, .int .u8 0, .slice none 0 0] := rfl
theorem OftenOk.mono' {m k : Nat} {S : FS} (h : OftenOk m S) (hk : m ≤ k) : OftenOk k S := fun x hx => ⟨(h x hx).1, by have := (h x hx).2; omega⟩
theorem wsz (n : UInt8) : (0 < (wA n).length ∧ (wA n).length ≤ 12) ∧ (0 < (wB n).length ∧ (wB n).length ≤ 20) ∧ (0 < (wC n).length ∧ (wC n).length ≤ 12) := by
  have h1 : (wA n).length = wK n := rowL_len' _ _ _
  have h2 : (wC n).length = wK n := rowL_len' _ _ _
  have h3 : (wB n).length = min (wK n / 2) (wA n).length + 3 := by unfold wB; rw [List.length_append, List.length_take, rowL_len']
  have h4 : 1 ≤ wK n ∧ wK n ≤ 12 := by unfold wK; omega
  omega
def begK (n root : UInt8) : Bk := if root.toNat < (wA n).length then (wA n).getD root.toNat firstB else firstB
theorem rowL_checks (which : UInt8) : ∀ (n : Nat) (p : Bk), checkB p = 0 → p.height + n ≤ 9223372036854775807 → ∀ b ∈ rowL which n p, checkB b = 0 ∧ b.height ≤ p.height + n
  | 0, _, _, _ => fun b hb => by cases hb
  | n + 1, p, hp, hh => fun b hb => by
    have e := childB_eq (d := [which]) hp (by omega) (by simp)
    have hc := child_check (p := p) (d := [which]) hp (by simp)
    have e1 : (childB p [which]).1 = ⟨sha (bytesB p), p.height + 1, [which]⟩ := by rw [e]
    rcases List.mem_cons.1 (show b ∈ (childB p [which]).1 :: rowL which n (childB p [which]).1 from hb) with rfl | hb
    · rw [e1]
      exact ⟨hc, by show p.height + 1 ≤ p.height + ((n + 1 : Nat) : Int); omega⟩
    · rw [e1] at hb
      have := rowL_checks which n _ hc (by show p.height + 1 + n ≤ _; omega) b hb
      refine ⟨this.1, ?_⟩
      have h2 : b.height ≤ p.height + 1 + n := this.2
      omega
theorem wA_checks (n : UInt8) : ∀ b ∈ wA n, checkB b = 0 ∧ b.height ≤ 12 := fun b hb => by
  have h4 : wK n ≤ 12 := by unfold wK; omega
  have := rowL_checks 1 (wK n) firstB firstB_check (by show (0:Int) + _ ≤ _; omega) b hb
  refine ⟨this.1, ?_⟩
  have h2 : b.height ≤ 0 + (wK n : Int) := this.2
  omega
theorem wM_check (n : UInt8) : checkB (wM n) = 0 ∧ (wM n).height ≤ 12 := by
  unfold wM
  rw [List.getD_eq_getElem?_getD]
  cases h : (firstB :: wA n)[wK n / 2]? with
  | none => exact ⟨firstB_check, by decide⟩
  | some b =>
    show checkB b = 0 ∧ b.height ≤ 12
    rcases List.mem_cons.1 (List.mem_of_getElem? h) with rfl | hb
    · exact ⟨firstB_check, by decide⟩
    · exact wA_checks n b hb
theorem wB_checks (n : UInt8) : ∀ b ∈ wB n, checkB b = 0 := fun b hb => by
  rcases List.mem_append.1 hb with hb | hb
  · exact (wA_checks n b (List.mem_of_mem_take hb)).1
  · exact (rowL_checks 2 3 (wM n) (wM_check n).1 (by have := (wM_check n).2; omega) b hb).1
theorem wC_checks (n : UInt8) : ∀ b ∈ wC n, checkB b = 0 := fun b hb => by
  have h4 : wK n ≤ 12 := by unfold wK; omega
  exact (rowL_checks 3 (wK n) hB hB_check (by show (0:Int) + _ ≤ _; omega) b hb).1
set_option maxHeartbeats 12800000 in
theorem linked_any {w : World} (hC : Cubes w) {n root : UInt8} {v : Value} {l : List Op1} (hs : Sl w 8 v l.length (l.flatMap opc)) (ho : ∀ o ∈ l, OpIn w o) :
    callE Tryz.prog 4 #[.int .u8 n.toNat, .int .u8 root.toNat, v] w fun r w' => r = .bool true ∧ Below w.heap.size w w' := by
  have hpos := hC.pos
  obtain ⟨vA, vc, rfl, -⟩ := id hs
  refine calls_E Tryz.func4 rfl rfl rfl (Nat.le_of_ble_eq_true rfl) ?_
  simp [go_sem, IntWalk.iteOmega, IntWalk.toNatUp]
  refine callE_of (small_any hs ho) ?_
  rintro _ w1 ⟨⟨A, c, hsm, rfl, hsl⟩ | rfl, k1⟩
  rotate_left
  · simp [go_sem, IntWalk.iteOmega, IntWalk.toNatUp]
    refine callE_of (begun_any (hC.keep k1)) ?_
    rintro _ w2 ⟨rfl, k2⟩
    have k02 := k1.trans (k2.mono k1.size)
    simp [go_sem, IntWalk.iteOmega, IntWalk.toNatUp]
    refine callE_of (begun_any (hC.keep k02)) ?_
    rintro _ w3 ⟨rfl, k3⟩
    simp [go_sem, IntWalk.iteOmega, IntWalk.toNatUp]
    exact k02.trans (k3.mono k02.size)
  have hoL : ∀ o ∈ l.take 40, OpIn w o := fun o h => ho o (List.mem_of_mem_take h)
  have hL40 : (l.take 40).length ≤ 40 := by rw [List.length_take]; omega
  generalize l.take 40 = L at *
  clear hs ho
  simp [go_sem, IntWalk.iteOmega, IntWalk.toNatUp]
  refine callE_of (begun_any (hC.keep k1)) ?_
  rintro _ w2 ⟨rfl, k2⟩
  have k02 := k1.trans (k2.mono k1.size)
  simp [go_sem, IntWalk.iteOmega, IntWalk.toNatUp]
  refine callE_of world_any ?_
  rintro _ w3 ⟨a, b, c3, rfl, ha, hb, hc, k3⟩
  have k03 := k02.trans (k3.mono k02.size)
  have y2 : ∀ (k : Array Value) (t : TypeId), k.size = 3 → canWrite (w3.alloc (.cells k t)) ⟨w3.heap.size, 0, none⟩ 0 3 = true := fun k t hk => canWrite_all (Blk.self_ rfl) 3 hk
  have y3 : ∀ (k : Array Value) (t : TypeId) (l : List Value), k.size = 3 → l.length = 3 → storeSeg (w3.alloc (.cells k t)) ⟨w3.heap.size, 0, none⟩ 0 l = (w3.alloc (.cells k t)).setRow w3.heap.size l.toArray := fun k t l hk hl => storeSeg_all (Blk.self_ rfl) l (by omega)
  obtain ⟨aA, ac, -, rfl, -⟩ := id ha
  obtain ⟨bA, bc, -, rfl, -⟩ := id hb
  obtain ⟨cA, cc, -, rfl, -⟩ := id hc
  simp [go_sem, IntWalk.iteOmega, IntWalk.toNatUp, y2, y3]
  obtain ⟨W3, hW3⟩ : ∃ W3 : Array Value, W3 = #[.slice aA (wA n).length ac, .slice bA (wB n).length bc, .slice cA (wC n).length cc] := ⟨_, rfl⟩
  have kX : Below w3.heap.size w3 ((w3.alloc (.cells #[.slice none 0 0, .slice none 0 0, .slice none 0 0] 60)).setRow w3.heap.size W3) := below_setRow (ext_alloc w3 _) (Nat.le_refl _) _
  have hX : Blk ((w3.alloc (.cells #[.slice none 0 0, .slice none 0 0, .slice none 0 0] 60)).setRow w3.heap.size W3) w3.heap.size 60 W3 := Blk_setRow (Blk.self_ rfl)
  rw [← hW3]
  generalize (w3.alloc (.cells #[.slice none 0 0, .slice none 0 0, .slice none 0 0] 60)).setRow w3.heap.size W3 = w4 at *
  refine callE_of (lfirst_any w4) ?_
  rintro _ w5 ⟨rfl, hd5, k5⟩
  have k35 : Below w3.heap.size w3 w5 := kX.trans (k5.mono kX.size)
  have hX5 := hX.keep k5
  generalize (Value.slice (some ⟨w4.heap.size + 1, 0, none⟩) 1 1) = fv at *
  have l34 : (bkv firstB fv).length = 34 := bkv_len firstB_ok.len
  obtain ⟨fA, fc, efv, -⟩ := id hd5
  have hone : allOne (bkv firstB fv) = true := by rw [efv]; exact bkv_one _ _ _ _
  have y2 : ∀ (k : Array Value) (t : TypeId), k.size = 34 → canWrite (w5.alloc (.cells k t)) ⟨w5.heap.size, 0, none⟩ 0 34 = true := fun k t hk => canWrite_all (Blk.self_ rfl) 34 hk
  have y3 : ∀ (k : Array Value) (t : TypeId) (l : List Value), k.size = 34 → l.length = 34 → storeSeg (w5.alloc (.cells k t)) ⟨w5.heap.size, 0, none⟩ 0 l = (w5.alloc (.cells k t)).setRow w5.heap.size l.toArray := fun k t l hk hl => storeSeg_all (Blk.self_ rfl) l (by omega)
  have kG : Below w5.heap.size w5 ((w5.alloc (.cells zeroB.toArray 29)).setRow w5.heap.size (bkv firstB fv).toArray) := below_setRow (ext_alloc w5 _) (Nat.le_refl _) _
  have hG : Blk ((w5.alloc (.cells zeroB.toArray 29)).setRow w5.heap.size (bkv firstB fv).toArray) w5.heap.size 29 (bkv firstB fv).toArray := Blk_setRow (Blk.self_ rfl)
  have v1 : IntKind.i64.wrap (root.toNat : Int) = (root.toNat : Int) := by rw [wrap_i64_if, if_pos (by have := root.toNat_lt; omega)]
  have hX6 := (hX5.keep kG).cell
  have x0 : ((w5.alloc (.cells zeroB.toArray 29)).setRow w5.heap.size (bkv firstB fv).toArray).cell? ⟨w3.heap.size, 0, none⟩ = some (.slice aA (wA n).length ac) := by rw [hX6, hW3]; rfl
  rw [zeroB_lit] at x0
  simp [go_sem, IntWalk.iteOmega, IntWalk.toNatUp, y2, y3, l34, hone, v1, x0]
  rw [← zeroB_lit] at x0 ⊢
  have hXG := hX5.keep kG
  have hdG := hd5.keep kG
  have hGl := hG.lt
  generalize (w5.alloc (.cells zeroB.toArray 29)).setRow w5.heap.size (bkv firstB fv).toArray = w6 at *
  have hX3l := hX.lt
  have hs45 := k5.size
  refine condN_cut (fun s wz => ∃ (lastB : Bk) (dv : Value), s 7 = .slice A L.length c ∧ s 9 = .pointer (some ⟨w3.heap.size, 0, none⟩) ∧ s 10 = .pointer (some ⟨w5.heap.size, 0, none⟩) ∧ BkOk lastB ∧ checkB lastB = 0 ∧ Blk wz w5.heap.size 29 (bkv lastB dv).toArray ∧ RdB wz dv lastB.data ∧ Below w5.heap.size w5 wz) ?_ ?_
  · by_cases hr : root.toNat < (wA n).length
    · have hr' : (root.toNat : Int) < (wA n).length := by omega
      obtain ⟨lb, lo, rfl, -, hlb, hat⟩ := ha.at2 (by omega)
      obtain ⟨dv, hok, hdv, hrd⟩ := hat _ hr
      have hck := (wA_checks n _ (List.getElem_mem hr)).1
      have k36 := k35.trans (kG.mono k35.size)
      have x1 := hrd w6 k36
      have l34r : (bkv (wA n)[root.toNat] dv).length = 34 := bkv_len hok.len
      obtain ⟨dA, dc, edv, -⟩ := id hdv
      have honer : allOne (bkv (wA n)[root.toNat] dv) = true := by rw [edv]; exact bkv_one _ _ _ _
      have z2 := canWrite_all hG 34 (by simpa using l34)
      have z3 : ∀ (l : List Value), l.length = 34 → storeSeg w6 ⟨w5.heap.size, 0, none⟩ 0 l = w6.setRow w5.heap.size l.toArray := fun l hl => storeSeg_all hG l (by rw [hl]; simpa using l34.symm)
      generalize (wA n)[root.toNat] = lastB at *
      simp [go_sem, IntWalk.iteOmega, IntWalk.toNatUp, hr, hr', x0, x1, l34r, honer, z2, z3, v1]
      have kk : Below w5.heap.size w5 (w6.setRow w5.heap.size (bkv lastB dv).toArray) := below_setRow kG (Nat.le_refl _) _
      exact atCut.mk ⟨lastB, dv, by simp [go_sem], by simp [go_sem], by simp [go_sem], hok, hck, Blk_setRow hG, (hdv.keep k35).keep kk, kk⟩
    · simp [go_sem, IntWalk.iteOmega, IntWalk.toNatUp, hr]
      exact atCut.mk ⟨firstB, fv, by simp [go_sem], by simp [go_sem], by simp [go_sem], firstB_ok, firstB_check, hG, hdG, kG⟩
  clear y2 y3 x0 hG hdG kG hXG hX6 hone l34 efv hd5 hGl v1
  rintro s7 w7 ⟨lastB, dv, e7, e9, e10, hok, hck, hG, hdv, k57⟩
  have hX7 := hX5.keep k57
  have k37 := k35.trans (k57.mono k35.size)
  have k07 := k03.trans (k37.mono k03.size)
  obtain ⟨g, hg⟩ : ∃ g, g = w5.heap.size := ⟨_, rfl⟩
  rw [← hg] at e10 hG
  simp [go_sem, IntWalk.iteOmega, IntWalk.toNatUp, e7, e9, e10]
  have l34 : (bkv lastB dv).length = 34 := bkv_len hok.len
  refine W_flow (fun j => j = g) (.pure 0 (.pure 2 (.pure 3 (.one 1 (.one 4 (.pure 5 (.pure 6 (.pure 7 (.pure 8 (.pure 9 (.done))))))))))) follows (by kernel_rfl) ?_
  have hq7 := held_refl (fun j => j = g) w7.drew
  have hX7d := hX7.drew
  have hG7d := hG.drew
  have hdv7 := hdv.keep (ext_drew w7)
  have k07d := k07.drew
  have k37d := k37.drew
  generalize w7.drew = v7 at *
  have xg := readCells_all hG7d 34 (by simpa using l34)
  have xgl := hG7d.lt
  have x32 : v7.cell? ⟨g, 32, none⟩ = some (.int .i64 lastB.height) := by rw [hG7d.cell, List.getElem?_toArray]; exact bkv_32 (dv := dv) hok.len
  simp [go_sem, IntWalk.iteOmega, IntWalk.toNatUp, e7, e9, e10, hq7, xg, xgl, x32]
  refine callE_of (named_any hok hdv7) ?_
  rintro _ w8 ⟨rfl, k8⟩
  have hq8 := hq7.below k8
  have k08 := k07d.trans (k8.mono k07d.size)
  have k38 := k37d.trans (k8.mono k37d.size)
  simp [go_sem, IntWalk.iteOmega, IntWalk.toNatUp, hq8]
  refine callE_of (fat_new (idB_len _) (by have := k08.size; omega)) ?_
  rintro _ w9 ⟨(⟨hbad, _⟩ | ⟨_, f, O, rfl, hF9, hO9⟩), k9⟩
  · exfalso
    have := checkB_height hck
    omega
  have hq9 := hq8.below k9
  simp [go_sem, IntWalk.iteOmega, IntWalk.toNatUp, e7, e9, e10, hq9]
  have hs89 := k9.size
  have hO : ∀ j, O j → w8.heap.size ≤ j ∧ j < w9.heap.size := fun j hj => ⟨hO9 j hj, hF9.lt j hj⟩
  obtain ⟨N0, hN0⟩ : ∃ N0 : Nat → Prop, N0 = fun j => ¬ O j ∧ j < w9.heap.size := ⟨_, rfl⟩
  have hNlow : ∀ j, j < w8.heap.size → N0 j := fun j h => by rw [hN0]; exact ⟨fun h' => by have := (hO j h').1; omega, by omega⟩
  have step : ∀ {O1 O2 : Nat → Prop} {wa wc : World}, Keeps N0 w9 wa → (∀ j, O1 j → O j ∨ w9.heap.size ≤ j) → Mine O1 O2 wa wc → Keeps N0 w9 wc ∧ (∀ j, O2 j → O j ∨ w9.heap.size ≤ j) := fun {O1 O2 wa wc} g1 g2 g3 => ⟨g1.trans (g3.2.2.mono fun j _ hj hO' => by
    rw [hN0] at hj
    rcases g2 j hO' with h | h
    · exact hj.1 h
    · omega), fun j hj => by
    rcases g3.1 j hj with h | h
    · exact g2 j h
    · exact .inr (Nat.le_trans g1.size h)⟩
  have grow : ∀ {wa wc : World} {u : Option Nat}, Keeps N0 w9 wa → wa.grownBy wc u → (∀ j, u = some j → w9.heap.size ≤ j) → Keeps N0 w9 wc := fun {wa wc u} g1 g2 g3 => g1.trans (Keeps.grown g2 fun k hk h => by
    rw [hN0] at h
    have := g3 k hk
    omega)
  have bel8 : ∀ {wa : World}, Keeps N0 w9 wa → Below w8.heap.size w8 wa := fun {wa} h => k9.trans (h.below (by omega) fun k hk => hNlow k (by omega))
  have bel3 : ∀ {wa : World}, Keeps N0 w9 wa → Below w3.heap.size w3 wa := fun {wa} h => k38.trans ((bel8 h).mono k38.size)
  have bel : ∀ {wa : World}, Keeps N0 w9 wa → Below w.heap.size w wa := fun {wa} h => k08.trans ((bel8 h).mono k08.size)
  have cub : ∀ {wa : World}, Keeps N0 w9 wa → Cubes wa := fun {wa} h => hC.keep (bel h)
  have hX8 := hX7d.keep k8
  have hG8 := hG7d.keep k8
  have hdv8 := hdv7.keep k8
  have lowO : ∀ {Oi : Nat → Prop}, (∀ j, Oi j → O j ∨ w9.heap.size ≤ j) → ∀ j, j < w8.heap.size → ¬ Oi j := fun {Oi} h j hj hO' => by
    rcases h j hO' with h' | h'
    · have := (hO j h').1; omega
    · omega
  have hok9 : FOk ⟨(idB lastB).1, lastB.height, 100, [], [], [], []⟩ := ⟨idB_len _, checkB_height hck, hok.hi, by show (1:Int) ≤ 100 ∧ (100:Int) ≤ 4096; decide, by show (0:Nat) ≤ 32; decide, by simp, by show (0:Nat) ≤ 4096; decide, by simp⟩
  have hlk9 : LinkI ⟨(idB lastB).1, lastB.height, 100, [], [], [], []⟩ lastB [] := ⟨idB_eq hck rfl, rfl, by intro x hx; simp at hx, by simp⟩
  have hsz := wsz n
  have hs8w : w.heap.size ≤ w8.heap.size := k08.size
  have hs83 : w3.heap.size < w8.heap.size := hX8.lt
  have hgl8 : g < w8.heap.size := hG8.lt
  clear xg xgl x32 hq7 hq8 hq9 e7 hX7d hG7d hdv7 k07d k37d k8 k07 k37 k57 hX7 hG hdv hX5 kX hX k35 k5 k03 k3 k02 k2 k1 hg hN0 hO9 hs45 hX3l
  refine W_loop (fun st wr => ∃ (i : Nat) (Oi : Nat → Prop) (S : FS) (T : List (List UInt8)) (tv : Value), i ≤ L.length ∧ st 9 = .pointer (some ⟨w3.heap.size, 0, none⟩) ∧ st 10 = .pointer (some ⟨g, 0, none⟩) ∧ st 12 = .pointer (some ⟨f, 0, none⟩) ∧ st 14 = tv ∧ st 69 = .slice A L.length c ∧ st 70 = .int .i64 L.length ∧ st 71 = .int .i64 i ∧
      FAt wr Oi f S ∧ FOk S ∧ OftenOk i S ∧ LinkI S lastB T ∧ (∀ j, Oi j → O j ∨ w9.heap.size ≤ j) ∧ Keeps N0 w9 wr ∧ wr.ownsRow w9.heap.size 27 32 tv T.length (flatI T) ∧ (∀ x ∈ T, x.length = 32) ∧ T.length ≤ i ∧ ∀ j, tv.ownBlock = some j → ¬ Oi j) (fun st _ => L.length - (intOf (st 71)).toNat) ?_ ?_
  · exact ⟨0, O, _, [], .slice none 0 0, by omega, by simp [go_sem, e9], by simp [go_sem, e10], by simp [go_sem], by simp [go_sem], by simp [go_sem], by simp [go_sem], by simp [go_sem], hF9, hok9, by intro x hx; simp at hx, hlk9, fun j hj => .inl hj, Keeps.refl _ _, World.ownsRow_nil _ _ _ _, by simp, by simp, by simp [Value.ownBlock]⟩
  · clear hF9 hok9 hlk9
    rintro s8 w10 ⟨i, Oi, S, T, tv, hi, e9, e10, e12, e14, e69, e70, e71, hFi, hokS, hOf, hLk, hOi, hKi, htv, hT32, hTn, htO⟩
    by_cases hlt : i < L.length
    · have hlt' : (i : Int) < L.length := by omega
      obtain ⟨lb, lo, eA, hlb, hat⟩ := rd_op hsl hlt
      have hoi := hoL _ (List.getElem_mem hlt)
      have x1 := hat w10 (bel hKi)
      have x1a : ∀ q, readCells (w10.alloc q) ⟨lb, lo + i * 8, none⟩ 0 8 = some (opc L[i]) := fun q => hat _ ((bel hKi).trans ((ext_alloc w10 q).mono (bel hKi).size))
      obtain ⟨ob, hob⟩ : ∃ ob, ob = L[i] := ⟨_, rfl⟩
      rw [← hob] at hoi x1
      simp only [← hob] at x1a
      obtain ⟨oA, oc, efv, hofr, hof0, hofc, hofm⟩ := hoi.2
      obtain ⟨qA, qc, erv, -⟩ := id hoi.1
      have h1c : allOne (opc ob) = true := by
        unfold opc opA opV
        rw [efv, erv]
        rfl
      have l8 : (opc ob).length = 8 := rfl
      have y2 : ∀ (k : Array Value) (t : TypeId), k.size = 8 → canWrite (w10.alloc (.cells k t)) ⟨w10.heap.size, 0, none⟩ 0 8 = true := fun k t hk => canWrite_all (Blk.self_ rfl) 8 hk
      have y3 : ∀ (k : Array Value) (t : TypeId) (l : List Value), k.size = 8 → l.length = 8 → storeSeg (w10.alloc (.cells k t)) ⟨w10.heap.size, 0, none⟩ 0 l = (w10.alloc (.cells k t)).setRow w10.heap.size l.toArray := fun k t l hk hl => storeSeg_all (Blk.self_ rfl) l (by omega)
      have kP : Below w10.heap.size w10 ((w10.alloc (.cells zeroO.toArray 52)).setRow w10.heap.size (opc ob).toArray) := below_setRow (ext_alloc w10 _) (Nat.le_refl _) _
      have hP : Blk ((w10.alloc (.cells zeroO.toArray 52)).setRow w10.heap.size (opc ob).toArray) w10.heap.size 52 (opA ob) := Blk_setRow (Blk.self_ rfl)
      have hXn : ∀ (k : Array Value) (t : TypeId), Blk ((w10.alloc (.cells k t)).setRow w10.heap.size (opc ob).toArray) w3.heap.size 60 W3 := fun k t => (hX8.keep (bel8 hKi)).keep (below_setRow (ext_alloc w10 _) (Nat.le_refl _) _)
      have x30 : ∀ (k : Array Value) (t : TypeId), ((w10.alloc (.cells k t)).setRow w10.heap.size (opc ob).toArray).cell? ⟨w3.heap.size, 0, none⟩ = some (.slice aA (wA n).length ac) := fun k t => by rw [(hXn k t).cell, hW3]; rfl
      have x31 : ∀ (k : Array Value) (t : TypeId), ((w10.alloc (.cells k t)).setRow w10.heap.size (opc ob).toArray).cell? ⟨w3.heap.size, 1, none⟩ = some (.slice bA (wB n).length bc) := fun k t => by rw [(hXn k t).cell, hW3]; rfl
      have x32 : ∀ (k : Array Value) (t : TypeId), ((w10.alloc (.cells k t)).setRow w10.heap.size (opc ob).toArray).cell? ⟨w3.heap.size, 2, none⟩ = some (.slice cA (wC n).length cc) := fun k t => by rw [(hXn k t).cell, hW3]; rfl
      have x8 : ∀ (k : Array Value) (t : TypeId), readCells ((w10.alloc (.cells k t)).setRow w10.heap.size (opc ob).toArray) ⟨w10.heap.size, 0, none⟩ 0 8 = some (opc ob) := fun k t => by
        have h := readCells_all (Blk_setRow (Blk.self_ (w := w10) (t := t) (cs := k) rfl) (cs' := (opc ob).toArray)) 8 rfl
        exact h
      subst eA
      simp [go_sem, IntWalk.iteOmega, IntWalk.toNatUp, e9, e10, e12, e14, e69, e70, e71, hlt, hlt', x1, x1a, y2, y3, l8, h1c, x30, x31, x32, x8]
      rw [← zeroO_lit]
      have hFa := hFi.keep kP
      have hKa := hKi.trans (Keeps.of_ext kP)
      have htva := row_below htv kP
      have hpO : ∀ j, Oi j → j < w10.heap.size := hFi.lt
      have hw10 : w9.heap.size ≤ w10.heap.size := hKi.size
      generalize (w10.alloc (.cells zeroO.toArray 52)).setRow w10.heap.size (opc ob).toArray = wa at *
      obtain ⟨p, hp⟩ : ∃ p, p = w10.heap.size := ⟨_, rfl⟩
      rw [← hp] at hP hpO hw10 ⊢
      refine callE_of (pick_any (ha.keep (bel3 hKa)) (hb.keep (bel3 hKa)) (hc.keep (bel3 hKa)) ⟨hsz.1.1, by omega⟩ ⟨hsz.2.1.1, by omega⟩ ⟨hsz.2.2.1, by omega⟩ ob) ?_
      rintro _ w11 ⟨rfl, k11⟩
      have hXX : ∀ i3, BksR w3 (three (.slice aA (wA n).length ac) (.slice bA (wB n).length bc) (.slice cA (wC n).length cc) i3) (three (wA n) (wB n) (wC n) i3) ∧ (0 < (three (wA n) (wB n) (wC n) i3).length ∧ (three (wA n) (wB n) (wC n) i3).length ≤ 20) ∧ ∀ b ∈ three (wA n) (wB n) (wC n) i3, checkB b = 0 := fun i3 => by
        match i3 with
        | 0 => exact ⟨ha, ⟨hsz.1.1, Nat.le_trans hsz.1.2 (by decide)⟩, fun b hb => (wA_checks n b hb).1⟩
        | 1 => exact ⟨hb, hsz.2.1, wB_checks n⟩
        | n3 + 2 => exact ⟨hc, ⟨hsz.2.2.1, Nat.le_trans hsz.2.2.2 (by decide)⟩, wC_checks n⟩
      obtain ⟨hxR, hxl, hxck⟩ := hXX (ob.b.toNat % 3)
      generalize three (Value.slice aA (wA n).length ac) (.slice bA (wB n).length bc) (.slice cA (wC n).length cc) (ob.b.toNat % 3) = xv at *
      generalize three (wA n) (wB n) (wC n) (ob.b.toNat % 3) = X at *
      obtain ⟨kk, hkk⟩ : ∃ kk, kk = ob.a.toNat % X.length := ⟨_, rfl⟩
      have hkkl : kk < X.length := by rw [hkk]; exact Nat.mod_lt _ hxl.1
      rw [← hkk]
      obtain ⟨xA, xc, -, rfl, -⟩ := id hxR
      have hF11 := hFa.keep k11
      have hK11 := hKa.trans (Keeps.of_ext k11)
      have htv11 := row_below htva k11
      have hP11 := hP.keep k11
      have hpO11 : ¬ Oi p := fun h => by have := hpO p h; omega
      have xd : w11.cell? ⟨p, 0, none⟩ = some (.int .i64 ob.d) := by rw [hP11.cell]; rfl
      clear hkk x1 x1a y2 y3 x30 x31 x32 x8 hXn h1c l8 hXX kP hFa htva hFi hKi htv k11 hlb
      obtain ⟨xb, xo, rfl, -, hxb, hxat⟩ := hxR.at2 hxl.1
      obtain ⟨xdv, hxok, hxd, hxrd⟩ := hxat kk hkkl
      have hxbO : ¬ Oi xb := lowO hOi xb (by omega)
      have hkk1 : (kk : Int) < X.length := by omega
      obtain ⟨hfr50, hraw300⟩ := hsm _ (List.getElem_mem hlt)
      rw [← hob] at hfr50 hraw300
      simp [go_sem, IntWalk.iteOmega, IntWalk.toNatUp, e9, e10, e12, e14, e69, e70, e71, xd]
      refine condC_cut (fun s wz => ∃ (Oj : Nat → Prop) (S' : FS) (T' : List (List UInt8)) (tv' : Value), s 9 = .pointer (some ⟨w3.heap.size, 0, none⟩) ∧ s 10 = .pointer (some ⟨g, 0, none⟩) ∧ s 12 = .pointer (some ⟨f, 0, none⟩) ∧ s 14 = tv' ∧ s 69 = .slice (some ⟨lb, lo, none⟩) L.length c ∧ s 70 = .int .i64 L.length ∧ s 71 = .int .i64 i ∧
        FAt wz Oj f S' ∧ FOk S' ∧ OftenOk (i + 1) S' ∧ LinkI S' lastB T' ∧ (∀ j, Oj j → O j ∨ w9.heap.size ≤ j) ∧ Keeps N0 w9 wz ∧ wz.ownsRow w9.heap.size 27 32 tv' T'.length (flatI T') ∧ (∀ x ∈ T', x.length = 32) ∧ T'.length ≤ i + 1 ∧ ∀ j, tv'.ownBlock = some j → ¬ Oj j) ?_ ?_
      · by_cases hd0 : ob.d = 0
        · have hd0' : (ob.d == 0) = true := by simpa using hd0
          simp [go_sem, IntWalk.iteOmega, IntWalk.toNatUp, e9, e10, e12, e14, e69, e70, e71, hd0']
          refine W_flow (fun j => j = xb ∨ j = p) (.pure 0 (.pure 1 (.pure 2 (.pure 3 (.pure 4 (.pure 6 (.pure 7 (.one 5 (.one 8 (.pure 9 (.done))))))))))) follows (by kernel_rfl) ?_
          have hq := held_refl (fun j => j = xb ∨ j = p) w11.drew
          have hFd := hF11.keep (ext_drew w11)
          have hKd := hK11.trans (Keeps.drew N0 w11)
          have htvd := row_below htv11 (ext_drew w11)
          have hPd := hP11.drew
          generalize w11.drew = v11 at *
          have xe := hxrd v11 (bel3 hKd)
          have x4 : v11.cell? ⟨p, 4, none⟩ = some (.slice oA ob.fr.length oc) := by rw [hPd.cell, ← efv]; rfl
          have hpl := hPd.lt
          have hxbl : xb < v11.heap.size := Nat.lt_of_lt_of_le hxb (bel3 hKd).size
          simp [go_sem, IntWalk.iteOmega, IntWalk.toNatUp, e9, e10, e12, e14, e69, e70, e71, hq, xe, x4, hpl, hxbl, hkkl, hkk1]
          refine callE_of (named_any hxok (hxd.keep (bel3 hKd))) ?_
          rintro _ w12 ⟨rfl, k12⟩
          have hq12 := hq.below k12
          have hF12 := hFd.keep k12
          have hK12 := hKd.trans (Keeps.of_ext k12)
          have htv12 := row_below htvd k12
          simp [go_sem, IntWalk.iteOmega, IntWalk.toNatUp, hq12]
          obtain ⟨nm, hnm⟩ : ∃ nm, nm = (idB X[kk]).1 := ⟨_, rfl⟩
          have hnm32 : nm.length = 32 := by rw [hnm]; exact idB_len _
          rw [← hnm]
          have hkw : Below w.heap.size w w12 := bel hK12
          refine callE_of (fat_target (us := ob.fr) hF12 hokS hnm32 (hofr.keep hkw) (by omega) (fun j hj hO' => by
            have h1 := atB_lt hofr hj
            exact lowO hOi j (by omega) hO')) ?_
          rintro _ w13 ⟨rfl, O13, hF13, hM13⟩
          have hok13 := targetF_ok hokS hnm32 ob.fr
          have hlk13 := hLk.target nm ob.fr
          have hof13 : OftenOk (i + 1) (targetF S nm ob.fr).2 := (OftenOk.mono' hOf (by omega)).target nm ob.fr
          obtain ⟨R, hR⟩ : ∃ R, R = targetF S nm ob.fr := ⟨_, rfl⟩
          rw [← hR] at hF13 hok13 hlk13 hof13 ⊢
          obtain ⟨hK13, hO13⟩ := step hK12 hOi hM13
          have htv13 := row_keeps htv12 hM13.2.2 htO
          have htO13 : ∀ j, tv.ownBlock = some j → ¬ O13 j := fun j hj h => (hM13.1 j h).elim (htO j hj) fun h' => by have := (htv12.lt j hj).2; omega
          have hq13 : heldE (fun j => j = xb ∨ j = p) v11 w13 := by
            refine ⟨Nat.le_trans k12.size hM13.2.2.size, fun j hj hl => ?_⟩
            rcases hj with rfl | rfl
            · exact (hM13.2.2.block _ (Nat.lt_of_lt_of_le hl k12.size) hxbO).trans (k12.block _ hl)
            · exact (hM13.2.2.block _ (Nat.lt_of_lt_of_le hl k12.size) hpO11).trans (k12.block _ hl)
          by_cases hR0 : R.1 = 0
          · have hR0' : (R.1 == 0) = true := by simpa using hR0
            rw [if_pos hR0] at hlk13
            have xe13 := hxrd w13 (bel3 hK13)
            simp [go_sem, IntWalk.iteOmega, IntWalk.toNatUp, e9, e10, e12, e14, e69, e70, e71, hq13, hR0', xe13, hkkl, hkk1]
            refine callE_of (named_any hxok (hxd.keep (bel3 hK13))) ?_
            rintro _ w14 ⟨rfl, k14⟩
            rw [← hnm]
            have hF14 := hF13.keep k14
            have hK14 := hK13.trans (Keeps.of_ext k14)
            have htv14 := row_below htv13 k14
            have lnm : (bl nm).length = 32 := by rw [bl_length]; exact hnm32
            simp [go_sem, IntWalk.iteOmega, IntWalk.toNatUp, e9, e10, e12, e14, e69, e70, e71, lnm]
            rw [fold_i (bl nm) lnm]
            have kI := ext_alloc w14 (.cells (bl nm).toArray 27)
            have hI : Blk (w14.alloc (.cells (bl nm).toArray 27)) w14.heap.size 27 (bl nm).toArray := Blk.self_ rfl
            have hrI := rd_one hI lnm
            have hF15 := hF14.keep kI
            have hK15 := hK14.trans (Keeps.of_ext kI)
            have htv15 := row_below htv14 kI
            have hs14 : w13.heap.size ≤ w14.heap.size := k14.size
            have hs13 := hK14.size
            have hO13lt := hF13.lt
            generalize w14.alloc (.cells (bl nm).toArray 27) = w15 at *
            refine appendE w9.heap.size 27 32 32 Tryz.underlying37 el27 htv15 hrI (bl_one nm) (by unfold maxLen; omega) (by omega) hK15.size ?_
            intro tv' w16 hr16 hg16 hb16
            have hF16 : FAt w16 O13 f R.2 := hF15.keeps (Keeps.grown hg16 fun j hj => htO13 j hj)
            have hK16 : Keeps N0 w9 w16 := grow hK15 hg16 fun j hj => (htv15.lt j hj).1
            simp [go_sem, IntWalk.iteOmega, IntWalk.toNatUp, e9, e10, e12, e14, e69, e70, e71]
            refine atCut.mk ⟨O13, R.2, T ++ [nm], tv', by simp [go_sem, e9], by simp [go_sem, e10], by simp [go_sem, e12], by simp [go_sem], by simp [go_sem, e69], by simp [go_sem, e70], by simp [go_sem, e71], hF16, hok13, hof13, hlk13, hO13, hK16, ?_, ?_, ?_, ?_⟩
            · have e1 : flatI T ++ bl nm = flatI (T ++ [nm]) := by simp [flatI]
              rw [e1] at hr16
              rw [List.length_append]
              exact hr16
            · intro x hx
              rcases List.mem_append.1 hx with hx | hx
              · exact hT32 x hx
              · obtain rfl : x = nm := by simpa using hx
                exact hnm32
            · rw [List.length_append]
              show T.length + 1 ≤ i + 1
              omega
            · intro j hj
              rcases hb16 with h | h
              · exact htO13 j (by rw [← h]; exact hj)
              · rw [h] at hj
                injection hj with hj
                intro h'
                have := hO13lt j h'
                have := kI.size
                omega
          · have hR0' : (R.1 == 0) = false := by simpa using hR0
            rw [if_neg hR0] at hlk13
            simp [go_sem, IntWalk.iteOmega, IntWalk.toNatUp, e9, e10, e12, e14, e69, e70, e71, hq13, hR0']
            exact atCut.mk ⟨O13, R.2, T, tv, by simp [go_sem, e9], by simp [go_sem, e10], by simp [go_sem, e12], by simp [go_sem, e14], by simp [go_sem, e69], by simp [go_sem, e70], by simp [go_sem, e71], hF13, hok13, hof13, hlk13, hO13, hK13, htv13, hT32, by omega, htO13⟩
        · have hd0' : (ob.d == 0) = false := by simpa using hd0
          by_cases hd2 : ob.d = 2
          · have hd2' : (ob.d == 2) = true := by simpa using hd2
            have xe11 := hxrd w11 (bel3 hK11)
            simp [go_sem, IntWalk.iteOmega, IntWalk.toNatUp, e9, e10, e12, e14, e69, e70, e71, hd0', hd2', xe11, hkkl, hkk1]
            refine callE_of (named_any hxok (hxd.keep (bel3 hK11))) ?_
            rintro _ w12 ⟨rfl, k12⟩
            have hF12 := hF11.keep k12
            have hK12 := hK11.trans (Keeps.of_ext k12)
            have htv12 := row_below htv11 k12
            simp [go_sem, IntWalk.iteOmega, IntWalk.toNatUp, e9, e10, e12, e14, e69, e70, e71]
            refine callE_of (fat_fail hF12 hokS (idB_len _)) ?_
            rintro _ w13 ⟨rfl, O13, hF13, hM13⟩
            obtain ⟨hK13, hO13⟩ := step hK12 hOi hM13
            have htv13 := row_keeps htv12 hM13.2.2 htO
            have htO13 : ∀ j, tv.ownBlock = some j → ¬ O13 j := fun j hj h => (hM13.1 j h).elim (htO j hj) fun h' => by have := (htv12.lt j hj).2; omega
            simp [go_sem, IntWalk.iteOmega, IntWalk.toNatUp, e9, e10, e12, e14, e69, e70, e71]
            exact atCut.mk ⟨O13, _, T, tv, by simp [go_sem, e9], by simp [go_sem, e10], by simp [go_sem, e12], by simp [go_sem, e14], by simp [go_sem, e69], by simp [go_sem, e70], by simp [go_sem, e71], hF13, failF_ok hokS _, (OftenOk.mono' hOf (by omega)).fail _, hLk.fail _, hO13, hK13, htv13, hT32, by omega, htO13⟩
          · have hd2' : (ob.d == 2) = false := by simpa using hd2
            simp [go_sem, IntWalk.iteOmega, IntWalk.toNatUp, e9, e10, e12, e14, e69, e70, e71, hd0', hd2']
            refine callE_of (fat_wants hF11 hokS (cub hK11)) ?_
            rintro wv w12 ⟨hwv, k12⟩
            have hF12 := hF11.keep k12
            have hK12 := hK11.trans (Keeps.of_ext k12)
            have htv12 := row_below htv11 k12
            have hP12 := hP11.keep k12
            have hOlt12 := hF12.lt
            have hw32 : ∀ x ∈ (wantsF S).take 1, x.length = 32 := by
              obtain ⟨_, _, _, _, _, _, h, _⟩ := hwv
              exact fun x hx => h x (List.mem_of_mem_take hx)
            simp [go_sem, IntWalk.iteOmega, IntWalk.toNatUp, e9, e10, e12, e14, e69, e70, e71]
            refine callE_of (told_wants hwv 1 (by decide) 1 rfl) ?_
            rintro rv w13 ⟨hrv, k13⟩
            have hF13 := hF12.keep k13
            have hK13 := hK12.trans (Keeps.of_ext k13)
            have htv13 := row_below htv12 k13
            have hP13 := hP12.keep k13
            have hw1 : ((wantsF S).take 1).length ≤ 1 := by rw [List.length_take]; omega
            generalize (wantsF S).take 1 = ws at *
            have hrvO : ∀ j, rv.ownBlock = some j → ¬ Oi j := fun j hj h => by
              have h1 := (hrv.lt j hj).1
              have h2 := hOlt12 j h
              omega
            obtain ⟨-, rA, rc, rfl⟩ := own_sl hrv
            clear hF12 hK12 htv12 hP12 hF11 hK11 htv11 hP11 hwv k12 k13 xd
            simp [go_sem, IntWalk.iteOmega, IntWalk.toNatUp, e9, e10, e12, e14, e69, e70, e71]
            refine W_loop (fun st wr => ∃ (j kq : Nat) (Oj : Nat → Prop) (S' : FS), j ≤ ws.length ∧ kq < X.length ∧ st 9 = .pointer (some ⟨w3.heap.size, 0, none⟩) ∧ st 10 = .pointer (some ⟨g, 0, none⟩) ∧ st 12 = .pointer (some ⟨f, 0, none⟩) ∧ st 14 = tv ∧ st 16 = .pointer (some ⟨p, 0, none⟩) ∧ st 17 = .slice (some ⟨xb, xo, none⟩) X.length xc ∧ st 18 = .int .i64 kq ∧ st 69 = .slice (some ⟨lb, lo, none⟩) L.length c ∧ st 70 = .int .i64 L.length ∧ st 71 = .int .i64 i ∧ st 85 = .slice rA ws.length rc ∧ st 86 = .int .i64 ws.length ∧ st 87 = .int .i64 j ∧
              FAt wr Oj f S' ∧ FOk S' ∧ OftenOk (i + j) S' ∧ LinkI S' lastB T ∧ (∀ j, Oj j → O j ∨ w9.heap.size ≤ j) ∧ Keeps N0 w9 wr ∧ wr.ownsRow w9.heap.size 27 32 tv T.length (flatI T) ∧ (∀ j, tv.ownBlock = some j → ¬ Oj j) ∧ ¬ Oj p ∧ Blk wr p 52 (opA ob) ∧ wr.ownsRow w12.heap.size 27 32 (.slice rA ws.length rc) ws.length (flatI ws) ∧ ∀ j, (Value.slice rA ws.length rc).ownBlock = some j → ¬ Oj j) (fun st _ => ws.length - (intOf (st 87)).toNat) ?_ ?_
            · exact ⟨0, kk, Oi, S, by omega, hkkl, by simp [go_sem, e9], by simp [go_sem, e10], by simp [go_sem, e12], by simp [go_sem, e14], by simp [go_sem], by simp [go_sem], by simp [go_sem], by simp [go_sem, e69], by simp [go_sem, e70], by simp [go_sem, e71], by simp [go_sem], by simp [go_sem], by simp [go_sem], hF13, hokS, hOf, hLk, hOi, hK13, htv13, htO, hpO11, hP13, hrv, hrvO⟩
            clear e9 e10 e12 e14 e69 e70 e71 hF13 hokS hOf hLk hOi hK13 htv13 htO hpO11 hP13 hrv hrvO
            rintro s9 w14 ⟨j, kq, Oj, S', hj, hkq, e9, e10, e12, e14, e16, e17, e18, e69, e70, e71, e85, e86, e87, hFj, hokj, hOfj, hLkj, hOj, hKj, htvj, htOj, hpOj, hPj, hrvj, hrvOj⟩
            by_cases hjl : j < ws.length
            · have hjI : (j : Int) < ws.length := by omega
              obtain ⟨nb, no, rfl, hnb, hnat⟩ := rd_name (Rd.of_own hrvj) hw32 hjl
              have hx32 := hw32 _ (List.getElem_mem hjl)
              obtain ⟨x, hx⟩ : ∃ x, x = ws[j] := ⟨_, rfl⟩
              rw [← hx] at hx32
              simp only [← hx] at hnat
              have l32 : (bl x).length = 32 := by rw [bl_length]; exact hx32
              have xn := hnat w14 (Below.refl _ _)
              have xna : ∀ q, readCells (w14.alloc q) ⟨nb, no + j * 32, none⟩ 0 32 = some (bl x) := fun q => hnat _ (ext_alloc w14 q)
              have y2 : ∀ (k : Array Value) (t : TypeId), k.size = 32 → canWrite (w14.alloc (.cells k t)) ⟨w14.heap.size, 0, none⟩ 0 32 = true := fun k t hk => canWrite_all (Blk.self_ rfl) 32 hk
              have y3 : ∀ (k : Array Value) (t : TypeId) (l : List Value), k.size = 32 → l.length = 32 → storeSeg (w14.alloc (.cells k t)) ⟨w14.heap.size, 0, none⟩ 0 l = (w14.alloc (.cells k t)).setRow w14.heap.size l.toArray := fun k t l hk hl => storeSeg_all (Blk.self_ rfl) l (by omega)
              have xq : ∀ (k : Array Value) (t : TypeId), readCells ((w14.alloc (.cells k t)).setRow w14.heap.size (bl x).toArray) ⟨w14.heap.size, 0, none⟩ 0 32 = some (bl x) := fun k t => readCells_all (Blk_setRow (Blk.self_ (w := w14) (t := t) (cs := k) rfl) (cs' := (bl x).toArray)) 32 (by simpa using l32)
              simp [go_sem, IntWalk.iteOmega, IntWalk.toNatUp, e9, e10, e12, e14, e16, e17, e18, e69, e70, e71, e85, e86, e87, hjl, hjI, xn, xna, y2, y3, l32, bl_one, xq]
              rw [← zeroI_lit]
              have kQ : Below w14.heap.size w14 ((w14.alloc (.cells zeroI.toArray 27)).setRow w14.heap.size (bl x).toArray) := below_setRow (ext_alloc w14 _) (Nat.le_refl _) _
              have hQ : Blk ((w14.alloc (.cells zeroI.toArray 27)).setRow w14.heap.size (bl x).toArray) w14.heap.size 27 (bl x).toArray := Blk_setRow (Blk.self_ rfl)
              have hF15 := hFj.keep kQ
              have hK15 := hKj.trans (Keeps.of_ext kQ)
              have htv15 := row_below htvj kQ
              have hP15 := hPj.keep kQ
              have hrv15 := row_below hrvj kQ
              have hqO : ¬ Oj w14.heap.size := fun h => by have := hFj.lt _ h; omega
              generalize (w14.alloc (.cells zeroI.toArray 27)).setRow w14.heap.size (bl x).toArray = w15 at *
              generalize w14.heap.size = q at *
              clear xn xna y2 y3 xq hnat kQ hFj hKj htvj hPj hrvj hnb
              refine callE_of (fat_ask hF15 hokj (cub hK15) hOfj (by omega) hx32) ?_
              rintro _ w16 ⟨rfl, O16, hF16, hM16⟩
              have hok16 := askF_ok hokj x
              have hOf16 := hOfj.ask x
              have hLk16 := hLkj.ask x
              generalize (askF S' x).2 = S2 at *
              obtain ⟨hK16, hO16⟩ := step hK15 hOj hM16
              have stay : ∀ {wz : World} {u : Nat}, ¬ Oj u → u < w15.heap.size → ¬ O16 u := fun {wz u} h1 h2 h => (hM16.1 u h).elim h1 fun h => by omega
              have htv16 := row_keeps htv15 hM16.2.2 htOj
              have hP16 := hM16.2.2.blk hP15 hpOj
              have hQ16 := hM16.2.2.blk hQ hqO
              have hrv16 := row_keeps hrv15 hM16.2.2 hrvOj
              have htO16 : ∀ u, tv.ownBlock = some u → ¬ O16 u := fun u hu h => (hM16.1 u h).elim (htOj u hu) fun h => by have := (htv15.lt u hu).2; omega
              have hrvO16 : ∀ u, (Value.slice (some ⟨nb, no, none⟩) ws.length rc).ownBlock = some u → ¬ O16 u := fun u hu h => (hM16.1 u h).elim (hrvOj u hu) fun h => by have := (hrv15.lt u hu).2; omega
              have hpO16 : ¬ O16 p := fun h => (hM16.1 p h).elim hpOj fun h => by have := hP15.lt; omega
              have hqO16 : ¬ O16 q := fun h => (hM16.1 q h).elim hqO fun h => by have := hQ.lt; omega
              clear stay hF15 hK15 htv15 hP15 hQ hrv15 hM16 hqO hrvOj hpOj htOj hOj hOfj hokj hLkj
              simp [go_sem, IntWalk.iteOmega, IntWalk.toNatUp, e9, e10, e12, e14, e16, e17, e18, e69, e70, e71, e85, e86, e87]
              refine W_loop (fun st wr => ∃ (m kr : Nat), m ≤ X.length ∧ kr < X.length ∧ st 9 = .pointer (some ⟨w3.heap.size, 0, none⟩) ∧ st 10 = .pointer (some ⟨g, 0, none⟩) ∧ st 12 = .pointer (some ⟨f, 0, none⟩) ∧ st 14 = tv ∧ st 16 = .pointer (some ⟨p, 0, none⟩) ∧ st 17 = .slice (some ⟨xb, xo, none⟩) X.length xc ∧ st 18 = .int .i64 kr ∧ st 20 = .pointer (some ⟨q, 0, none⟩) ∧ st 69 = .slice (some ⟨lb, lo, none⟩) L.length c ∧ st 70 = .int .i64 L.length ∧ st 71 = .int .i64 i ∧ st 85 = .slice (some ⟨nb, no, none⟩) ws.length rc ∧ st 86 = .int .i64 ws.length ∧ st 87 = .int .i64 j ∧ st 94 = .slice (some ⟨xb, xo, none⟩) X.length xc ∧ st 95 = .int .i64 X.length ∧ st 96 = .int .i64 m ∧ Below w16.heap.size w16 wr) (fun st _ => X.length - (intOf (st 96)).toNat) ?_ ?_
              · exact ⟨0, kq, by omega, hkq, by simp [go_sem, e9], by simp [go_sem, e10], by simp [go_sem, e12], by simp [go_sem, e14], by simp [go_sem, e16], by simp [go_sem, e17], by simp [go_sem, e18], by simp [go_sem], by simp [go_sem, e69], by simp [go_sem, e70], by simp [go_sem, e71], by simp [go_sem, e85], by simp [go_sem, e86], by simp [go_sem, e87], by simp [go_sem], by simp [go_sem], by simp [go_sem], Below.refl _ _⟩
              clear e9 e10 e12 e14 e16 e17 e18 e69 e70 e71 e85 e86 e87
              rintro s10 w17 ⟨m, kr, hm, hkr, e9, e10, e12, e14, e16, e17, e18, e20, e69, e70, e71, e85, e86, e87, e94, e95, e96, hB17⟩
              have hK17 := hK16.trans (Keeps.of_ext hB17)
              by_cases hml : m < X.length
              · have hmI : (m : Int) < X.length := by omega
                obtain ⟨mdv, hmok, hmd, hmrd⟩ := hxat m hml
                have k3z := bel3 hK17
                have xm := hmrd w17 k3z
                have xma : ∀ o, readCells (w17.alloc o) ⟨xb, xo + m * 34, none⟩ 0 34 = some (bkv X[m] mdv) := fun o => hmrd _ (k3z.trans ((ext_alloc w17 o).mono k3z.size))
                have l34 : (bkv X[m] mdv).length = 34 := bkv_len hmok.len
                obtain ⟨mA, mc, emdv, -⟩ := id hmd
                have hone : allOne (bkv X[m] mdv) = true := by rw [emdv]; exact bkv_one _ _ _ _
                have y2 : ∀ (k : Array Value) (t : TypeId), k.size = 34 → canWrite (w17.alloc (.cells k t)) ⟨w17.heap.size, 0, none⟩ 0 34 = true := fun k t hk => canWrite_all (Blk.self_ rfl) 34 hk
                have y3 : ∀ (k : Array Value) (t : TypeId) (l : List Value), k.size = 34 → l.length = 34 → storeSeg (w17.alloc (.cells k t)) ⟨w17.heap.size, 0, none⟩ 0 l = (w17.alloc (.cells k t)).setRow w17.heap.size l.toArray := fun k t l hk hl => storeSeg_all (Blk.self_ rfl) l (by omega)
                simp [go_sem, IntWalk.iteOmega, IntWalk.toNatUp, e9, e10, e12, e14, e16, e17, e18, e20, e69, e70, e71, e85, e86, e87, e94, e95, e96, hml, hmI, xm, xma, y2, y3, l34, hone]
                rw [← zeroB_lit]
                have kV : Below w17.heap.size w17 ((w17.alloc (.cells zeroB.toArray 29)).setRow w17.heap.size (bkv X[m] mdv).toArray) := below_setRow (ext_alloc w17 _) (Nat.le_refl _) _
                have hV : Blk ((w17.alloc (.cells zeroB.toArray 29)).setRow w17.heap.size (bkv X[m] mdv).toArray) w17.heap.size 29 (bkv X[m] mdv).toArray := Blk_setRow (Blk.self_ rfl)
                have hQ17 := (hQ16.keep hB17).keep kV
                have hB18 := hB17.trans (kV.mono hB17.size)
                generalize (w17.alloc (.cells zeroB.toArray 29)).setRow w17.heap.size (bkv X[m] mdv).toArray = w18 at *
                generalize w17.heap.size = u at *
                refine W_flow (fun j => j = u ∨ j = q) (.pure 0 (.pure 2 (.one 1 (.pure 3 (.done))))) follows (by kernel_rfl) ?_
                have hq := held_refl (fun j => j = u ∨ j = q) w18.drew
                have hVd := hV.drew
                have hQd := hQ17.drew
                have hB18d := hB18.drew
                generalize w18.drew = v18 at *
                have xv := readCells_all hVd 34 (by simpa using l34)
                have xq := readCells_all hQd 32 (by simpa using l32)
                have hul := hVd.lt
                have hql := hQd.lt
                simp [go_sem, IntWalk.iteOmega, IntWalk.toNatUp, e9, e10, e12, e14, e16, e17, e18, e20, e69, e70, e71, e85, e86, e87, e94, e95, e96, hq, xv, xq, hul, hql]
                have hK18 := hK16.trans (Keeps.of_ext hB18d)
                refine callE_of (named_any hmok (hmd.keep (bel3 hK18))) ?_
                rintro _ w19 ⟨rfl, k19⟩
                have hq19 := hq.below k19
                have hqe := fun W => id_eq (idB X[m]).1 x (idB_len _) hx32 W
                have hB19 := hB18d.trans (k19.mono hB18d.size)
                by_cases hxe : (idB X[m]).1 = x
                · have hxe' : ((idB X[m]).1 == x) = true := by simpa using hxe
                  simp [go_sem, IntWalk.iteOmega, IntWalk.toNatUp, e9, e10, e12, e14, e16, e17, e18, e20, e69, e70, e71, e85, e86, e87, e94, e95, e96, hq19, hqe, hxe']
                  refine roundEnd.mk ⟨m + 1, m, by omega, hml, by simp [go_sem, e9], by simp [go_sem, e10], by simp [go_sem, e12], by simp [go_sem, e14], by simp [go_sem, e16], by simp [go_sem, e17], by simp [go_sem], by simp [go_sem, e20], by simp [go_sem, e69], by simp [go_sem, e70], by simp [go_sem, e71], by simp [go_sem, e85], by simp [go_sem, e86], by simp [go_sem, e87], by simp [go_sem, e94], by simp [go_sem, e95], by simp [go_sem], hB19⟩ ?_
                  simp [go_sem, intOf, e96]; omega
                · have hxe' : ((idB X[m]).1 == x) = false := by simpa using hxe
                  simp [go_sem, IntWalk.iteOmega, IntWalk.toNatUp, e9, e10, e12, e14, e16, e17, e18, e20, e69, e70, e71, e85, e86, e87, e94, e95, e96, hq19, hqe, hxe']
                  refine roundEnd.mk ⟨m + 1, kr, by omega, hkr, by simp [go_sem, e9], by simp [go_sem, e10], by simp [go_sem, e12], by simp [go_sem, e14], by simp [go_sem, e16], by simp [go_sem, e17], by simp [go_sem, e18], by simp [go_sem, e20], by simp [go_sem, e69], by simp [go_sem, e70], by simp [go_sem, e71], by simp [go_sem, e85], by simp [go_sem, e86], by simp [go_sem, e87], by simp [go_sem, e94], by simp [go_sem, e95], by simp [go_sem], hB19⟩ ?_
                  simp [go_sem, intOf, e96]; omega
              · have hmI : ¬ (m : Int) < X.length := by omega
                have hF17 := hF16.keep hB17
                have htv17 := row_below htv16 hB17
                have hP17 := hP16.keep hB17
                have hQ17 := hQ16.keep hB17
                have hrv17 := row_below hrv16 hB17
                clear hF16 hK16 htv16 hP16 hQ16 hrv16 hB17
                simp [go_sem, IntWalk.iteOmega, IntWalk.toNatUp, e9, e10, e12, e14, e16, e17, e18, e20, e69, e70, e71, e85, e86, e87, e94, e95, e96, hml, hmI]
                refine W_flow (fun u => u = p ∨ u = q) (.pure 0 (.pure 1 (.pure 2 (.pure 3 (.pure 4 (.one 5 (.one 6 (.done)))))))) follows (by kernel_rfl) ?_
                have hq := held_refl (fun u => u = p ∨ u = q) w17.drew
                have hFd := hF17.keep (ext_drew w17)
                have hKd := hK17.trans (Keeps.drew N0 w17)
                have htvd := row_below htv17 (ext_drew w17)
                have hPd := hP17.drew
                have hQd := hQ17.drew
                have hrvd := row_below hrv17 (ext_drew w17)
                generalize w17.drew = v17 at *
                have xq := readCells_all hQd 32 (by simpa using l32)
                have xp : readCells v17 ⟨p, 0, none⟩ 0 8 = some (opc ob) := readCells_all hPd 8 rfl
                have hpl := hPd.lt
                have hql := hQd.lt
                have hrawW := hoi.1.keep (bel hKd)
                simp [go_sem, IntWalk.iteOmega, IntWalk.toNatUp, e9, e10, e12, e14, e16, e17, e18, e20, e69, e70, e71, e85, e86, e87, hq, xq, xp, hpl, hql]
                refine callE_of (conts_any (d := ob.d) (a := ob.a.toNat) (b := ob.b.toNat) (want := ob.want) (fv := ob.fv) (rv := ob.rv) (many := ob.many) (bad := ob.bad) (raw := ob.raw) (hxR.keep (bel3 hKd)) hxck hkr (by omega) hrawW) ?_
                rintro cv w18 ⟨⟨vals, hcv, hcr, hcf⟩, k18⟩
                have hcl : (contL X kr ob.many ob.bad ob.raw).length = contN kr ob.many := by unfold contL; simp
                rw [← hcl] at hcv
                obtain ⟨-, cvA, cvc, rfl⟩ := own_sl hcv
                have hF18 := hFd.keep k18
                have hK18 := hKd.trans (Keeps.of_ext k18)
                have htv18 := row_below htvd k18
                have hP18 := hPd.keep k18
                have hrv18 := row_below hrvd k18
                have hq18 := hq.below k18
                have hOlt := hFd.lt
                have hccs := own_caps hcv
                simp [go_sem, IntWalk.iteOmega, IntWalk.toNatUp, hq18]
                refine callE_of (fat_got (raws := contL X kr ob.many ob.bad ob.raw) (vals := vals) hF18 hok16 (cub hK18) hx32 (Rd.of_own hcv) hcr hccs.1 hccs.2 (fun j' hj' hO' => by
                  have h1 := (hcv.lt j' (atB_row hcv hj')).1
                  have h2 := hOlt j' hO'
                  omega) (fun u hu A n c e j' hj' hO' => by
                  rcases hcf u hu with h | h
                  · rw [h] at e
                    have h1 := far_of hoi.1 A n c e j' hj'
                    exact lowO hO16 j' (by omega) hO'
                  · have h1 := h A n c e j' hj'
                    have h2 := hOlt j' hO'
                    omega)) ?_
                rintro _ w19 ⟨rfl, hok19, O19, hF19, hM19⟩
                have hOf19 := hOf16.got x (contL X kr ob.many ob.bad ob.raw)
                have hLk19 := hLk16.got x (contL X kr ob.many ob.bad ob.raw)
                obtain ⟨hK19, hO19⟩ := step hK18 hO16 hM19
                have htv19 := row_keeps htv18 hM19.2.2 htO16
                have hP19 := hM19.2.2.blk hP18 hpO16
                have hrv19 := row_keeps hrv18 hM19.2.2 hrvO16
                have htO19 : ∀ u, tv.ownBlock = some u → ¬ O19 u := fun u hu h => (hM19.1 u h).elim (htO16 u hu) fun h => by have := (htv18.lt u hu).2; omega
                have hrvO19 : ∀ u, (Value.slice (some ⟨nb, no, none⟩) ws.length rc).ownBlock = some u → ¬ O19 u := fun u hu h => (hM19.1 u h).elim (hrvO16 u hu) fun h => by have := (hrv18.lt u hu).2; omega
                have hpO19 : ¬ O19 p := fun h => (hM19.1 p h).elim hpO16 fun h => by have := hP18.lt; omega
                have hq19 : heldE (fun u => u = p ∨ u = q) v17 w19 := by
                  refine ⟨Nat.le_trans k18.size hM19.2.2.size, fun u hu hl => ?_⟩
                  rcases hu with rfl | rfl
                  · exact (hM19.2.2.block _ (Nat.lt_of_lt_of_le hl k18.size) hpO16).trans (k18.block _ hl)
                  · exact (hM19.2.2.block _ (Nat.lt_of_lt_of_le hl k18.size) hqO16).trans (k18.block _ hl)
                generalize gotF S2 x (contL X kr ob.many ob.bad ob.raw) = G at *
                simp [go_sem, IntWalk.iteOmega, IntWalk.toNatUp, e9, e10, e12, e14, e16, e17, e18, e20, e69, e70, e71, e85, e86, e87, hq19]
                refine roundEnd.mk ⟨j + 1, kr, O19, G.2, by omega, hkr, by simp [go_sem, e9], by simp [go_sem, e10], by simp [go_sem, e12], by simp [go_sem, e14], by simp [go_sem, e16], by simp [go_sem, e17], by simp [go_sem, e18], by simp [go_sem, e69], by simp [go_sem, e70], by simp [go_sem, e71], by simp [go_sem, e85], by simp [go_sem, e86], by simp [go_sem], hF19, hok19, hOf19, hLk19, hO19, hK19, htv19, htO19, hpO19, hP19, hrv19, hrvO19⟩ ?_
                simp [go_sem, intOf, e87]; omega
            · obtain rfl : j = ws.length := by omega
              simp [go_sem, IntWalk.iteOmega, IntWalk.toNatUp, e9, e10, e12, e14, e16, e17, e18, e69, e70, e71, e85, e86, e87]
              exact atCut.mk ⟨Oj, S', T, tv, by simp [go_sem, e9], by simp [go_sem, e10], by simp [go_sem, e12], by simp [go_sem, e14], by simp [go_sem, e69], by simp [go_sem, e70], by simp [go_sem, e71], hFj, hokj, hOfj.mono' (by omega), hLkj, hOj, hKj, htvj, hT32, by omega, htOj⟩
      clear e9 e10 e12 e14 e69 e70 e71 hOf hLk hOi htO hokS hF11 hK11 htv11 hP11 hpO11 hpO xd hxR hxck hxat hxok hxd hxrd hT32 hTn hoi
      rintro s9 w12 ⟨Oj, S', T', tv', e9, e10, e12, e14, e69, e70, e71, hFj, hokj, hOfj, hLkj, hOj, hKj, htvj, hT32j, hTnj, htOj⟩
      have hall : ∃ (bs : List Bk) (e : Int) (dn : Bool), chainF S' = (bs, e) ∧ decide (missL S' = []) = dn ∧ ((e = 0 ∧ dn = true) ∨ (e = 7 ∧ dn = false ∧ bs.length = 0)) ∧ LinkL lastB bs ∧ ∀ b, bs.getLast? = some b → (idB b).1 ∈ T' := by
        obtain ⟨h1, h2⟩ := chain_link hLkj.last hLkj.height hck hokj hLkj.named
        refine ⟨(chainF S').1, (chainF S').2, decide (missL S' = []), rfl, rfl, ?_, h1, fun b hb => ?_⟩
        · by_cases hms : missL S' = []
          · exact .inl ⟨chain_done.1.2 hms, by simpa using hms⟩
          · refine .inr ?_
            have e : chainF S' = ([], 7) := by unfold chainF; rw [if_pos hms]
            rw [e]
            exact ⟨rfl, by simpa using hms, rfl⟩
        · obtain ⟨t, ht, e⟩ := h2 b hb
          rw [e]
          exact hLkj.ts t ht
      obtain ⟨bs, e, dn, hce, hdn, hed, hlink, htop⟩ := hall
      simp [go_sem, IntWalk.iteOmega, IntWalk.toNatUp, e9, e10, e12, e14, e69, e70, e71]
      refine callE_of (fat_chain hFj hokj (cub hKj)) ?_
      rintro _ w13 ⟨cv, rfl, hcv, hcvl, k13⟩
      rw [hce] at hcv hcvl ⊢
      dsimp only at hcv hcvl
      have hF13 := hFj.keep k13
      have hK13 := hKj.trans (Keeps.of_ext k13)
      have htv13 := row_below htvj k13
      obtain ⟨-, cvA, cvc, rfl⟩ := own_sl (id hcv).choose_spec.2.1
      simp [go_sem, IntWalk.iteOmega, IntWalk.toNatUp, e9, e10, e12, e14, e69, e70, e71]
      refine callE_of (fat_done hF13 hokj (cub hK13)) ?_
      rintro _ w14 ⟨rfl, k14⟩
      rw [hdn]
      have hF14 := hF13.keep k14
      have hK14 := hK13.trans (Keeps.of_ext k14)
      have htv14 := row_below htv13 k14
      have hcv14 := hcv.keep k14
      have hG14 := hG8.keep (bel8 hK14)
      have hd14 := hdv8.keep (bel8 hK14)
      have xg := readCells_all hG14 34 (by simpa using l34)
      have xga : ∀ o, readCells (w14.alloc o) ⟨g, 0, none⟩ 0 34 = some (bkv lastB dv) := fun o => readCells_all (hG14.more o) 34 (by simpa using l34)
      obtain ⟨dA, dc, edv, -⟩ := id hd14
      have hone : allOne (bkv lastB dv) = true := by rw [edv]; exact bkv_one _ _ _ _
      have y2 : ∀ (k : Array Value) (t : TypeId), k.size = 34 → canWrite (w14.alloc (.cells k t)) ⟨w14.heap.size, 0, none⟩ 0 34 = true := fun k t hk => canWrite_all (Blk.self_ rfl) 34 hk
      have y3 : ∀ (k : Array Value) (t : TypeId) (l : List Value), k.size = 34 → l.length = 34 → storeSeg (w14.alloc (.cells k t)) ⟨w14.heap.size, 0, none⟩ 0 l = (w14.alloc (.cells k t)).setRow w14.heap.size l.toArray := fun k t l hk hl => storeSeg_all (Blk.self_ rfl) l (by omega)
      have kV : Below w14.heap.size w14 ((w14.alloc (.cells zeroB.toArray 29)).setRow w14.heap.size (bkv lastB dv).toArray) := below_setRow (ext_alloc w14 _) (Nat.le_refl _) _
      have hV : Blk ((w14.alloc (.cells zeroB.toArray 29)).setRow w14.heap.size (bkv lastB dv).toArray) w14.heap.size 29 (bkv lastB dv).toArray := Blk_setRow (Blk.self_ rfl)
      clear hF13 hK13 htv13 hFj hKj htvj k13 k14 hce hdn
      rcases hed with ⟨rfl, rfl⟩ | ⟨rfl, rfl, hb0⟩
      case' inl =>
        have hb0 : True = True := rfl
        simp [go_sem, IntWalk.iteOmega, IntWalk.toNatUp, e9, e10, e12, e14, e69, e70, e71, xg, xga, y2, y3, l34, hone]
      case' inr =>
        have hb0' : (bs.length : Int) = 0 := by omega
        simp [go_sem, IntWalk.iteOmega, IntWalk.toNatUp, e9, e10, e12, e14, e69, e70, e71, xg, xga, y2, y3, l34, hone, hb0, hb0']
      all_goals
        rw [← zeroB_lit]
        have hF15 := hF14.keep kV
        have hK15 := hK14.trans (Keeps.of_ext kV)
        generalize (w14.alloc (.cells zeroB.toArray 29)).setRow w14.heap.size (bkv lastB dv).toArray = w15 at *
        obtain ⟨bq, hbq⟩ : ∃ bq, bq = w14.heap.size := ⟨_, rfl⟩
        rw [← hbq] at hV ⊢
        clear xg xga y2 y3 hone edv hG14
        refine W_loop (fun st wr => ∃ (m : Nat) (pB : Bk) (pdv : Value), m ≤ bs.length ∧ st 9 = .pointer (some ⟨w3.heap.size, 0, none⟩) ∧ st 10 = .pointer (some ⟨g, 0, none⟩) ∧ st 12 = .pointer (some ⟨f, 0, none⟩) ∧ st 14 = tv' ∧ st 69 = .slice (some ⟨lb, lo, none⟩) L.length c ∧ st 70 = .int .i64 L.length ∧ st 71 = .int .i64 i ∧ st 23 = .slice cvA bs.length cvc ∧ st 25 = .pointer (some ⟨bq, 0, none⟩) ∧ st 164 = .slice cvA bs.length cvc ∧ st 165 = .int .i64 bs.length ∧ st 166 = .int .i64 m ∧
          BkOk pB ∧ RdB w14 pdv pB.data ∧ Blk wr bq 29 (bkv pB pdv).toArray ∧ LinkL pB (bs.drop m) ∧ (m = 0 ∨ bs[m - 1]? = some pB) ∧ Below w14.heap.size w14 wr) (fun st _ => bs.length - (intOf (st 166)).toNat) ?_ ?_
        · exact ⟨0, lastB, dv, by omega, by simp [go_sem, e9], by simp [go_sem, e10], by simp [go_sem, e12], by simp [go_sem, e14], by simp [go_sem, e69], by simp [go_sem, e70], by simp [go_sem, e71], by simp [go_sem, hb0], by simp [go_sem], by simp [go_sem, hb0], by simp [go_sem, hb0], by simp [go_sem], hok, hd14, hV, hlink, .inl rfl, kV⟩
        · clear e9 e10 e12 e14 e69 e70 e71 hV hF15 hK15 kV
          rintro s10 w16 ⟨m, pB, pdv, hm, e9, e10, e12, e14, e69, e70, e71, e23, e25, e164, e165, e166, hpok, hpd, hpB, hlk, hpm, hB16⟩
          by_cases hml : m < bs.length
          · have hmI : (m : Int) < bs.length := by omega
            obtain ⟨qb, qo, rfl, -, hqb, hqat⟩ := hcv14.rd.at2 (by omega)
            obtain ⟨qdv, hqok, hqd, hqrd⟩ := hqat m hml
            have hdr : bs.drop m = bs[m] :: bs.drop (m + 1) := List.drop_eq_getElem_cons hml
            rw [hdr] at hlk
            obtain ⟨hlk1, hlk2⟩ := hlk
            have xm := hqrd w16 hB16
            have xma : ∀ o, readCells (w16.alloc o) ⟨qb, qo + m * 34, none⟩ 0 34 = some (bkv bs[m] qdv) := fun o => hqrd _ (hB16.trans ((ext_alloc w16 o).mono hB16.size))
            have l34m : (bkv bs[m] qdv).length = 34 := bkv_len hqok.len
            have l34p : (bkv pB pdv).length = 34 := bkv_len hpok.len
            obtain ⟨qA', qc', eqdv, -⟩ := id hqd
            have honem : allOne (bkv bs[m] qdv) = true := by rw [eqdv]; exact bkv_one _ _ _ _
            have hbm : bs[m]? = some bs[m] := List.getElem?_eq_getElem hml
            generalize bs[m] = cB at *
            have y2 : ∀ (k : Array Value) (t : TypeId), k.size = 34 → canWrite (w16.alloc (.cells k t)) ⟨w16.heap.size, 0, none⟩ 0 34 = true := fun k t hk => canWrite_all (Blk.self_ rfl) 34 hk
            have y3 : ∀ (k : Array Value) (t : TypeId) (l : List Value), k.size = 34 → l.length = 34 → storeSeg (w16.alloc (.cells k t)) ⟨w16.heap.size, 0, none⟩ 0 l = (w16.alloc (.cells k t)).setRow w16.heap.size l.toArray := fun k t l hk hl => storeSeg_all (Blk.self_ rfl) l (by omega)
            have hP2 : ∀ (k : Array Value) (t : TypeId), Blk ((w16.alloc (.cells k t)).setRow w16.heap.size (bkv cB qdv).toArray) bq 29 (bkv pB pdv).toArray := fun k t => hpB.keep (below_setRow (ext_alloc w16 _) (Nat.le_refl _) _)
            have y5 : ∀ (k : Array Value) (t : TypeId), readCells ((w16.alloc (.cells k t)).setRow w16.heap.size (bkv cB qdv).toArray) ⟨bq, 0, none⟩ 0 34 = some (bkv pB pdv) := fun k t => readCells_all (hP2 k t) 34 (by simpa using l34p)
            have y6 : ∀ (k : Array Value) (t : TypeId), readCells ((w16.alloc (.cells k t)).setRow w16.heap.size (bkv cB qdv).toArray) ⟨w16.heap.size, 0, none⟩ 0 34 = some (bkv cB qdv) := fun k t => readCells_all (Blk_setRow (Blk.self_ (w := w16) (t := t) (cs := k) rfl) (cs' := (bkv cB qdv).toArray)) 34 (by simpa using l34m)
            simp [go_sem, IntWalk.iteOmega, IntWalk.toNatUp, e9, e10, e12, e14, e69, e70, e71, e23, e25, e164, e165, e166, hml, hmI, xm, xma, y2, y3, y5, y6, l34m, l34p, honem]
            rw [← zeroB_lit]
            have kC : Below w16.heap.size w16 ((w16.alloc (.cells zeroB.toArray 29)).setRow w16.heap.size (bkv cB qdv).toArray) := below_setRow (ext_alloc w16 _) (Nat.le_refl _) _
            have hC17 : Blk ((w16.alloc (.cells zeroB.toArray 29)).setRow w16.heap.size (bkv cB qdv).toArray) w16.heap.size 29 (bkv cB qdv).toArray := Blk_setRow (Blk.self_ rfl)
            have hP17 := hpB.keep kC
            have hB17 := hB16.trans (kC.mono hB16.size)
            generalize (w16.alloc (.cells zeroB.toArray 29)).setRow w16.heap.size (bkv cB qdv).toArray = w17 at *
            generalize w16.heap.size = cq at *
            clear y2 y3 y5 y6 hP2 xma xm
            refine callE_of (rlinked_any hqok (hqd.keep hB17) hpok (hpd.keep hB17)) ?_
            rintro _ w18 ⟨rfl, k18⟩
            rw [hlk1]
            have hB18 := hB17.trans (k18.mono hB17.size)
            have hC18 := hC17.keep k18
            have hP18 := hP17.keep k18
            have z1 := readCells_all hC18 34 (by simpa using l34m)
            have z2 := canWrite_all hP18 34 (by simpa using l34p)
            have z3 : ∀ (l : List Value), l.length = 34 → storeSeg w18 ⟨bq, 0, none⟩ 0 l = w18.setRow bq l.toArray := fun l hl => storeSeg_all hP18 l (by rw [hl]; simpa using l34p.symm)
            simp [go_sem, IntWalk.iteOmega, IntWalk.toNatUp, e9, e10, e12, e14, e69, e70, e71, e23, e25, e164, e165, e166, z1, z2, z3, l34m, honem]
            refine roundEnd.mk ⟨m + 1, cB, qdv, by omega, by simp [go_sem, e9], by simp [go_sem, e10], by simp [go_sem, e12], by simp [go_sem, e14], by simp [go_sem, e69], by simp [go_sem, e70], by simp [go_sem, e71], by simp [go_sem, e23], by simp [go_sem, e25], by simp [go_sem, e164], by simp [go_sem, e165], by simp [go_sem], hqok, hqd, Blk_setRow hP18, hlk2, .inr (by rw [Nat.add_sub_cancel]; exact hbm), below_setRow hB18 (by omega) _⟩ ?_
            simp [go_sem, intOf, e166]; omega
          · obtain rfl : m = bs.length := by omega
            have hF16 := hF14.keep hB16
            have hK16 := hK14.trans (Keeps.of_ext hB16)
            have htv16 := row_below htv14 hB16
            have l34p : (bkv pB pdv).length = 34 := bkv_len hpok.len
            have xp := readCells_all hpB 34 (by simpa using l34p)
            obtain ⟨-, tA, tc, rfl⟩ := own_sl htv16
            by_cases hb : 0 < bs.length
            · have hbI : (0 : Int) < bs.length := by omega
              have hbne : ¬ bs = [] := by rintro rfl; simp at hb
              simp [go_sem, IntWalk.iteOmega, IntWalk.toNatUp, e9, e10, e12, e14, e69, e70, e71, e23, e25, e164, e165, e166, hb, hbI, hbne, xp]
              refine callE_of (named_any hpok (hpd.keep hB16)) ?_
              rintro _ w17 ⟨rfl, k17⟩
              have hin : (idB pB).1 ∈ T' := by
                refine htop pB ?_
                rcases hpm with h | h
                · omega
                · rw [List.getLast?_eq_getElem?]
                  exact h
              simp [go_sem, IntWalk.iteOmega, IntWalk.toNatUp, e9, e10, e12, e14, e69, e70, e71]
              refine callE_of (containsN_any ((Rd.of_own htv16).keep k17) hT32j (by omega) (idB_len _)) ?_
              rintro _ w18 ⟨rfl, k18⟩
              have hin' : decide ((idB pB).1 ∈ T') = true := by simpa using hin
              have k1618 := k17.trans (k18.mono k17.size)
              simp [go_sem, IntWalk.iteOmega, IntWalk.toNatUp, e9, e10, e12, e14, e69, e70, e71, hin', hin]
              refine roundEnd.mk ⟨i + 1, Oj, S', T', _, by omega, by simp [go_sem, e9], by simp [go_sem, e10], by simp [go_sem, e12], by simp [go_sem, e14], by simp [go_sem, e69], by simp [go_sem, e70], by simp [go_sem], hF16.keep k1618, hokj, hOfj, hLkj, hOj, hK16.trans (Keeps.of_ext k1618), row_below htv16 k1618, hT32j, hTnj, htOj⟩ ?_
              simp [go_sem, intOf, e71]; omega
            · have hb0'' : bs = [] := List.length_eq_zero_iff.1 (by omega)
              simp [go_sem, IntWalk.iteOmega, IntWalk.toNatUp, e9, e10, e12, e14, e69, e70, e71, e23, e25, e164, e165, e166, hb, hb0'']
              refine roundEnd.mk ⟨i + 1, Oj, S', T', _, by omega, by simp [go_sem, e9], by simp [go_sem, e10], by simp [go_sem, e12], by simp [go_sem, e14], by simp [go_sem, e69], by simp [go_sem, e70], by simp [go_sem], hF16, hokj, hOfj, hLkj, hOj, hK16, htv16, hT32j, hTnj, htOj⟩ ?_
              simp [go_sem, intOf, e71]; omega
    · obtain rfl : i = L.length := by omega
      simp [go_sem, IntWalk.iteOmega, IntWalk.toNatUp, e9, e10, e12, e14, e69, e70, e71]
      exact bel hKi
end Go.Proofs.YtdjcjjodbniebaaGreatDoor
