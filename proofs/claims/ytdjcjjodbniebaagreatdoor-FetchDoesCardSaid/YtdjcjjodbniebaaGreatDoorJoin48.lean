/-
  Texts joined: FPairW.
-/
import Derived.Test.YtdjcjjodbniebaaGreatDoorJoin47
namespace Go.Proofs.YtdjcjjodbniebaaGreatDoor
open Go.RowKit
set_option linter.unusedVariables false
set_option linter.unusedSimpArgs false
set_option maxRecDepth 10000
theorem zeroO_lit2 : zeroO.toArray = #[.int .i64 0, .int .u8 0, .int .u8 0, .bool false, .slice none 0 0, .int .u8 0, .int .u8 0, .slice none 0 0] := rfl
theorem wsz2 (n : UInt8) : (0 < (wA n).length ∧ (wA n).length ≤ 12) ∧ (0 < (wB n).length ∧ (wB n).length ≤ 20) ∧ (0 < (wC n).length ∧ (wC n).length ≤ 12) := by
  have h1 : (wA n).length = wK n := rowL_len' _ _ _
  have h2 : (wC n).length = wK n := rowL_len' _ _ _
  have h3 : (wB n).length = min (wK n / 2) (wA n).length + 3 := by unfold wB; rw [List.length_append, List.length_take, rowL_len']
  have h4 : 1 ≤ wK n ∧ wK n ≤ 12 := by unfold wK; omega
  omega
theorem rowL_checks2 (which : UInt8) : ∀ (n : Nat) (p : Bk), checkB p = 0 → p.height + n ≤ 9223372036854775807 → ∀ b ∈ rowL which n p, checkB b = 0 ∧ b.height ≤ p.height + n
  | 0, _, _, _ => fun b hb => by cases hb
  | n + 1, p, hp, hh => fun b hb => by
    have e := childB_eq (d := [which]) hp (by omega) (by simp)
    have hc := child_check (p := p) (d := [which]) hp (by simp)
    have e1 : (childB p [which]).1 = ⟨sha (bytesB p), p.height + 1, [which]⟩ := by rw [e]
    rcases List.mem_cons.1 (show b ∈ (childB p [which]).1 :: rowL which n (childB p [which]).1 from hb) with rfl | hb
    · rw [e1]
      exact ⟨hc, by show p.height + 1 ≤ p.height + ((n + 1 : Nat) : Int); omega⟩
    · rw [e1] at hb
      have := rowL_checks2 which n _ hc (by show p.height + 1 + n ≤ _; omega) b hb
      refine ⟨this.1, ?_⟩
      have h2 : b.height ≤ p.height + 1 + n := this.2
      omega
theorem wA_checks2 (n : UInt8) : ∀ b ∈ wA n, checkB b = 0 ∧ b.height ≤ 12 := fun b hb => by
  have h4 : wK n ≤ 12 := by unfold wK; omega
  have := rowL_checks2 1 (wK n) firstB firstB_check (by show (0:Int) + _ ≤ _; omega) b hb
  refine ⟨this.1, ?_⟩
  have h2 : b.height ≤ 0 + (wK n : Int) := this.2
  omega
theorem wM_check2 (n : UInt8) : checkB (wM n) = 0 ∧ (wM n).height ≤ 12 := by
  unfold wM
  rw [List.getD_eq_getElem?_getD]
  cases h : (firstB :: wA n)[wK n / 2]? with
  | none => exact ⟨firstB_check, by decide⟩
  | some b =>
    show checkB b = 0 ∧ b.height ≤ 12
    rcases List.mem_cons.1 (List.mem_of_getElem? h) with rfl | hb
    · exact ⟨firstB_check, by decide⟩
    · exact wA_checks2 n b hb
theorem wB_checks2 (n : UInt8) : ∀ b ∈ wB n, checkB b = 0 := fun b hb => by
  rcases List.mem_append.1 hb with hb | hb
  · exact (wA_checks2 n b (List.mem_of_mem_take hb)).1
  · exact (rowL_checks2 2 3 (wM n) (wM_check2 n).1 (by have := (wM_check2 n).2; omega) b hb).1
theorem wC_checks2 (n : UInt8) : ∀ b ∈ wC n, checkB b = 0 := fun b hb => by
  have h4 : wK n ≤ 12 := by unfold wK; omega
  exact (rowL_checks2 3 (wK n) hB hB_check (by show (0:Int) + _ ≤ _; omega) b hb).1
def id9 : List UInt8 := 9 :: List.replicate 31 0
theorem id9_lit : (bl id9).toArray = #[Value.int .u8 9, Value.int .u8 0, Value.int .u8 0, Value.int .u8 0, Value.int .u8 0, Value.int .u8 0, Value.int .u8 0, Value.int .u8 0, Value.int .u8 0, Value.int .u8 0, Value.int .u8 0, Value.int .u8 0, Value.int .u8 0, Value.int .u8 0, Value.int .u8 0, Value.int .u8 0, Value.int .u8 0, Value.int .u8 0, Value.int .u8 0, Value.int .u8 0, Value.int .u8 0, Value.int .u8 0, Value.int .u8 0, Value.int .u8 0, Value.int .u8 0, Value.int .u8 0, Value.int .u8 0, Value.int .u8 0, Value.int .u8 0, Value.int .u8 0, Value.int .u8 0, Value.int .u8 0] := rfl
theorem FIn.recopy {w0 wc wd : World} {O O' : Nat → Prop} {x f : Nat} {S S' : FS} {tv tvf : Value} {r1 r2 r3 rk ra ro : Nat} {vs vsf : List Value} {K : List (List UInt8 × Bk × Value)} (hc : FIn wc (CopyO w0 wc K) x S tv r1 r2 r3 vs K) (hO : ∀ j, O j → j < w0.heap.size) (hk : Keeps (fun j => ¬ O j ∧ j < wc.heap.size) wc wd) (hf : FIn wd O' f S' tvf rk ra ro vsf K) : FIn wd (CopyO w0 wc K) x S tv r1 r2 r3 vs K := by
  have hkN : Keeps (fun j => CopyO w0 wc K j ∧ ∀ y ∈ K, y.2.2.ownBlock ≠ some j) wc wd := hk.mono fun j _ hj => by
    rcases hj.1 with h | ⟨y, hy, e⟩
    · exact ⟨fun h' => by have := hO j h'; omega, h.2⟩
    · exact absurd e (hj.2 y hy)
  exact ⟨hc.of, hc.ok, hc.oa, hc.oo, hc.ka, hc.ko, hc.ao, fun j hj => Nat.lt_of_lt_of_le (hc.lt j hj) hk.size, hc.zero, hkN.blk hc.blk ⟨hc.of, fun y hy e => row_ne (hc.dat y hy).2.1 hc.blk (by decide) e⟩, row_keeps hc.row hkN (fun j hj => ⟨hc.orow j hj, fun y hy e => rows_ne hc.row (hc.dat y hy).2.1 (by decide) j hj e⟩), hc.orow,
    ⟨hc.rows.len, fun i v l h1 h2 => ⟨row_keeps (hc.rows.at_ i v l h1 h2).1 hkN (fun j hj => ⟨(hc.rows.at_ i v l h1 h2).2 j hj, fun y hy e => rows_ne (hc.rows.at_ i v l h1 h2).1 (hc.dat y hy).2.1 (by decide) j hj e⟩), (hc.rows.at_ i v l h1 h2).2⟩, hc.rows.apart⟩, hc.kept, hc.mpk.keeps hkN ⟨hc.ok, fun y hy e => row_map (hc.dat y hy).2.1 hc.mpk e⟩, fun y hy => ⟨(hc.dat y hy).1, (hf.dat y hy).2.1, (hc.dat y hy).2.2⟩, hc.ma.keeps hkN ⟨hc.oa, fun y hy e => row_map (hc.dat y hy).2.1 hc.ma e⟩, hc.mo.keeps hkN ⟨hc.oo, fun y hy e => row_map (hc.dat y hy).2.1 hc.mo e⟩⟩
set_option maxHeartbeats 25600000 in
theorem does22_any {w : World} (hC : Cubes w) {n root : UInt8} {rm : Int} {v : Value} {l : List Op1} (hs : Sl w 8 v l.length (l.flatMap opc)) (ho : ∀ o ∈ l, OpIn w o) :
    callE Tryz.prog 6 #[.int .u8 n.toNat, .int .u8 root.toNat, .int .i64 rm, v] w fun r w' => r = .bool true ∧ Below w.heap.size w w' := by
  have hpos := hC.pos
  obtain ⟨vA, vc, rfl, -⟩ := id hs
  refine calls_E Tryz.func6 rfl rfl rfl (Nat.le_of_ble_eq_true rfl) ?_
  simp [go_sem, IntWalk.iteOmega, IntWalk.toNatUp]
  refine callE_of (small_any hs ho) ?_
  rintro _ w1 ⟨⟨A, c, hsm, rfl, hsl⟩ | rfl, k1⟩
  rotate_left
  · simp [go_sem, IntWalk.iteOmega, IntWalk.toNatUp]
    refine callE_of (begun_any (hC.keep k1)) ?_
    rintro _ w2 ⟨rfl, k2⟩
    have k02 := k1.trans (k2.mono k1.size)
    simp [go_sem, IntWalk.iteOmega, IntWalk.toNatUp]
    refine callE_of (begun_any (hC.keep k02)) ?_
    rintro _ w3 ⟨rfl, k3⟩
    simp [go_sem, IntWalk.iteOmega, IntWalk.toNatUp]
    exact k02.trans (k3.mono k02.size)
  have hoL : ∀ o ∈ l.take 40, OpIn w o := fun o h => ho o (List.mem_of_mem_take h)
  have hL40 : (l.take 40).length ≤ 40 := by rw [List.length_take]; omega
  generalize l.take 40 = L at *
  clear hs ho
  simp [go_sem, IntWalk.iteOmega, IntWalk.toNatUp]
  refine callE_of (begun_any (hC.keep k1)) ?_
  rintro _ w2 ⟨rfl, k2⟩
  have k02 := k1.trans (k2.mono k1.size)
  simp [go_sem, IntWalk.iteOmega, IntWalk.toNatUp]
  refine callE_of world_any ?_
  rintro _ w3 ⟨a, b, c3, rfl, ha, hb, hc, k3⟩
  have k03 := k02.trans (k3.mono k02.size)
  have y2 : ∀ (k : Array Value) (t : TypeId), k.size = 3 → canWrite (w3.alloc (.cells k t)) ⟨w3.heap.size, 0, none⟩ 0 3 = true := fun k t hk => canWrite_all (Blk.self_ rfl) 3 hk
  have y3 : ∀ (k : Array Value) (t : TypeId) (l : List Value), k.size = 3 → l.length = 3 → storeSeg (w3.alloc (.cells k t)) ⟨w3.heap.size, 0, none⟩ 0 l = (w3.alloc (.cells k t)).setRow w3.heap.size l.toArray := fun k t l hk hl => storeSeg_all (Blk.self_ rfl) l (by omega)
  obtain ⟨aA, ac, -, rfl, -⟩ := id ha
  obtain ⟨bA, bc, -, rfl, -⟩ := id hb
  obtain ⟨cA, cc, -, rfl, -⟩ := id hc
  simp [go_sem, IntWalk.iteOmega, IntWalk.toNatUp, y2, y3]
  obtain ⟨W3, hW3⟩ : ∃ W3 : Array Value, W3 = #[.slice aA (wA n).length ac, .slice bA (wB n).length bc, .slice cA (wC n).length cc] := ⟨_, rfl⟩
  have kX : Below w3.heap.size w3 ((w3.alloc (.cells #[.slice none 0 0, .slice none 0 0, .slice none 0 0] 60)).setRow w3.heap.size W3) := below_setRow (ext_alloc w3 _) (Nat.le_refl _) _
  have hX : Blk ((w3.alloc (.cells #[.slice none 0 0, .slice none 0 0, .slice none 0 0] 60)).setRow w3.heap.size W3) w3.heap.size 60 W3 := Blk_setRow (Blk.self_ rfl)
  rw [← hW3]
  generalize (w3.alloc (.cells #[.slice none 0 0, .slice none 0 0, .slice none 0 0] 60)).setRow w3.heap.size W3 = w4 at *
  refine callE_of (lfirst_any w4) ?_
  rintro _ w5 ⟨rfl, hd5, k5⟩
  have k35 : Below w3.heap.size w3 w5 := kX.trans (k5.mono kX.size)
  have hX5 := hX.keep k5
  generalize (Value.slice (some ⟨w4.heap.size + 1, 0, none⟩) 1 1) = fv at *
  simp [go_sem, IntWalk.iteOmega, IntWalk.toNatUp]
  refine callE_of (named_any firstB_ok hd5) ?_
  rintro _ w6 ⟨rfl, k6⟩
  have k36 := k35.trans (k6.mono k35.size)
  have hX6 := hX5.keep k6
  have lnf : (bl (idB firstB).1).length = 32 := by rw [bl_length]; exact idB_len _
  have y2 : ∀ (k : Array Value) (t : TypeId), k.size = 32 → canWrite (w6.alloc (.cells k t)) ⟨w6.heap.size, 0, none⟩ 0 32 = true := fun k t hk => canWrite_all (Blk.self_ rfl) 32 hk
  have y3 : ∀ (k : Array Value) (t : TypeId) (l : List Value), k.size = 32 → l.length = 32 → storeSeg (w6.alloc (.cells k t)) ⟨w6.heap.size, 0, none⟩ 0 l = (w6.alloc (.cells k t)).setRow w6.heap.size l.toArray := fun k t l hk hl => storeSeg_all (Blk.self_ rfl) l (by omega)
  obtain ⟨nf, hnf⟩ : ∃ nf, nf = (idB firstB).1 := ⟨_, rfl⟩
  have hnf32 : nf.length = 32 := by rw [hnf]; exact idB_len _
  rw [← hnf] at lnf ⊢
  have v1 : IntKind.i64.wrap (root.toNat : Int) = (root.toNat : Int) := by rw [wrap_i64_if, if_pos (by have := root.toNat_lt; omega)]
  have kG : Below w6.heap.size w6 ((w6.alloc (.cells zeroI.toArray 27)).setRow w6.heap.size (bl nf).toArray) := below_setRow (ext_alloc w6 _) (Nat.le_refl _) _
  have hG : Blk ((w6.alloc (.cells zeroI.toArray 27)).setRow w6.heap.size (bl nf).toArray) w6.heap.size 27 (bl nf).toArray := Blk_setRow (Blk.self_ rfl)
  have x0 : ((w6.alloc (.cells zeroI.toArray 27)).setRow w6.heap.size (bl nf).toArray).cell? ⟨w3.heap.size, 0, none⟩ = some (.slice aA (wA n).length ac) := by rw [(hX6.keep kG).cell, hW3]; rfl
  rw [zeroI_lit] at x0
  simp [go_sem, IntWalk.iteOmega, IntWalk.toNatUp, y2, y3, lnf, bl_one, v1, x0]
  rw [← zeroI_lit] at x0 ⊢
  have hXG := hX6.keep kG
  generalize (w6.alloc (.cells zeroI.toArray 27)).setRow w6.heap.size (bl nf).toArray = w7 at *
  have hsz := wsz2 n
  obtain ⟨q12, hq12⟩ : ∃ q12, q12 = w6.heap.size := ⟨_, rfl⟩
  rw [← hq12] at hG ⊢
  have hX3 : w3.heap.size < w6.heap.size := hX6.lt
  clear y2 y3 k5 k6 kX hX hX5 lnf hnf
  refine condN_cut (fun s wz => ∃ (nm : List UInt8) (ht : Int), s 2 = .int .i64 rm ∧ s 9 = .slice A L.length c ∧ s 11 = .pointer (some ⟨w3.heap.size, 0, none⟩) ∧ s 12 = .pointer (some ⟨q12, 0, none⟩) ∧ s 13 = .int .i64 ht ∧ nm.length = 32 ∧ 0 ≤ ht ∧ ht ≤ 9223372036854775807 ∧ Blk wz q12 27 (bl nm).toArray ∧ Below w6.heap.size w6 wz) ?_ ?_
  · by_cases hr : root.toNat < (wA n).length
    · have hr' : (root.toNat : Int) < (wA n).length := by omega
      obtain ⟨lb, lo, rfl, -, hlb, hat⟩ := ha.at2 (by omega)
      obtain ⟨dv, hok, hdv, hrd⟩ := hat _ hr
      have hck := (wA_checks2 n _ (List.getElem_mem hr)).1
      simp [go_sem, IntWalk.iteOmega, IntWalk.toNatUp, hr, hr', v1]
      obtain ⟨A', c', xs, e', hxm, hrx, -, -, hxo⟩ := id ha
      injection e' with e1 e2 e3
      subst e1
      obtain ⟨b', o', eA', hb', hcs⟩ := hrx.cells (by omega)
      injection eA' with eA'
      injection eA' with eA1 eA2
      subst eA1 eA2
      obtain ⟨dv2, hok2, hdv2, hcells⟩ := rd_block hxm hxo hcs hr
      have x32w := hcells 32 _ (bkv_32 (dv := dv2) hok2.len)
      refine W_flow (fun j => j = w3.heap.size ∨ j = lb) (.pure 0 (.pure 1 (.pure 2 (.pure 3 (.pure 4 (.pure 6 (.pure 7 (.pure 8 (.pure 9 (.pure 10 (.pure 11 (.one 5 (.one 12 (.pure 13 (.done))))))))))))))) follows (by kernel_rfl) ?_
      have hq := held_refl (fun j => j = w3.heap.size ∨ j = lb) w7.drew
      have hXd := hXG.drew
      have hGd := hG.drew
      have kGd := kG.drew
      generalize w7.drew = v7 at *
      have x0d : v7.cell? ⟨w3.heap.size, 0, none⟩ = some (.slice (some ⟨lb, lo, none⟩) (wA n).length ac) := by rw [hXd.cell, hW3]; rfl
      have k37 : Below w3.heap.size w3 v7 := k36.trans (kGd.mono k36.size)
      have x1 := hrd v7 k37
      have x32 : v7.cell? ⟨lb, lo + root.toNat * 34 + 32, none⟩ = some (.int .i64 (wA n)[root.toNat].height) := by
        rw [show lo + root.toNat * 34 + 32 = lo + (34 * root.toNat + 32) by omega]
        exact (k37.cell (p := ⟨lb, lo + (34 * root.toNat + 32), none⟩) hlb).trans x32w
      have hl1 := hXd.lt
      have hl2 : lb < v7.heap.size := Nat.lt_of_lt_of_le hlb k37.size
      have hhi := hok.hi
      have hlo0 := checkB_height hck
      generalize (wA n)[root.toNat] = lastB at *
      simp [go_sem, IntWalk.iteOmega, IntWalk.toNatUp, hq, x0d, x1, x32, hr, hr', hl1, hl2]
      refine callE_of (named_any hok (hdv.keep k37)) ?_
      rintro _ w9 ⟨rfl, k9⟩
      have hq9 := hq.below k9
      have hG9 := hGd.keep k9
      have l32 : (bl (idB lastB).1).length = 32 := by rw [bl_length]; exact idB_len _
      have z2 := canWrite_all hG9 32 (by rw [List.size_toArray, bl_length]; exact hnf32)
      have z3 := storeSeg_all hG9 (bl (idB lastB).1) (by rw [List.size_toArray, bl_length, bl_length, hnf32]; exact idB_len _)
      have hq10 := hq9.row (g := q12) (bl (idB lastB).1).toArray (by
        rintro (h | h)
        · omega
        · rw [← h] at hlb; omega)
      simp [go_sem, IntWalk.iteOmega, IntWalk.toNatUp, hq9, z2, z3, l32, bl_one, hq10]
      exact atCut.mk ⟨(idB lastB).1, lastB.height, by simp [go_sem], by simp [go_sem], by simp [go_sem], by simp [go_sem], by simp [go_sem], idB_len _, hlo0, hhi, Blk_setRow hG9, below_setRow (kGd.trans (k9.mono kGd.size)) (by omega) _⟩
    · simp [go_sem, IntWalk.iteOmega, IntWalk.toNatUp, hr]
      exact atCut.mk ⟨nf, 0, by simp [go_sem], by simp [go_sem], by simp [go_sem], by simp [go_sem], by simp [go_sem], hnf32, by omega, by omega, hG, kG⟩
  rintro s7 w8 ⟨nm, ht, e2, e9, e11, e12, e13, hnm32, hh0, hh1, hGz, k68⟩
  clear x0 hG kG hXG v1 hnf32
  have k38 := k36.trans (k68.mono k36.size)
  have k08 := k03.trans (k38.mono k03.size)
  have hX8 := hX6.keep k68
  have xg := readCells_all hGz 32 (by rw [List.size_toArray, bl_length]; exact hnm32)
  simp [go_sem, IntWalk.iteOmega, IntWalk.toNatUp, e2, e9, e11, e12, e13, xg]
  refine callE_of (fat_new hnm32 (by have := k08.size; omega)) ?_
  rintro _ w9 ⟨(⟨hbad, rfl⟩ | ⟨hgood, f, O, rfl, hF9, hO9⟩), k9⟩
  · have xg9 := readCells_all (hGz.keep k9) 32 (by rw [List.size_toArray, bl_length]; exact hnm32)
    simp [go_sem, IntWalk.iteOmega, IntWalk.toNatUp, e2, e9, e11, e12, e13, xg9]
    refine callE_of (r22new_any hnm32 (by have := k08.size; have := k9.size; omega)) ?_
    rintro _ w10 ⟨(⟨_, rfl⟩ | ⟨hg, _⟩), k10⟩
    · simp [go_sem, IntWalk.iteOmega, IntWalk.toNatUp, e2, e9, e11, e12, e13]
      exact k08.trans ((k9.trans (k10.mono k9.size)).mono k08.size)
    · exact absurd hbad hg
  have xg9 := readCells_all (hGz.keep k9) 32 (by rw [List.size_toArray, bl_length]; exact hnm32)
  simp [go_sem, IntWalk.iteOmega, IntWalk.toNatUp, e2, e9, e11, e12, e13, xg9]
  refine callE_of (r22new_any hnm32 (by have := k08.size; have := k9.size; omega)) ?_
  rintro _ w10 ⟨(⟨hbad, _⟩ | ⟨_, g, P, rfl, hR10, hP10⟩), k10⟩
  · exact absurd hbad hgood
  have hF10 := hF9.keep k10
  have hd10 : ∀ j, O j → ¬ P j := fun j h1 h2 => by
    have := hF9.lt j h1
    have := hP10 j h2
    omega
  have hb10 : Both 0 ⟨nm, ht, rm, [], [], [], []⟩ ⟨nm, ht, rm, [], [], []⟩ := both_new hnm32 hh0 hh1 (by omega)
  have kQ := ext_alloc w10 (.cells zeroI.toArray 27)
  have hQ : Blk (w10.alloc (.cells zeroI.toArray 27)) w10.heap.size 27 (bl zeroId).toArray := Blk.self_ rfl
  have k810 : Below w8.heap.size w8 w10 := k9.trans (k10.mono k9.size)
  have k811 := k810.trans (kQ.mono k810.size)
  have hlow : ∀ j, j < w8.heap.size → ¬ (O j ∨ P j) := fun j hj hh => by
    have := k9.size
    rcases hh with hh | hh
    · have := hO9 j hh; omega
    · have := hP10 j hh; omega
  have hF11 := hF10.keep kQ
  have hR11 := hR10.keep kQ
  have hqO : ¬ (O w10.heap.size ∨ P w10.heap.size) := fun hh => by
    rcases hh with hh | hh
    · have := hF10.lt _ hh; omega
    · have := hR10.lt _ hh; omega
  simp [go_sem, IntWalk.iteOmega, IntWalk.toNatUp, e2, e9, e11, e12, e13]
  rw [← zeroI_lit]
  generalize w10.alloc (.cells zeroI.toArray 27) = w11 at *
  obtain ⟨q19, hq19⟩ : ∃ q19, q19 = w10.heap.size := ⟨_, rfl⟩
  rw [← hq19] at hQ hqO ⊢
  have hq8 : w8.heap.size ≤ q19 := by have := k810.size; omega
  have hX3l : w3.heap.size < w8.heap.size := hX8.lt
  clear xg xg9 hGz kQ k810 k9 k10 hF10 hR10 hF9 hO9 hP10 k68 hX6 k36 k35 k03 k02 k1 k2 k3 hd5 hgood hq19 e2 e12 e13 hq12 hX3
  refine W_loop (fun st wr => ∃ (i : Nat) (fx : Nat) (Oi Pi : Nat → Prop) (S : FS) (R : RF) (ak : List UInt8), i ≤ L.length ∧ st 11 = .pointer (some ⟨w3.heap.size, 0, none⟩) ∧ st 15 = .pointer (some ⟨fx, 0, none⟩) ∧ st 17 = .pointer (some ⟨g, 0, none⟩) ∧ st 19 = .pointer (some ⟨q19, 0, none⟩) ∧ st 90 = .slice A L.length c ∧ st 91 = .int .i64 L.length ∧ st 92 = .int .i64 i ∧
      FAt wr Oi fx S ∧ RAt wr Pi g R ∧ (∀ j, Oi j → ¬ Pi j) ∧ Both i S R ∧ (∀ j, j < w8.heap.size → ¬ (Oi j ∨ Pi j)) ∧ ¬ (Oi q19 ∨ Pi q19) ∧ Blk wr q19 27 (bl ak).toArray ∧ ak.length = 32 ∧ Below w8.heap.size w8 wr) (fun st _ => L.length - (intOf (st 92)).toNat) ?_ ?_
  · exact ⟨0, f, O, P, _, _, zeroId, by omega, by simp [go_sem, e11], by simp [go_sem], by simp [go_sem], by simp [go_sem], by simp [go_sem, e9], by simp [go_sem], by simp [go_sem], hF11, hR11, hd10, hb10, hlow, hqO, hQ, by simp [zeroId], k811⟩
  · clear hF11 hR11 hd10 hb10 hlow hqO hQ k811 e9 e11
    rintro s8 w12 ⟨i, fx, Oi, Pi, S, R, ak, hi, e11, e15, e17, e19, e90, e91, e92, hFi, hRi, hdi, hbi, hlowi, hqi, hAi, has, hKi⟩
    have bel3 : ∀ {wa : World}, Below w8.heap.size w8 wa → Below w3.heap.size w3 wa := fun {wa} h => k38.trans (h.mono k38.size)
    have bel : ∀ {wa : World}, Below w8.heap.size w8 wa → Below w.heap.size w wa := fun {wa} h => k08.trans (h.mono k08.size)
    by_cases hlt : i < L.length
    · have hlt' : (i : Int) < L.length := by omega
      obtain ⟨lb, lo, eA, hlb, hat⟩ := rd_op hsl hlt
      have hoi := hoL _ (List.getElem_mem hlt)
      have hosm := hsm _ (List.getElem_mem hlt)
      have x1 := hat w12 (bel hKi)
      have x1a : ∀ q, readCells (w12.alloc q) ⟨lb, lo + i * 8, none⟩ 0 8 = some (opc L[i]) := fun q => hat _ ((bel hKi).trans ((ext_alloc w12 q).mono (bel hKi).size))
      obtain ⟨ob, hob⟩ : ∃ ob, ob = L[i] := ⟨_, rfl⟩
      rw [← hob] at hoi x1 hosm
      simp only [← hob] at x1a
      obtain ⟨oA, oc, efv, hofr, hof0, hofc, hofm⟩ := hoi.2
      obtain ⟨qA, qc, erv, -⟩ := id hoi.1
      have h1c : allOne (opc ob) = true := by
        unfold opc opA opV
        rw [efv, erv]
        rfl
      have l8 : (opc ob).length = 8 := rfl
      have y2 : ∀ (k : Array Value) (t : TypeId), k.size = 8 → canWrite (w12.alloc (.cells k t)) ⟨w12.heap.size, 0, none⟩ 0 8 = true := fun k t hk => canWrite_all (Blk.self_ rfl) 8 hk
      have y3 : ∀ (k : Array Value) (t : TypeId) (l : List Value), k.size = 8 → l.length = 8 → storeSeg (w12.alloc (.cells k t)) ⟨w12.heap.size, 0, none⟩ 0 l = (w12.alloc (.cells k t)).setRow w12.heap.size l.toArray := fun k t l hk hl => storeSeg_all (Blk.self_ rfl) l (by omega)
      have kP : Below w12.heap.size w12 ((w12.alloc (.cells zeroO.toArray 52)).setRow w12.heap.size (opc ob).toArray) := below_setRow (ext_alloc w12 _) (Nat.le_refl _) _
      have hP : Blk ((w12.alloc (.cells zeroO.toArray 52)).setRow w12.heap.size (opc ob).toArray) w12.heap.size 52 (opA ob) := Blk_setRow (Blk.self_ rfl)
      have hXn : ∀ (k : Array Value) (t : TypeId), Blk ((w12.alloc (.cells k t)).setRow w12.heap.size (opc ob).toArray) w3.heap.size 60 W3 := fun k t => (hX8.keep hKi).keep (below_setRow (ext_alloc w12 _) (Nat.le_refl _) _)
      have x30 : ∀ (k : Array Value) (t : TypeId), ((w12.alloc (.cells k t)).setRow w12.heap.size (opc ob).toArray).cell? ⟨w3.heap.size, 0, none⟩ = some (.slice aA (wA n).length ac) := fun k t => by rw [(hXn k t).cell, hW3]; rfl
      have x31 : ∀ (k : Array Value) (t : TypeId), ((w12.alloc (.cells k t)).setRow w12.heap.size (opc ob).toArray).cell? ⟨w3.heap.size, 1, none⟩ = some (.slice bA (wB n).length bc) := fun k t => by rw [(hXn k t).cell, hW3]; rfl
      have x32 : ∀ (k : Array Value) (t : TypeId), ((w12.alloc (.cells k t)).setRow w12.heap.size (opc ob).toArray).cell? ⟨w3.heap.size, 2, none⟩ = some (.slice cA (wC n).length cc) := fun k t => by rw [(hXn k t).cell, hW3]; rfl
      have x8 : ∀ (k : Array Value) (t : TypeId), readCells ((w12.alloc (.cells k t)).setRow w12.heap.size (opc ob).toArray) ⟨w12.heap.size, 0, none⟩ 0 8 = some (opc ob) := fun k t => by
        have h := readCells_all (Blk_setRow (Blk.self_ (w := w12) (t := t) (cs := k) rfl) (cs' := (opc ob).toArray)) 8 rfl
        exact h
      subst eA
      simp [go_sem, IntWalk.iteOmega, IntWalk.toNatUp, e11, e15, e17, e19, e90, e91, e92, hlt, hlt', x1, x1a, y2, y3, l8, h1c, x30, x31, x32, x8]
      rw [← zeroO_lit2]
      have hFa := hFi.keep kP
      have hRa := hRi.keep kP
      have hKa := hKi.trans (kP.mono hKi.size)
      have hAa := hAi.keep kP
      have hFlt := hFi.lt
      have hRlt := hRi.lt
      have hql := hAi.lt
      have hpl12 : w12.heap.size < ((w12.alloc (.cells zeroO.toArray 52)).setRow w12.heap.size (opc ob).toArray).heap.size := hP.lt
      generalize (w12.alloc (.cells zeroO.toArray 52)).setRow w12.heap.size (opc ob).toArray = wa at *
      obtain ⟨p, hp⟩ : ∃ p, p = w12.heap.size := ⟨_, rfl⟩
      rw [← hp] at hP hFlt hRlt hql hpl12 ⊢
      have hpO : ¬ (Oi p ∨ Pi p) := fun hh => by
        rcases hh with hh | hh
        · have := hFlt p hh; omega
        · have := hRlt p hh; omega
      refine callE_of (pick_any (ha.keep (bel3 hKa)) (hb.keep (bel3 hKa)) (hc.keep (bel3 hKa)) ⟨hsz.1.1, by omega⟩ ⟨hsz.2.1.1, by omega⟩ ⟨hsz.2.2.1, by omega⟩ ob) ?_
      rintro _ w13 ⟨rfl, k13⟩
      have hXX : ∀ i3, BksR w3 (three (.slice aA (wA n).length ac) (.slice bA (wB n).length bc) (.slice cA (wC n).length cc) i3) (three (wA n) (wB n) (wC n) i3) ∧ (0 < (three (wA n) (wB n) (wC n) i3).length ∧ (three (wA n) (wB n) (wC n) i3).length ≤ 20) ∧ ∀ b ∈ three (wA n) (wB n) (wC n) i3, checkB b = 0 := fun i3 => by
        match i3 with
        | 0 => exact ⟨ha, ⟨hsz.1.1, Nat.le_trans hsz.1.2 (by decide)⟩, fun b hb => (wA_checks2 n b hb).1⟩
        | 1 => exact ⟨hb, hsz.2.1, wB_checks2 n⟩
        | n3 + 2 => exact ⟨hc, ⟨hsz.2.2.1, Nat.le_trans hsz.2.2.2 (by decide)⟩, wC_checks2 n⟩
      obtain ⟨hxR, hxl, hxck⟩ := hXX (ob.b.toNat % 3)
      generalize three (Value.slice aA (wA n).length ac) (.slice bA (wB n).length bc) (.slice cA (wC n).length cc) (ob.b.toNat % 3) = xv at *
      generalize three (wA n) (wB n) (wC n) (ob.b.toNat % 3) = X at *
      obtain ⟨kk, hkk⟩ : ∃ kk, kk = ob.a.toNat % X.length := ⟨_, rfl⟩
      have hkkl : kk < X.length := by rw [hkk]; exact Nat.mod_lt _ hxl.1
      rw [← hkk]
      obtain ⟨xA, xc, -, rfl, -⟩ := id hxR
      have hFb := hFa.keep k13
      have hRb := hRa.keep k13
      have hKb := hKa.trans (k13.mono hKa.size)
      have hAb := hAa.keep k13
      have hPb := hP.keep k13
      clear hkk x1 x1a y2 y3 x30 x31 x32 x8 hXn h1c l8 hXX kP hFa hRa hAa hP hFi hRi hAi hlb hKi
      obtain ⟨xb, xo, rfl, -, hxb, hxat⟩ := hxR.at2 hxl.1
      obtain ⟨xdv, hxok, hxd, hxrd⟩ := hxat kk hkkl
      have hkk1 : (kk : Int) < X.length := by omega
      have xe := hxrd w13 (bel3 hKb)
      have xw : w13.cell? ⟨p, 3, none⟩ = some (.bool ob.want) := by rw [hPb.cell]; rfl
      simp [go_sem, IntWalk.iteOmega, IntWalk.toNatUp, e11, e15, e17, e19, e90, e91, e92, xe, hkkl, hkk1]
      refine callE_of (named_any hxok (hxd.keep (bel3 hKb))) ?_
      rintro _ w14 ⟨rfl, k14⟩
      have hid0 : ((idB X[kk]).1).length = 32 := idB_len _
      generalize (idB X[kk]).1 = id0 at *
      have l32 : (bl id0).length = 32 := by rw [bl_length]; exact hid0
      have y2 : ∀ (k : Array Value) (t : TypeId), k.size = 32 → canWrite (w14.alloc (.cells k t)) ⟨w14.heap.size, 0, none⟩ 0 32 = true := fun k t hk => canWrite_all (Blk.self_ rfl) 32 hk
      have y3 : ∀ (k : Array Value) (t : TypeId) (l : List Value), k.size = 32 → l.length = 32 → storeSeg (w14.alloc (.cells k t)) ⟨w14.heap.size, 0, none⟩ 0 l = (w14.alloc (.cells k t)).setRow w14.heap.size l.toArray := fun k t l hk hl => storeSeg_all (Blk.self_ rfl) l (by omega)
      have kI : Below w14.heap.size w14 ((w14.alloc (.cells zeroI.toArray 27)).setRow w14.heap.size (bl id0).toArray) := below_setRow (ext_alloc w14 _) (Nat.le_refl _) _
      have hI : Blk ((w14.alloc (.cells zeroI.toArray 27)).setRow w14.heap.size (bl id0).toArray) w14.heap.size 27 (bl id0).toArray := Blk_setRow (Blk.self_ rfl)
      have k1c : Below w13.heap.size w13 ((w14.alloc (.cells zeroI.toArray 27)).setRow w14.heap.size (bl id0).toArray) := k14.trans (kI.mono k14.size)
      have xw2 : ((w14.alloc (.cells zeroI.toArray 27)).setRow w14.heap.size (bl id0).toArray).cell? ⟨p, 3, none⟩ = some (.bool ob.want) := by rw [(hPb.keep k1c).cell]; rfl
      rw [zeroI_lit] at xw2
      have hs13 : w13.heap.size ≤ w14.heap.size := k14.size
      have hq13 : q19 < w13.heap.size := hAb.lt
      have hp13 : p < w13.heap.size := hPb.lt
      have hFlt13 := hFb.lt
      have hRlt13 := hRb.lt
      simp [go_sem, IntWalk.iteOmega, IntWalk.toNatUp, e11, e15, e17, e19, e90, e91, e92, y2, y3, l32, bl_one, xw2]
      rw [← zeroI_lit]
      clear y2 y3 xw2
      have hFc := hFb.keep k1c
      have hRc := hRb.keep k1c
      have hKc := hKb.trans (k1c.mono hKb.size)
      have hAc := hAb.keep k1c
      have hPc := hPb.keep k1c
      have hqpI : w14.heap.size < ((w14.alloc (.cells zeroI.toArray 27)).setRow w14.heap.size (bl id0).toArray).heap.size := hI.lt
      generalize (w14.alloc (.cells zeroI.toArray 27)).setRow w14.heap.size (bl id0).toArray = w15 at *
      obtain ⟨q24, hq24⟩ : ∃ q24, q24 = w14.heap.size := ⟨_, rfl⟩
      rw [← hq24] at hI hqpI ⊢
      have hq24O : ¬ (Oi q24 ∨ Pi q24) := fun hh => by
        rcases hh with hh | hh
        · have := hFlt13 q24 hh; omega
        · have := hRlt13 q24 hh; omega
      have hne : q24 ≠ q19 := by omega
      have hnp : p ≠ q24 ∧ p ≠ q19 := by omega
      clear kI k14 k13 hFb hRb hKb hAb hPb k1c xe xw
      refine condC_cut (fun s wz => ∃ (kk1 : Nat) (id1 ak1 : List UInt8), s 11 = .pointer (some ⟨w3.heap.size, 0, none⟩) ∧ s 15 = .pointer (some ⟨fx, 0, none⟩) ∧ s 17 = .pointer (some ⟨g, 0, none⟩) ∧ s 19 = .pointer (some ⟨q19, 0, none⟩) ∧ s 21 = .pointer (some ⟨p, 0, none⟩) ∧ s 22 = .slice (some ⟨xb, xo, none⟩) X.length xc ∧ s 23 = .int .i64 kk1 ∧ s 24 = .pointer (some ⟨q24, 0, none⟩) ∧ s 90 = .slice (some ⟨lb, lo, none⟩) L.length c ∧ s 91 = .int .i64 L.length ∧ s 92 = .int .i64 i ∧ kk1 < X.length ∧ id1.length = 32 ∧ ak1.length = 32 ∧ Blk wz q24 27 (bl id1).toArray ∧ Blk wz q19 27 (bl ak1).toArray ∧ Keeps (fun j => j ≠ q19 ∧ j ≠ q24) w15 wz) ?_ ?_
      · by_cases hw : ob.want = true
        case neg =>
          have hw' : ob.want = false := by simpa using hw
          simp [go_sem, IntWalk.iteOmega, IntWalk.toNatUp, hw', e11, e15, e17, e19, e90, e91, e92]
          exact atCut.mk ⟨kk, id0, ak, by simp [go_sem, e11], by simp [go_sem, e15], by simp [go_sem, e17], by simp [go_sem, e19], by simp [go_sem], by simp [go_sem], by simp [go_sem], by simp [go_sem], by simp [go_sem, e90], by simp [go_sem, e91], by simp [go_sem, e92], hkkl, hid0, has, hI, hAc, Keeps.refl _ _⟩
        have lak : (bl ak).length = 32 := by rw [bl_length]; exact has
        have xq := readCells_all hAc 32 (by simpa using lak)
        have z2 := canWrite_all hI 32 (by simpa using l32)
        have z3 := storeSeg_all hI (bl ak) (by rw [List.size_toArray, bl_length, bl_length, has]; exact hid0.symm)
        simp [go_sem, IntWalk.iteOmega, IntWalk.toNatUp, hw, e11, e15, e17, e19, e90, e91, e92, xq, z2, z3, lak, bl_one]
        have k16 : Keeps (fun j => j ≠ q19 ∧ j ≠ q24) w15 (w15.setRow q24 (bl ak).toArray) := Keeps.setRow _ _ _ fun hh => hh.2 rfl
        have hI16 : Blk (w15.setRow q24 (bl ak).toArray) q24 27 (bl ak).toArray := Blk_setRow hI
        have hA16 := hAc.farRow (b := q24) (by omega) (bl ak).toArray
        have b816 : Below w8.heap.size w8 (w15.setRow q24 (bl ak).toArray) := below_setRow hKc (by omega) _
        have hI16l : q24 < (w15.setRow q24 (bl ak).toArray).heap.size := hI16.lt
        generalize w15.setRow q24 (bl ak).toArray = w16 at *
        have hR16 := hRc.keeps (k16.mono fun j _ hj => ⟨fun e => hqi (.inr (by rw [← e]; exact hj)), fun e => hq24O (.inr (by rw [← e]; exact hj))⟩)
        obtain ⟨tv, kv, av, vs, ds, hRr⟩ := hR16
        refine callE_of (rwants_any hRr (hbi.rok (by omega))) ?_
        rintro lv w17 ⟨hlv, hl32, hln, k17⟩
        generalize wantsR R = WL at *
        obtain ⟨-, lvA, lvc, rfl⟩ := own_sl hlv
        have hP17 : Blk w17 p 52 (opA ob) := (k16.blk hPc ⟨hnp.2, hnp.1⟩).keep k17
        have xd : w17.cell? ⟨p, 0, none⟩ = some (.int .i64 ob.d) := by rw [hP17.cell]; rfl
        have kz0 := k16.trans (Keeps.of_ext (O := fun j => j ≠ q19 ∧ j ≠ q24) k17)
        have b817 := b816.trans (k17.mono b816.size)
        have hI17 := hI16.keep k17
        have hA17 := hA16.keep k17
        clear k16 hRr hP17 hI16 hA16 xq z2 z3
        by_cases hd1 : ob.d = 1
        case neg =>
          have hd1' : (ob.d == 1) = false := by simpa using hd1
          simp [go_sem, IntWalk.iteOmega, IntWalk.toNatUp, e11, e15, e17, e19, e90, e91, e92, xd, hd1']
          obtain ⟨wz, hwz⟩ : ∃ wz, wz = w17 := ⟨_, rfl⟩
          obtain ⟨id1, hid1e⟩ : ∃ id1, id1 = ak := ⟨_, rfl⟩
          obtain ⟨ak1, hak1e⟩ : ∃ ak1, ak1 = ak := ⟨_, rfl⟩
          have hid1 : id1.length = 32 := by rw [hid1e]; exact has
          have hak1 : ak1.length = 32 := by rw [hak1e]; exact has
          have hIz : Blk wz q24 27 (bl id1).toArray := by rw [hwz, hid1e]; exact hI17
          have hAz : Blk wz q19 27 (bl ak1).toArray := by rw [hwz, hak1e]; exact hA17
          have kz : Keeps (fun j => j ≠ q19 ∧ j ≠ q24) w15 wz := by rw [hwz]; exact kz0
          have b8z : Below w8.heap.size w8 wz := by rw [hwz]; exact b817
          rw [← hwz]
          clear hwz hid1e hak1e hI17 hA17 kz0 b817 k17 hlv xd
          refine W_loop (fun st wr => ∃ (j kk1 : Nat), j ≤ X.length ∧ kk1 < X.length ∧ st 11 = .pointer (some ⟨w3.heap.size, 0, none⟩) ∧ st 15 = .pointer (some ⟨fx, 0, none⟩) ∧ st 17 = .pointer (some ⟨g, 0, none⟩) ∧ st 19 = .pointer (some ⟨q19, 0, none⟩) ∧ st 21 = .pointer (some ⟨p, 0, none⟩) ∧ st 22 = .slice (some ⟨xb, xo, none⟩) X.length xc ∧ st 23 = .int .i64 kk1 ∧ st 24 = .pointer (some ⟨q24, 0, none⟩) ∧ st 90 = .slice (some ⟨lb, lo, none⟩) L.length c ∧ st 91 = .int .i64 L.length ∧ st 92 = .int .i64 i ∧ st 126 = .slice (some ⟨xb, xo, none⟩) X.length xc ∧ st 127 = .int .i64 X.length ∧ st 128 = .int .i64 j ∧ Below wz.heap.size wz wr) (fun st _ => X.length - (intOf (st 128)).toNat) ?_ ?_
          · exact ⟨0, kk, by omega, hkkl, by simp [go_sem, e11], by simp [go_sem, e15], by simp [go_sem, e17], by simp [go_sem, e19], by simp [go_sem], by simp [go_sem], by simp [go_sem], by simp [go_sem], by simp [go_sem, e90], by simp [go_sem, e91], by simp [go_sem, e92], by simp [go_sem], by simp [go_sem], by simp [go_sem], Below.refl _ _⟩
          · skip
            rintro s9 wr ⟨j, kk1, hj, hk1, f11, f15, f17, f19, f21, f22, f23, f24, f90, f91, f92, f126, f127, f128, kr⟩
            have kzr := kz.trans (Keeps.of_ext kr)
            have b8r := b8z.trans (kr.mono b8z.size)
            by_cases hjl : j < X.length
            · have hjl' : (j : Int) < X.length := by omega
              obtain ⟨jdv, jok, jd, jrd⟩ := hxat j hjl
              have xj := jrd wr (bel3 b8r)
              have l34 : (bkv X[j] jdv).length = 34 := bkv_len jok.len
              obtain ⟨jA, jc, ej, -⟩ := id jd
              have hone : allOne (bkv X[j] jdv) = true := by rw [ej]; exact bkv_one _ _ _ _
              have y2 : ∀ (k : Array Value) (t : TypeId), k.size = 34 → canWrite (wr.alloc (.cells k t)) ⟨wr.heap.size, 0, none⟩ 0 34 = true := fun k t hk => canWrite_all (Blk.self_ rfl) 34 hk
              have y3 : ∀ (k : Array Value) (t : TypeId) (l : List Value), k.size = 34 → l.length = 34 → storeSeg (wr.alloc (.cells k t)) ⟨wr.heap.size, 0, none⟩ 0 l = (wr.alloc (.cells k t)).setRow wr.heap.size l.toArray := fun k t l hk hl => storeSeg_all (Blk.self_ rfl) l (by omega)
              have kB : Below wr.heap.size wr ((wr.alloc (.cells zeroB.toArray 29)).setRow wr.heap.size (bkv X[j] jdv).toArray) := below_setRow (ext_alloc wr _) (Nat.le_refl _) _
              have hB : Blk ((wr.alloc (.cells zeroB.toArray 29)).setRow wr.heap.size (bkv X[j] jdv).toArray) wr.heap.size 29 (bkv X[j] jdv).toArray := Blk_setRow (Blk.self_ rfl)
              have hjd := jd.keep (bel3 (b8r.trans (kB.mono b8r.size)))
              have hIj := (hIz.keep kr).keep kB
              generalize X[j] = bj at *
              simp [go_sem, IntWalk.iteOmega, IntWalk.toNatUp, f11, f15, f17, f19, f21, f22, f23, f24, f90, f91, f92, f126, f127, f128, hjl, hjl', xj, y2, y3, l34, hone]
              rw [← zeroB_lit]
              generalize (wr.alloc (.cells zeroB.toArray 29)).setRow wr.heap.size (bkv bj jdv).toArray = wq at *
              obtain ⟨q27, hq27⟩ : ∃ q27, q27 = wr.heap.size := ⟨_, rfl⟩
              have hszq := kB.size
              rw [← hq27] at hB ⊢
              refine W_flow (fun jj => jj = q27 ∨ jj = q24) (.pure 0 (.pure 2 (.one 1 (.pure 3 (.done))))) follows (by kernel_rfl) ?_
              have hq := held_refl (fun jj => jj = q27 ∨ jj = q24) wq.drew
              have hBd := hB.drew
              have hId := hIj.drew
              have hjdd := hjd.keep (ext_drew wq)
              have kBd := kB.drew
              generalize wq.drew = vq at *
              have xbq := readCells_all hBd 34 (by simpa using l34)
              have xiq := readCells_all hId 32 (by rw [List.size_toArray, bl_length]; exact hid1)
              have xl1 := hBd.lt
              have xl2 := hId.lt
              simp [go_sem, IntWalk.iteOmega, IntWalk.toNatUp, f11, f15, f17, f19, f21, f22, f23, f24, f90, f91, f92, f126, f127, f128, hq, xbq, xiq, xl1, xl2]
              refine callE_of (named_any jok hjdd) ?_
              rintro _ wt ⟨rfl, kt⟩
              have hqt := hq.below kt
              have hqe := fun W => id_eq (idB bj).1 id1 (idB_len _) hid1 W
              have krt := kr.trans ((kBd.trans (kt.mono kBd.size)).mono kr.size)
              by_cases hqq : (idB bj).1 = id1
              · have hqq' : ((idB bj).1 == id1) = true := by simpa using hqq
                simp [go_sem, IntWalk.iteOmega, IntWalk.toNatUp, f11, f15, f17, f19, f21, f22, f23, f24, f90, f91, f92, f126, f127, f128, hqt, hqe, hqq']
                refine roundEnd.mk ⟨j + 1, j, by omega, hjl, by simp [go_sem, f11], by simp [go_sem, f15], by simp [go_sem, f17], by simp [go_sem, f19], by simp [go_sem, f21], by simp [go_sem, f22], by simp [go_sem], by simp [go_sem, f24], by simp [go_sem, f90], by simp [go_sem, f91], by simp [go_sem, f92], by simp [go_sem, f126], by simp [go_sem, f127], by simp [go_sem], krt⟩ ?_
                simp [go_sem, intOf, f128]; omega
              · have hqq' : ((idB bj).1 == id1) = false := by simpa using hqq
                simp [go_sem, IntWalk.iteOmega, IntWalk.toNatUp, f11, f15, f17, f19, f21, f22, f23, f24, f90, f91, f92, f126, f127, f128, hqt, hqe, hqq']
                refine roundEnd.mk ⟨j + 1, kk1, by omega, hk1, by simp [go_sem, f11], by simp [go_sem, f15], by simp [go_sem, f17], by simp [go_sem, f19], by simp [go_sem, f21], by simp [go_sem, f22], by simp [go_sem, f23], by simp [go_sem, f24], by simp [go_sem, f90], by simp [go_sem, f91], by simp [go_sem, f92], by simp [go_sem, f126], by simp [go_sem, f127], by simp [go_sem], krt⟩ ?_
                simp [go_sem, intOf, f128]; omega
            · have hjl' : ¬ (j : Int) < X.length := by omega
              simp [go_sem, IntWalk.iteOmega, IntWalk.toNatUp, f11, f15, f17, f19, f21, f22, f23, f24, f90, f91, f92, f126, f127, f128, hjl']
              exact atCut.mk ⟨kk1, id1, ak1, by simp [go_sem, f11], by simp [go_sem, f15], by simp [go_sem, f17], by simp [go_sem, f19], by simp [go_sem, f21], by simp [go_sem, f22], by simp [go_sem, f23], by simp [go_sem, f24], by simp [go_sem, f90], by simp [go_sem, f91], by simp [go_sem, f92], hk1, hid1, hak1, hIz.keep kr, hAz.keep kr, kzr⟩
        have hd1' : (ob.d == 1) = true := by simpa using hd1
        by_cases hwl : WL = []
        · have hwl' : ¬ (0 : Int) < (WL.length : Int) := by rw [hwl]; decide
          simp [go_sem, IntWalk.iteOmega, IntWalk.toNatUp, e11, e15, e17, e19, e90, e91, e92, xd, hd1', hwl']
          obtain ⟨wz, hwz⟩ : ∃ wz, wz = w17 := ⟨_, rfl⟩
          obtain ⟨id1, hid1e⟩ : ∃ id1, id1 = ak := ⟨_, rfl⟩
          obtain ⟨ak1, hak1e⟩ : ∃ ak1, ak1 = ak := ⟨_, rfl⟩
          have hid1 : id1.length = 32 := by rw [hid1e]; exact has
          have hak1 : ak1.length = 32 := by rw [hak1e]; exact has
          have hIz : Blk wz q24 27 (bl id1).toArray := by rw [hwz, hid1e]; exact hI17
          have hAz : Blk wz q19 27 (bl ak1).toArray := by rw [hwz, hak1e]; exact hA17
          have kz : Keeps (fun j => j ≠ q19 ∧ j ≠ q24) w15 wz := by rw [hwz]; exact kz0
          have b8z : Below w8.heap.size w8 wz := by rw [hwz]; exact b817
          rw [← hwz]
          clear hwz hid1e hak1e hI17 hA17 kz0 b817 k17 hlv xd
          refine W_loop (fun st wr => ∃ (j kk1 : Nat), j ≤ X.length ∧ kk1 < X.length ∧ st 11 = .pointer (some ⟨w3.heap.size, 0, none⟩) ∧ st 15 = .pointer (some ⟨fx, 0, none⟩) ∧ st 17 = .pointer (some ⟨g, 0, none⟩) ∧ st 19 = .pointer (some ⟨q19, 0, none⟩) ∧ st 21 = .pointer (some ⟨p, 0, none⟩) ∧ st 22 = .slice (some ⟨xb, xo, none⟩) X.length xc ∧ st 23 = .int .i64 kk1 ∧ st 24 = .pointer (some ⟨q24, 0, none⟩) ∧ st 90 = .slice (some ⟨lb, lo, none⟩) L.length c ∧ st 91 = .int .i64 L.length ∧ st 92 = .int .i64 i ∧ st 126 = .slice (some ⟨xb, xo, none⟩) X.length xc ∧ st 127 = .int .i64 X.length ∧ st 128 = .int .i64 j ∧ Below wz.heap.size wz wr) (fun st _ => X.length - (intOf (st 128)).toNat) ?_ ?_
          · exact ⟨0, kk, by omega, hkkl, by simp [go_sem, e11], by simp [go_sem, e15], by simp [go_sem, e17], by simp [go_sem, e19], by simp [go_sem], by simp [go_sem], by simp [go_sem], by simp [go_sem], by simp [go_sem, e90], by simp [go_sem, e91], by simp [go_sem, e92], by simp [go_sem], by simp [go_sem], by simp [go_sem], Below.refl _ _⟩
          · skip
            rintro s9 wr ⟨j, kk1, hj, hk1, f11, f15, f17, f19, f21, f22, f23, f24, f90, f91, f92, f126, f127, f128, kr⟩
            have kzr := kz.trans (Keeps.of_ext kr)
            have b8r := b8z.trans (kr.mono b8z.size)
            by_cases hjl : j < X.length
            · have hjl' : (j : Int) < X.length := by omega
              obtain ⟨jdv, jok, jd, jrd⟩ := hxat j hjl
              have xj := jrd wr (bel3 b8r)
              have l34 : (bkv X[j] jdv).length = 34 := bkv_len jok.len
              obtain ⟨jA, jc, ej, -⟩ := id jd
              have hone : allOne (bkv X[j] jdv) = true := by rw [ej]; exact bkv_one _ _ _ _
              have y2 : ∀ (k : Array Value) (t : TypeId), k.size = 34 → canWrite (wr.alloc (.cells k t)) ⟨wr.heap.size, 0, none⟩ 0 34 = true := fun k t hk => canWrite_all (Blk.self_ rfl) 34 hk
              have y3 : ∀ (k : Array Value) (t : TypeId) (l : List Value), k.size = 34 → l.length = 34 → storeSeg (wr.alloc (.cells k t)) ⟨wr.heap.size, 0, none⟩ 0 l = (wr.alloc (.cells k t)).setRow wr.heap.size l.toArray := fun k t l hk hl => storeSeg_all (Blk.self_ rfl) l (by omega)
              have kB : Below wr.heap.size wr ((wr.alloc (.cells zeroB.toArray 29)).setRow wr.heap.size (bkv X[j] jdv).toArray) := below_setRow (ext_alloc wr _) (Nat.le_refl _) _
              have hB : Blk ((wr.alloc (.cells zeroB.toArray 29)).setRow wr.heap.size (bkv X[j] jdv).toArray) wr.heap.size 29 (bkv X[j] jdv).toArray := Blk_setRow (Blk.self_ rfl)
              have hjd := jd.keep (bel3 (b8r.trans (kB.mono b8r.size)))
              have hIj := (hIz.keep kr).keep kB
              generalize X[j] = bj at *
              simp [go_sem, IntWalk.iteOmega, IntWalk.toNatUp, f11, f15, f17, f19, f21, f22, f23, f24, f90, f91, f92, f126, f127, f128, hjl, hjl', xj, y2, y3, l34, hone]
              rw [← zeroB_lit]
              generalize (wr.alloc (.cells zeroB.toArray 29)).setRow wr.heap.size (bkv bj jdv).toArray = wq at *
              obtain ⟨q27, hq27⟩ : ∃ q27, q27 = wr.heap.size := ⟨_, rfl⟩
              have hszq := kB.size
              rw [← hq27] at hB ⊢
              refine W_flow (fun jj => jj = q27 ∨ jj = q24) (.pure 0 (.pure 2 (.one 1 (.pure 3 (.done))))) follows (by kernel_rfl) ?_
              have hq := held_refl (fun jj => jj = q27 ∨ jj = q24) wq.drew
              have hBd := hB.drew
              have hId := hIj.drew
              have hjdd := hjd.keep (ext_drew wq)
              have kBd := kB.drew
              generalize wq.drew = vq at *
              have xbq := readCells_all hBd 34 (by simpa using l34)
              have xiq := readCells_all hId 32 (by rw [List.size_toArray, bl_length]; exact hid1)
              have xl1 := hBd.lt
              have xl2 := hId.lt
              simp [go_sem, IntWalk.iteOmega, IntWalk.toNatUp, f11, f15, f17, f19, f21, f22, f23, f24, f90, f91, f92, f126, f127, f128, hq, xbq, xiq, xl1, xl2]
              refine callE_of (named_any jok hjdd) ?_
              rintro _ wt ⟨rfl, kt⟩
              have hqt := hq.below kt
              have hqe := fun W => id_eq (idB bj).1 id1 (idB_len _) hid1 W
              have krt := kr.trans ((kBd.trans (kt.mono kBd.size)).mono kr.size)
              by_cases hqq : (idB bj).1 = id1
              · have hqq' : ((idB bj).1 == id1) = true := by simpa using hqq
                simp [go_sem, IntWalk.iteOmega, IntWalk.toNatUp, f11, f15, f17, f19, f21, f22, f23, f24, f90, f91, f92, f126, f127, f128, hqt, hqe, hqq']
                refine roundEnd.mk ⟨j + 1, j, by omega, hjl, by simp [go_sem, f11], by simp [go_sem, f15], by simp [go_sem, f17], by simp [go_sem, f19], by simp [go_sem, f21], by simp [go_sem, f22], by simp [go_sem], by simp [go_sem, f24], by simp [go_sem, f90], by simp [go_sem, f91], by simp [go_sem, f92], by simp [go_sem, f126], by simp [go_sem, f127], by simp [go_sem], krt⟩ ?_
                simp [go_sem, intOf, f128]; omega
              · have hqq' : ((idB bj).1 == id1) = false := by simpa using hqq
                simp [go_sem, IntWalk.iteOmega, IntWalk.toNatUp, f11, f15, f17, f19, f21, f22, f23, f24, f90, f91, f92, f126, f127, f128, hqt, hqe, hqq']
                refine roundEnd.mk ⟨j + 1, kk1, by omega, hk1, by simp [go_sem, f11], by simp [go_sem, f15], by simp [go_sem, f17], by simp [go_sem, f19], by simp [go_sem, f21], by simp [go_sem, f22], by simp [go_sem, f23], by simp [go_sem, f24], by simp [go_sem, f90], by simp [go_sem, f91], by simp [go_sem, f92], by simp [go_sem, f126], by simp [go_sem, f127], by simp [go_sem], krt⟩ ?_
                simp [go_sem, intOf, f128]; omega
            · have hjl' : ¬ (j : Int) < X.length := by omega
              simp [go_sem, IntWalk.iteOmega, IntWalk.toNatUp, f11, f15, f17, f19, f21, f22, f23, f24, f90, f91, f92, f126, f127, f128, hjl']
              exact atCut.mk ⟨kk1, id1, ak1, by simp [go_sem, f11], by simp [go_sem, f15], by simp [go_sem, f17], by simp [go_sem, f19], by simp [go_sem, f21], by simp [go_sem, f22], by simp [go_sem, f23], by simp [go_sem, f24], by simp [go_sem, f90], by simp [go_sem, f91], by simp [go_sem, f92], hk1, hid1, hak1, hIz.keep kr, hAz.keep kr, kzr⟩
        have hwl0 : 0 < WL.length := List.length_pos_iff.2 hwl
        have hwl' : (0 : Int) < (WL.length : Int) := by omega
        obtain ⟨nb, no, rfl, hnb, hnr⟩ := rd_name (Rd.of_own hlv) hl32 hwl0
        have hnr0 : ∀ W, Below w17.heap.size w17 W → readCells W ⟨nb, no, none⟩ 0 32 = some (bl WL[0]) := fun W hW => by
          have := hnr W hW
          simpa using this
        have hw032 := hl32 _ (List.getElem_mem hwl0)
        have hnb1 := (own_at hlv rfl ⟨hwl0, nb, no, rfl, rfl⟩).1
        generalize WL[0] = w0_ at *
        simp [go_sem, IntWalk.iteOmega, IntWalk.toNatUp, e11, e15, e17, e19, e90, e91, e92, xd, hd1', hwl', hwl0]
        refine W_cutE (fun s wz => s 11 = .pointer (some ⟨w3.heap.size, 0, none⟩) ∧ s 15 = .pointer (some ⟨fx, 0, none⟩) ∧ s 17 = .pointer (some ⟨g, 0, none⟩) ∧ s 19 = .pointer (some ⟨q19, 0, none⟩) ∧ s 21 = .pointer (some ⟨p, 0, none⟩) ∧ s 22 = .slice (some ⟨xb, xo, none⟩) X.length xc ∧ s 23 = .int .i64 kk ∧ s 24 = .pointer (some ⟨q24, 0, none⟩) ∧ s 90 = .slice (some ⟨lb, lo, none⟩) L.length c ∧ s 91 = .int .i64 L.length ∧ s 92 = .int .i64 i ∧ Blk wz q24 27 (bl w0_).toArray ∧ Blk wz q19 27 (bl w0_).toArray ∧ Keeps (fun j => j ≠ q19 ∧ j ≠ q24) w15 wz ∧ Below w8.heap.size w8 wz) ?_ ?_
        · refine W_flow (fun j => j = nb) (.pure 0 (.pure 1 (.pure 2 (.pure 3 (.pure 4 (.pure 5 (.one 6 (.one 7 (.done))))))))) follows (by kernel_rfl) ?_
          have hq := held_refl (fun j => j = nb) w17.drew
          have x17 := hnr0 w17.drew (ext_drew w17)
          have kd := Keeps.drew (fun j => j ≠ q19 ∧ j ≠ q24) w17
          have b818 := b817.drew
          have hI18 := hI17.drew
          have hA18 := hA17.drew
          have hnl : nb < w17.drew.heap.size := hnb
          generalize w17.drew = v17 at *
          have lw0 : (bl w0_).length = 32 := by rw [bl_length]; exact hw032
          have hn24 : q24 ≠ nb := by have := hI16l; omega
          have hn19 : q19 ≠ nb := by have := hI16l; omega
          have z24 := canWrite_all hI18 32 (by rw [List.size_toArray, bl_length]; exact has)
          have s24 := storeSeg_all hI18 (bl w0_) (by rw [List.size_toArray, bl_length, bl_length, has]; exact hw032)
          have hA19 := hA18.farRow (b := q24) (by omega) (bl w0_).toArray
          have z19 := canWrite_all hA19 32 (by rw [List.size_toArray, bl_length]; exact has)
          have s19 := storeSeg_all hA19 (bl w0_) (by rw [List.size_toArray, bl_length, bl_length, has]; exact hw032)
          have hq24_ := hq.row (g := q24) (bl w0_).toArray hn24
          have hq19_ := hq24_.row (g := q19) (bl w0_).toArray hn19
          simp [go_sem, IntWalk.iteOmega, IntWalk.toNatUp, e11, e15, e17, e19, e90, e91, e92, hq, hwl0, hwl', x17, hnl, z24, s24, z19, s19, lw0, bl_one, hq24_, hq19_]
          exact atCut.mk ⟨by simp [go_sem, e11], by simp [go_sem, e15], by simp [go_sem, e17], by simp [go_sem, e19], by simp [go_sem], by simp [go_sem], by simp [go_sem], by simp [go_sem], by simp [go_sem, e90], by simp [go_sem, e91], by simp [go_sem, e92], (Blk_setRow hI18).farRow (by omega) _, Blk_setRow hA19, (kz0.trans kd).trans ((Keeps.setRow _ _ _ fun hh => hh.2 rfl).trans (Keeps.setRow _ _ _ fun hh => hh.1 rfl)), below_setRow (below_setRow b818 (by omega) _) (by omega) _⟩
        · rintro s6 wz ⟨h11, h15, h17, h19, h21, h22, h23, h24, h90, h91, h92, hIz, hAz, kz, b8z⟩
          simp [go_sem, IntWalk.iteOmega, IntWalk.toNatUp, h11, h15, h17, h19, h21, h22, h23, h24, h90, h91, h92]
          obtain ⟨id1, hid1e⟩ : ∃ id1, id1 = w0_ := ⟨_, rfl⟩
          obtain ⟨ak1, hak1e⟩ : ∃ ak1, ak1 = w0_ := ⟨_, rfl⟩
          have hid1 : id1.length = 32 := by rw [hid1e]; exact hw032
          have hak1 : ak1.length = 32 := by rw [hak1e]; exact hw032
          rw [← hid1e] at hIz
          rw [← hak1e] at hAz
          clear hid1e hak1e hI17 hA17 kz0 b817 k17 hlv xd hnr hnr0
          refine W_loop (fun st wr => ∃ (j kk1 : Nat), j ≤ X.length ∧ kk1 < X.length ∧ st 11 = .pointer (some ⟨w3.heap.size, 0, none⟩) ∧ st 15 = .pointer (some ⟨fx, 0, none⟩) ∧ st 17 = .pointer (some ⟨g, 0, none⟩) ∧ st 19 = .pointer (some ⟨q19, 0, none⟩) ∧ st 21 = .pointer (some ⟨p, 0, none⟩) ∧ st 22 = .slice (some ⟨xb, xo, none⟩) X.length xc ∧ st 23 = .int .i64 kk1 ∧ st 24 = .pointer (some ⟨q24, 0, none⟩) ∧ st 90 = .slice (some ⟨lb, lo, none⟩) L.length c ∧ st 91 = .int .i64 L.length ∧ st 92 = .int .i64 i ∧ st 126 = .slice (some ⟨xb, xo, none⟩) X.length xc ∧ st 127 = .int .i64 X.length ∧ st 128 = .int .i64 j ∧ Below wz.heap.size wz wr) (fun st _ => X.length - (intOf (st 128)).toNat) ?_ ?_
          · exact ⟨0, kk, by omega, hkkl, by simp [go_sem, h11], by simp [go_sem, h15], by simp [go_sem, h17], by simp [go_sem, h19], by simp [go_sem, h21], by simp [go_sem, h22], by simp [go_sem, h23], by simp [go_sem, h24], by simp [go_sem, h90], by simp [go_sem, h91], by simp [go_sem, h92], by simp [go_sem], by simp [go_sem], by simp [go_sem], Below.refl _ _⟩
          · skip
            rintro s9 wr ⟨j, kk1, hj, hk1, f11, f15, f17, f19, f21, f22, f23, f24, f90, f91, f92, f126, f127, f128, kr⟩
            have kzr := kz.trans (Keeps.of_ext kr)
            have b8r := b8z.trans (kr.mono b8z.size)
            by_cases hjl : j < X.length
            · have hjl' : (j : Int) < X.length := by omega
              obtain ⟨jdv, jok, jd, jrd⟩ := hxat j hjl
              have xj := jrd wr (bel3 b8r)
              have l34 : (bkv X[j] jdv).length = 34 := bkv_len jok.len
              obtain ⟨jA, jc, ej, -⟩ := id jd
              have hone : allOne (bkv X[j] jdv) = true := by rw [ej]; exact bkv_one _ _ _ _
              have y2 : ∀ (k : Array Value) (t : TypeId), k.size = 34 → canWrite (wr.alloc (.cells k t)) ⟨wr.heap.size, 0, none⟩ 0 34 = true := fun k t hk => canWrite_all (Blk.self_ rfl) 34 hk
              have y3 : ∀ (k : Array Value) (t : TypeId) (l : List Value), k.size = 34 → l.length = 34 → storeSeg (wr.alloc (.cells k t)) ⟨wr.heap.size, 0, none⟩ 0 l = (wr.alloc (.cells k t)).setRow wr.heap.size l.toArray := fun k t l hk hl => storeSeg_all (Blk.self_ rfl) l (by omega)
              have kB : Below wr.heap.size wr ((wr.alloc (.cells zeroB.toArray 29)).setRow wr.heap.size (bkv X[j] jdv).toArray) := below_setRow (ext_alloc wr _) (Nat.le_refl _) _
              have hB : Blk ((wr.alloc (.cells zeroB.toArray 29)).setRow wr.heap.size (bkv X[j] jdv).toArray) wr.heap.size 29 (bkv X[j] jdv).toArray := Blk_setRow (Blk.self_ rfl)
              have hjd := jd.keep (bel3 (b8r.trans (kB.mono b8r.size)))
              have hIj := (hIz.keep kr).keep kB
              generalize X[j] = bj at *
              simp [go_sem, IntWalk.iteOmega, IntWalk.toNatUp, f11, f15, f17, f19, f21, f22, f23, f24, f90, f91, f92, f126, f127, f128, hjl, hjl', xj, y2, y3, l34, hone]
              rw [← zeroB_lit]
              generalize (wr.alloc (.cells zeroB.toArray 29)).setRow wr.heap.size (bkv bj jdv).toArray = wq at *
              obtain ⟨q27, hq27⟩ : ∃ q27, q27 = wr.heap.size := ⟨_, rfl⟩
              have hszq := kB.size
              rw [← hq27] at hB ⊢
              refine W_flow (fun jj => jj = q27 ∨ jj = q24) (.pure 0 (.pure 2 (.one 1 (.pure 3 (.done))))) follows (by kernel_rfl) ?_
              have hq := held_refl (fun jj => jj = q27 ∨ jj = q24) wq.drew
              have hBd := hB.drew
              have hId := hIj.drew
              have hjdd := hjd.keep (ext_drew wq)
              have kBd := kB.drew
              generalize wq.drew = vq at *
              have xbq := readCells_all hBd 34 (by simpa using l34)
              have xiq := readCells_all hId 32 (by rw [List.size_toArray, bl_length]; exact hid1)
              have xl1 := hBd.lt
              have xl2 := hId.lt
              simp [go_sem, IntWalk.iteOmega, IntWalk.toNatUp, f11, f15, f17, f19, f21, f22, f23, f24, f90, f91, f92, f126, f127, f128, hq, xbq, xiq, xl1, xl2]
              refine callE_of (named_any jok hjdd) ?_
              rintro _ wt ⟨rfl, kt⟩
              have hqt := hq.below kt
              have hqe := fun W => id_eq (idB bj).1 id1 (idB_len _) hid1 W
              have krt := kr.trans ((kBd.trans (kt.mono kBd.size)).mono kr.size)
              by_cases hqq : (idB bj).1 = id1
              · have hqq' : ((idB bj).1 == id1) = true := by simpa using hqq
                simp [go_sem, IntWalk.iteOmega, IntWalk.toNatUp, f11, f15, f17, f19, f21, f22, f23, f24, f90, f91, f92, f126, f127, f128, hqt, hqe, hqq']
                refine roundEnd.mk ⟨j + 1, j, by omega, hjl, by simp [go_sem, f11], by simp [go_sem, f15], by simp [go_sem, f17], by simp [go_sem, f19], by simp [go_sem, f21], by simp [go_sem, f22], by simp [go_sem], by simp [go_sem, f24], by simp [go_sem, f90], by simp [go_sem, f91], by simp [go_sem, f92], by simp [go_sem, f126], by simp [go_sem, f127], by simp [go_sem], krt⟩ ?_
                simp [go_sem, intOf, f128]; omega
              · have hqq' : ((idB bj).1 == id1) = false := by simpa using hqq
                simp [go_sem, IntWalk.iteOmega, IntWalk.toNatUp, f11, f15, f17, f19, f21, f22, f23, f24, f90, f91, f92, f126, f127, f128, hqt, hqe, hqq']
                refine roundEnd.mk ⟨j + 1, kk1, by omega, hk1, by simp [go_sem, f11], by simp [go_sem, f15], by simp [go_sem, f17], by simp [go_sem, f19], by simp [go_sem, f21], by simp [go_sem, f22], by simp [go_sem, f23], by simp [go_sem, f24], by simp [go_sem, f90], by simp [go_sem, f91], by simp [go_sem, f92], by simp [go_sem, f126], by simp [go_sem, f127], by simp [go_sem], krt⟩ ?_
                simp [go_sem, intOf, f128]; omega
            · have hjl' : ¬ (j : Int) < X.length := by omega
              simp [go_sem, IntWalk.iteOmega, IntWalk.toNatUp, f11, f15, f17, f19, f21, f22, f23, f24, f90, f91, f92, f126, f127, f128, hjl']
              exact atCut.mk ⟨kk1, id1, ak1, by simp [go_sem, f11], by simp [go_sem, f15], by simp [go_sem, f17], by simp [go_sem, f19], by simp [go_sem, f21], by simp [go_sem, f22], by simp [go_sem, f23], by simp [go_sem, f24], by simp [go_sem, f90], by simp [go_sem, f91], by simp [go_sem, f92], hk1, hid1, hak1, hIz.keep kr, hAz.keep kr, kzr⟩
      · rintro s6 wz ⟨kk1, id1, ak1, h11, h15, h17, h19, h21, h22, h23, h24, h90, h91, h92, hk1, hid1, hak1, hIz, hAz, kz⟩
        have hneq : ∀ j, (Oi j ∨ Pi j) → j ≠ q19 ∧ j ≠ q24 := fun j hj => ⟨fun e => hqi (by rw [← e]; exact hj), fun e => hq24O (by rw [← e]; exact hj)⟩
        have hFz := hFc.keeps (kz.mono fun j _ hj => hneq j (.inl hj))
        have hRz := hRc.keeps (kz.mono fun j _ hj => hneq j (.inr hj))
        have b8z : Below w8.heap.size w8 wz := hKc.trans (kz.below hKc.size fun k hk => ⟨by omega, by omega⟩)
        have hPz := kz.blk hPc ⟨hnp.2, hnp.1⟩
        have xi := readCells_all hIz 32 (by rw [List.size_toArray, bl_length]; exact hid1)
        have xo8 : readCells wz ⟨p, 0, none⟩ 0 8 = some (opA ob).toList := readCells_all hPz 8 rfl
        clear hFc hRc hKc hPc hI hAc kz
        simp [go_sem, IntWalk.iteOmega, IntWalk.toNatUp, h11, h15, h17, h19, h21, h22, h23, h24, h90, h91, h92, xi, xo8]
        have hdo := does_any hFz hRz hdi hbi (by omega) (hC.keep k08) b8z hlowi (hxR.keep k38) hxck (by omega) hk1 hid1 (hoi.keep k08) hosm
        refine callE_of hdo ?_
        clear hdo
        rintro _ wA ⟨rfl, O1, P1, S1, R1, hF1, hR1, hd1, hb1, hM1⟩
        obtain ⟨b8A, hlow1⟩ := low_b b8z hM1 hlowi
        have hqA : ¬ (O1 q19 ∨ P1 q19) := fun hh => (hM1.1 _ hh).elim hqi fun h => by have := hAz.lt; omega
        have hq24A : ¬ (O1 q24 ∨ P1 q24) := fun hh => (hM1.1 _ hh).elim hq24O fun h => by have := hIz.lt; omega
        have hPA := hM1.2.2.blk hPz hpO
        have hAA := hM1.2.2.blk hAz hqi
        have hIA := hM1.2.2.blk hIz hq24O
        clear hFz hRz hM1 hPz hAz hIz xi xo8 b8z
        simp [go_sem, IntWalk.iteOmega, IntWalk.toNatUp, h11, h15, h17, h19, h21, h22, h23, h24, h90, h91, h92]
        refine callE_of (same_any hF1 hR1 hb1 (by omega) (hC.keep (bel b8A))) ?_
        rintro _ wB ⟨rfl, kB⟩
        have hPB := hPA.keep kB
        have hAB := hAA.keep kB
        have hIB := hIA.keep kB
        have hFB := hF1.keep kB
        have hRB := hR1.keep kB
        have b8B := b8A.trans (kB.mono b8A.size)
        have xd : wB.cell? ⟨p, 0, none⟩ = some (.int .i64 ob.d) := by rw [hPB.cell]; rfl
        clear hPA hAA hIA hF1 hR1
        by_cases hd4 : ob.d = 4
        case neg =>
          have hd4' : (ob.d != 4) = true := by simpa using hd4
          simp [go_sem, IntWalk.iteOmega, IntWalk.toNatUp, h11, h15, h17, h19, h21, h22, h23, h24, h90, h91, h92, xd, hd4']
          refine roundEnd.mk ⟨i + 1, fx, O1, P1, S1, R1, ak1, by omega, by simp [go_sem, h11], by simp [go_sem, h15], by simp [go_sem, h17], by simp [go_sem, h19], by simp [go_sem, h90], by simp [go_sem, h91], by simp [go_sem], hFB, hRB, hd1, hb1, hlow1, hqA, hAB, hak1, b8B⟩ ?_
          simp [go_sem, intOf, h92]; omega
        have hd4' : (ob.d != 4) = false := by simpa using hd4
        obtain ⟨tvF, rkF, raF, roF, vsF, KF, hFi⟩ := hFB
        simp [go_sem, IntWalk.iteOmega, IntWalk.toNatUp, h11, h15, h17, h19, h21, h22, h23, h24, h90, h91, h92, xd, hd4']
        refine callE_of (fcopy_any hFi hb1.ok) ?_
        rintro _ wC ⟨x, tvx, r1, r2, r3, vsx, rfl, hcx, kC⟩
        simp [go_sem, IntWalk.iteOmega, IntWalk.toNatUp, h11, h15, h17, h19, h21, h22, h23, h24, h90, h91, h92]
        rw [← id9_lit]
        have h9 : id9.length = 32 := rfl
        have kI := ext_alloc wC (.cells #[Value.int IntKind.i64 3] 3)
        have hThree : Rd (wC.alloc (.cells #[Value.int IntKind.i64 3] 3)) 1 (some ⟨wC.heap.size, 0, none⟩) ([3] : List Int).length (intsK .i64 [3]) := rd_us (us := [Value.int .i64 3]) (Blk.self_ rfl)
        have kBC := kC.size
        have hFC := (hFi.keep kC).keep kI
        have hOlt : ∀ j, O1 j → j < wB.heap.size := hFi.lt
        have b8C := b8B.trans (kC.mono b8B.size)
        have b8I := b8C.trans (kI.mono b8C.size)
        have hPlt := hRB.lt
        have hqBl : q19 < wB.heap.size := hAB.lt
        have hq24l : q24 < wB.heap.size := hIB.lt
        have hsI : wC.heap.size < (wC.alloc (.cells #[Value.int IntKind.i64 3] 3)).heap.size := by simp
        have kI' := Keeps.of_ext (O := fun j => ¬ O1 j ∧ j < wC.heap.size) kI
        generalize wC.alloc (.cells #[Value.int IntKind.i64 3] 3) = wI at *
        have htg := ftarget_any (A := some ⟨wC.heap.size, 0, none⟩) (c := 1) (us := [3]) hFC hb1.ok h9 hThree (by decide) (fun j hj hO => by
          obtain ⟨_, b, o, e, rfl⟩ := hj
          injection e with e
          injection e with e
          have := hOlt j hO
          omega)
        refine callE_of htg ?_
        clear htg hThree
        rintro _ wD ⟨rfl, ⟨tvD, vsD, hFD⟩, kD⟩
        have hokD := targetF_ok hb1.ok h9 [3]
        have hofD := hb1.often.target id9 [3]
        have hlowO : ∀ k, k < w8.heap.size → ¬ O1 k := fun k hk hO => hlow1 k hk (.inl hO)
        have b8D : Below w8.heap.size w8 wD := b8I.trans (kD.below b8I.size hlowO)
        obtain ⟨SD, hSD⟩ : ∃ SD, SD = (targetF S1 id9 [3]).2 := ⟨_, rfl⟩
        rw [← hSD] at hFD hokD hofD
        simp [go_sem, IntWalk.iteOmega, IntWalk.toNatUp, h11, h15, h17, h19, h21, h22, h23, h24, h90, h91, h92]
        rw [← id9_lit]
        have hak9 := fask_any hFD hokD (hC.keep (bel b8D)) hofD (by omega) h9
        refine callE_of hak9 ?_
        clear hak9
        rintro _ wE ⟨rfl, hFE, kE⟩
        have hSi : ∀ {j : Nat}, j < wI.heap.size → ¬ O1 j → ¬ Since O1 wI wD j := fun {j} hj hn hh => by
          rcases hh with hh | hh
          · exact hn hh
          · omega
        have b8E : Below w8.heap.size w8 wE := b8D.trans (kE.below b8D.size fun k hk => hSi (by have := b8I.size; omega) (hlowO k hk))
        have kAE : Keeps (fun j => ¬ O1 j ∧ j < wC.heap.size) wC wE := (kI'.trans (kD.mono fun j _ hj => hj.1)).trans (kE.mono fun j _ hj => hSi (by omega) hj.1)
        have hIE := kAE.blk (hIB.keep kC) ⟨fun hO => hq24A (.inl hO), by omega⟩
        have xiE := readCells_all hIE 32 (by rw [List.size_toArray, bl_length]; exact hid1)
        obtain ⟨q1, hq1⟩ : ∃ q1, q1 = (askF SD id9).1.1 := ⟨_, rfl⟩
        obtain ⟨q2, hq2⟩ : ∃ q2, q2 = (askF SD id9).1.2 := ⟨_, rfl⟩
        rw [← hq1, ← hq2]
        simp [go_sem, IntWalk.iteOmega, IntWalk.toNatUp, h11, h15, h17, h19, h21, h22, h23, h24, h90, h91, h92, xiE]
        refine callE_of (ffail_any hFE (askF_ok hokD id9) hid1) ?_
        rintro _ wG ⟨rfl, hFG, kG⟩
        have b8G : Below w8.heap.size w8 wG := b8E.trans (kG.below b8E.size fun k hk => hSi (by have := b8I.size; omega) (hlowO k hk))
        have kAG : Keeps (fun j => ¬ O1 j ∧ j < wC.heap.size) wC wG := kAE.trans (kG.mono fun j _ hj => hSi (by omega) hj.1)
        have hcG := hcx.recopy hOlt kAG hFG
        have hKO : ∀ {j : Nat}, (∃ y ∈ KF, y.2.2.ownBlock = some j) → O1 j := fun {j} ⟨y, hy, e⟩ => (hFi.dat y hy).2.2 j e
        have hRG := (hRB.keep kC).keeps (kAG.mono fun j _ hj => ⟨fun hO => hd1 j hO hj, by have := hPlt j hj; omega⟩)
        have hAG := kAG.blk (hAB.keep kC) ⟨fun hO => hqA (.inl hO), by omega⟩
        have hFx : FAt wG (CopyO wB wC KF) x S1 := ⟨_, _, _, _, _, _, hcG⟩
        obtain ⟨q3, hq3⟩ : ∃ q3, q3 = (failF (askF SD id9).2 id1).1 := ⟨_, rfl⟩
        rw [← hq3]
        clear hFE hFD hFG kG kE kD kAE hIE xiE hcG hcx hFC hofD hokD kI kI'
        simp [go_sem, IntWalk.iteOmega, IntWalk.toNatUp, h11, h15, h17, h19, h21, h22, h23, h24, h90, h91, h92]
        refine callE_of (same_any hFx hRG hb1 (by omega) (hC.keep (bel b8G))) ?_
        rintro _ wH ⟨rfl, kH⟩
        simp [go_sem, IntWalk.iteOmega, IntWalk.toNatUp, h11, h15, h17, h19, h21, h22, h23, h24, h90, h91, h92]
        refine roundEnd.mk ⟨i + 1, x, CopyO wB wC KF, P1, S1, R1, ak1, by omega, by simp [go_sem, h11], by simp [go_sem], by simp [go_sem, h17], by simp [go_sem, h19], by simp [go_sem, h90], by simp [go_sem, h91], by simp [go_sem], hFx.keep kH, hRG.keep kH, fun j hj hp => ?_, hb1, fun j hj hh => ?_, fun hh => ?_, hAG.keep kH, hak1, b8G.trans (kH.mono b8G.size)⟩ ?_
        · rcases hj with hj | hj
          · have := hPlt j hp; omega
          · exact hd1 j (hKO hj) hp
        · rcases hh with hh | hh
          · rcases hh with hh | hh
            · have := b8B.size; omega
            · exact hlow1 j hj (.inl (hKO hh))
          · exact hlow1 j hj (.inr hh)
        · rcases hh with hh | hh
          · rcases hh with hh | hh
            · omega
            · exact hqA (.inl (hKO hh))
          · exact hqA (.inr hh)
        · simp [go_sem, intOf, h92]; omega
    · have hlt' : ¬ (i : Int) < L.length := by omega
      simp [go_sem, IntWalk.iteOmega, IntWalk.toNatUp, e11, e15, e17, e19, e90, e91, e92, hlt']
      exact bel hKi
end Go.Proofs.YtdjcjjodbniebaaGreatDoor
