/-
  Texts joined: PRParse.
-/
import Derived.Test.YtpmmfabendnhiaaDoorJoin26
namespace Go.Proofs.YtpmmfabendnhiaaDoor
open Go.RowKit
open Go.Lib (strCells byteCells decDigits cut)
set_option linter.unusedVariables false
set_option linter.unusedSimpArgs false
set_option maxRecDepth 10000
theorem step_ne {n : Nat} {l : List UInt8} {S S' : PS} {ms ms' : List Mv} (h : stepV n l S ms = some (S', ms')) (hne : ms ≠ [] → S.vs ≠ []) : ms' ≠ [] → S'.vs ≠ [] := by
  unfold stepV at h
  split at h
  · split at h
    · rename_i S1 h1
      cases h
      rw [(headV_same h1).1]; exact hne
    · cases h
  · split at h
    · split at h
      · rename_i S1 h1
        cases h
        split at h1
        · rename_i hm
          intro h; exact absurd hm h
        · cases h1
      · cases h
    · split at h
      · split at h
        · rename_i hc
          cases h
          intro _; exact hc.1
        · cases h
      · cases h
theorem condN_rest {P : Program} {n i : Nat} {x y : Code} {s : Slots} {w : World} {b : Nat} {K : Exit → Slots → World → Prop} (I : Slots → World → Prop) (h2 : ∀ s w, I s w → K .normal s w) (h1 : ∀ K', (∀ s w, I s w → K' .normal s w) → condN P n i x y s w (blockE b K')) : condN P n i x y s w (blockE b K) := h1 K h2
theorem move_word {l : List UInt8} (h : firstW l = vdrS ∨ firstW l = byzS) : moveV 4009 l = none := by
  unfold firstW at h
  unfold moveV
  cases hw : wordsV l with
  | nil => rfl
  | cons x ws =>
    rw [hw] at h
    simp only [List.headD_cons] at h
    have : kindV x = 0 := by rcases h with rfl | rfl <;> decide
    simp only
    rw [if_pos this]
theorem vdr_word {l : List UInt8} {S S' : PS} (h : vdrV l S = some S') : firstW l = vdrS ∨ firstW l = byzS := by
  unfold vdrV at h
  unfold firstW
  split at h
  · rename_i x nm y hw
    split at h
    · rename_i hc
      rw [hw]
      exact hc.1
    · cases h
  · cases h
theorem step_vdr {n : Nat} {l : List UInt8} {S S' : PS} (h8 : ¬ n ≤ 8) (h : vdrV l S = some S') : stepV n l S [] = some (S', []) := by
  unfold stepV
  rw [if_neg h8, if_pos (vdr_word h), if_pos rfl, h]
theorem step_move {n : Nat} {l : List UInt8} {S : PS} {ms : List Mv} (h8 : ¬ n ≤ 8) (h : ms ≠ [] ∨ vdrV l S = none) : stepV n l S ms = (match moveV 4009 l with
    | some m => if S.vs ≠ [] ∧ ms.length < 4096 then some (S, ms ++ [m]) else none
    | none => none) := by
  unfold stepV
  rw [if_neg h8]
  by_cases hf : firstW l = vdrS ∨ firstW l = byzS
  · rw [if_pos hf, move_word hf]
    have : (if ms = [] then vdrV l S else none) = none := by
      rcases h with h | h
      · rw [if_neg h]
      · rw [h]; split <;> rfl
    rw [this]
  · rw [if_neg hf]
    cases moveV 4009 l <;> rfl
theorem rmove_u (l : List UInt8) (hl : l.length ≤ 20000) (w : World) : callE Tryd.prog 17 #[.string (strOf l)] w fun v w' => ∃ (m : Mv) (A1 : Option Addr) (c1 : Nat) (A2 : Option Addr) (c2 : Nat) (e : Int), v = .tuple #[.agg #[.int .i64 m.kind, .int .i64 m.node, .int .i64 m.rcv, .int .i64 m.n, .slice A1 m.bytes.length c1, .slice A2 m.draws.length c2], .int .i64 e] ∧ MvO w' w.heap.size m (.slice A1 m.bytes.length c1) (.slice A2 m.draws.length c2) ∧ (e = 0 ∧ moveV 4009 l = some m ∨ e = 270 ∧ moveV 4009 l = none) ∧ Below w.heap.size w w' := by
  refine callE_of (rmove_any l hl w) ?_
  rintro v w' ⟨hq, hb⟩
  cases hm : moveV 4009 l with
  | none =>
    rw [hm] at hq
    exact ⟨{ kind := 0, node := 0, rcv := 0, n := 0, bytes := [], draws := [] }, none, 0, none, 0, 270, hq, ⟨World.ownsRow_nil _ _ _ _, World.ownsRow_nil _ _ _ _⟩, .inr ⟨rfl, rfl⟩, hb⟩
  | some m =>
    rw [hm] at hq
    obtain ⟨va, vd, rfl, hmO⟩ := hq
    obtain ⟨-, A1, c1, rfl⟩ := own_sl hmO.1
    obtain ⟨-, A2, c2, rfl⟩ := own_sl hmO.2
    exact ⟨m, A1, c1, A2, c2, 0, rfl, hmO, .inl ⟨rfl, rfl⟩, hb⟩
theorem app_mv {B R Q q : Nat} {w wa : World} {S : PS} {ms : List Mv} {vv vb vf : Value} {Am : Option Addr} {cm : Nat} {m : Mv} {A1 A2 : Option Addr} {c1 c2 : Nat} {pc rc : Array Value} (hP : Blk wa Q 39 pc) (hR : Blk wa R 39 rc)
    (hr : RowsAt B wa S ms vv vb vf (.slice Am ms.length cm)) (hmO : MvO wa B m (.slice A1 m.bytes.length c1) (.slice A2 m.draws.length c2)) (hN : Blk wa q 48 #[.int .i64 m.kind, .int .i64 m.node, .int .i64 m.rcv, .int .i64 m.n, .slice A1 m.bytes.length c1, .slice A2 m.draws.length c2]) (hb : Below B w wa) (hB : B ≤ wa.heap.size) (hml : ms.length ≤ 4096) {K : Kont}
    (hK : ∀ v' w', Blk w' Q 39 pc → Blk w' R 39 rc → RowsAt B w' S (ms ++ [m]) vv vb vf v' → Below B w w' → K v' w') :
    resE Tryd.prog (appendR Tryd.prog 40 40 40 (.slice Am ms.length cm) (.slice (some ⟨q, 0, none⟩) 1 1) wa) K := by
  obtain ⟨xs, hm1, hm2, hm3⟩ := hr.moves
  refine appendE B 48 6 80 Tryd.underlying40 el48 hm2 (m := 1) (news := (mvCells m (.slice A1 m.bytes.length c1) (.slice A2 m.draws.length c2)).toList) ⟨rfl, fun _ => ⟨_, 0, rfl, hN.lt, fun j u hu => by rw [hN.cell]; simpa [mvCells] using hu⟩⟩ rfl (by unfold maxLen; omega) (by omega) hB ?_
  intro v' w' own g _
  exact hK v' w' (app_blk hP hm2 (by decide) g) (app_blk hR hm2 (by decide) g) (hr.mv hm1 hm2 hm3 hmO g own) (hb.grown g hB fun k hk => (hm2.lt k hk).1)
set_option maxHeartbeats 12800000 in
theorem rparse_any (t : List UInt8) (ht : t.length ≤ 20000) (w : World) :
    callE Tryd.prog 6 #[.string (strOf t)] w fun v w' => PlanPost t v w' ∧ Below w.heap.size w w' := by
  obtain ⟨P, hP⟩ : ∃ P, PlanPost t = P := ⟨_, rfl⟩
  rw [hP]
  refine calls_E Tryd.func6 rfl rfl rfl (Nat.le_of_ble_eq_true rfl) ?_
  simp [go_sem, IntWalk.iteOmega, IntWalk.toNatUp]
  rw [planZ_lit]
  have hR0 : Blk ((w.alloc (.cells planZ.toArray 39)).alloc (.cells planZ.toArray 39)) w.heap.size 39 planZ.toArray := (Blk.self_ rfl).more _
  have hP0 : Blk ((w.alloc (.cells planZ.toArray 39)).alloc (.cells planZ.toArray 39)) (w.heap.size + 1) 39 planZ.toArray := Blk.self_ (by simp)
  have k0 : Below w.heap.size w ((w.alloc (.cells planZ.toArray 39)).alloc (.cells planZ.toArray 39)) := ext_trans (ext_alloc w _) (ext_alloc _ _)
  generalize (w.alloc (.cells planZ.toArray 39)).alloc (.cells planZ.toArray 39) = w0 at *
  refine W_loop (fun s wr => ∃ (a u : List UInt8) (S : PS) (ms : List Mv) (n : Nat) (vv vb vf vm : Value), t = a ++ u ∧ 1 ≤ n ∧ n ≤ a.length + 1 ∧ s 0 = .string (strOf t) ∧ s 2 = .pointer (some ⟨w.heap.size, 0, none⟩) ∧ s 6 = .pointer (some ⟨w.heap.size + 1, 0, none⟩) ∧ s 7 = vm ∧ s 8 = .int .i64 a.length ∧ s 9 = .int .i64 n ∧ Blk wr w.heap.size 39 planZ.toArray ∧ Blk wr (w.heap.size + 1) 39 (planL S.c S.now vv vb vf).toArray ∧ RowsAt (w.heap.size + 2) wr S ms vv vb vf vm ∧ S.Ok ms ∧ (ms ≠ [] → S.vs ≠ []) ∧ parseV t PS0 [] 1 = parseV u S ms n ∧ Below w.heap.size w wr) (fun s _ => t.length + 1 - (intOf (s 8)).toNat) ?_ ?_
  · exact ⟨[], t, PS0, [], 1, _, _, _, _, rfl, by omega, by simp, by simp [go_sem], by simp [go_sem], by simp [go_sem], by simp [go_sem], by simp [go_sem], by simp [go_sem], hR0, hP0, RowsAt.none0 _ _, ⟨by simp [PS0], by simp [PS0], by simp⟩, fun h => absurd rfl h, rfl, k0⟩
  clear hR0 hP0 k0
  rintro s wr ⟨a, u, S, ms, n, vv, vb, vf, vm, hau, hn1, hna, e0, e2, e6, e7, e8, e9, hR, hPb, hr, hok, hne, hpv, hbw⟩
  have htl : t.length = a.length + u.length := by rw [hau]; simp
  have c28 := hPb.cell 28
  rw [pl_28] at c28
  have hPl := hPb.lt
  obtain ⟨-, Av, cv, rfl⟩ := own_sl hr.vs
  obtain ⟨-, Ab, cb, rfl⟩ := own_sl hr.byz
  obtain ⟨-, Af, cf, rfl⟩ := own_sl hr.first
  obtain ⟨Am, cm, rfl⟩ : ∃ Am cm, vm = .slice Am ms.length cm := by
    obtain ⟨xs, hm1, hm2, hm3⟩ := hr.moves
    obtain ⟨-, Am, cm, e⟩ := own_sl hm2
    exact ⟨Am, cm, e⟩
  have hone : allOne (planL S.c S.now (.slice Av S.vs.length cv) (.slice Ab S.byz.length cb) (.slice Af S.first.length cf)) = true := planL_one rfl rfl rfl
  have hlen := planL_len S.c S.now (.slice Av S.vs.length cv) (.slice Ab S.byz.length cb) (.slice Af S.first.length cf)
  by_cases hend : u = [] ∧ S.vs ≠ []
  · obtain ⟨rfl, hvs⟩ := hend
    have hvl : 0 < S.vs.length := by cases h : S.vs with | nil => exact absurd h hvs | cons _ _ => simp
    have hvl' : (0 : Int) < S.vs.length := by omega
    have heq : ((a.length : Int) == (t.length : Int)) = true := by rw [htl]; simp
    rw [parseV_end hvs] at hpv
    have rc := readCells_all hPb 32 rfl
    have cw := canWrite_all hR 32 rfl
    have ss := storeSeg_all hR (planL S.c S.now (.slice Av S.vs.length cv) (.slice Ab S.byz.length cb) (.slice Af S.first.length cf)) rfl
    have rf := readCells_all (Blk_setRow hR (cs' := (planL S.c S.now (.slice Av S.vs.length cv) (.slice Ab S.byz.length cb) (.slice Af S.first.length cf)).toArray)) 32 rfl
    have hro := hr.far hR rowT_plan (Keeps.setRow wr w.heap.size (planL S.c S.now (.slice Av S.vs.length cv) (.slice Ab S.byz.length cb) (.slice Af S.first.length cf)).toArray (fun h => h rfl))
    have hwo := below_setRow hbw (Nat.le_refl _) (planL S.c S.now (.slice Av S.vs.length cv) (.slice Ab S.byz.length cb) (.slice Af S.first.length cf)).toArray
    simp [go_sem, IntWalk.iteOmega, IntWalk.toNatUp, e0, e2, e6, e7, e8, e9, heq, strOf_size, c28, hPl, hvl, hvl', rc, cw, ss, rf, hone, hlen]
    refine ⟨?_, hwo⟩
    rw [← hP]
    unfold PlanPost
    rw [hpv]
    exact ⟨_, _, _, _, _, rfl, hro⟩
  have badP : ∀ w1 k, Below w.heap.size w w1 → parseV t PS0 [] 1 = (none, k) → P (.tuple #[.agg planZ.toArray, .slice none 0 0, .int .i64 (k : Int), .int .i64 270]) (w1.setRow w.heap.size planZ.toArray) ∧ Below w.heap.size w (w1.setRow w.heap.size planZ.toArray) := by
    intro w1 k hb h
    refine ⟨?_, below_setRow hb (Nat.le_refl _) _⟩
    rw [← hP]
    unfold PlanPost
    rw [h]
  have rcR := readCells_all (Blk_setRow hR (cs' := planZ.toArray)) 32 rfl
  have cwR := canWrite_all hR 32 rfl
  have ssR := storeSeg_all hR planZ rfl
  by_cases hu0 : u = []
  · subst hu0
    have hvs : S.vs = [] := Classical.byContradiction fun h => hend ⟨rfl, h⟩
    have hvl : S.vs.length = 0 := by rw [hvs]; rfl
    have hct : (cut ([] : List UInt8) [10]).2.2 = false := by rw [cut_not (by simp)]
    have hbp := badP wr n hbw (hpv.trans (parseV_cut hend hct))
    have heq : ((a.length : Int) == (t.length : Int)) = true := by rw [htl]; simp
    have hlt : ¬ (a.length : Int) < t.length := by rw [htl]; simp
    rw [hvl] at c28
    simp [go_sem, IntWalk.iteOmega, IntWalk.toNatUp, e0, e2, e6, e7, e8, e9, heq, strOf_size, c28, hPl]
    refine W_loop (fun s wi => s 0 = .string (strOf t) ∧ s 2 = .pointer (some ⟨w.heap.size, 0, none⟩) ∧ s 9 = .int .i64 n ∧ s 10 = .int .i64 a.length ∧ wi = wr) (fun _ _ => 0) ⟨by simp [go_sem, e0], by simp [go_sem, e2], by simp [go_sem, e9], by simp [go_sem], rfl⟩ ?_
    rintro s wi ⟨e0, e2, e9, e10, rfl⟩
    simp [go_sem, IntWalk.iteOmega, IntWalk.toNatUp, e0, e2, e9, e10, hlt, heq, strOf_size, planZ_list, planZ_one, planZ_len, rcR, cwR, ssR]
    exact hbp
  have hup : 0 < u.length := List.length_pos_iff.2 hu0
  have heq : ((a.length : Int) == (t.length : Int)) = false := by simp; omega
  simp [go_sem, IntWalk.iteOmega, IntWalk.toNatUp, e0, e2, e6, e7, e8, e9, heq, strOf_size]
  refine W_loop (fun s wi => ∃ k : Nat, k ≤ u.length ∧ (10 : UInt8) ∉ u.take k ∧ s 0 = .string (strOf t) ∧ s 2 = .pointer (some ⟨w.heap.size, 0, none⟩) ∧ s 6 = .pointer (some ⟨w.heap.size + 1, 0, none⟩) ∧ s 7 = .slice Am ms.length cm ∧ s 8 = .int .i64 a.length ∧ s 9 = .int .i64 n ∧ s 10 = .int .i64 ((a.length + k : Nat) : Int) ∧ wi = wr) (fun s _ => t.length + 1 - (intOf (s 10)).toNat) ⟨0, by omega, by simp, by simp [go_sem, e0], by simp [go_sem, e2], by simp [go_sem, e6], by simp [go_sem, e7], by simp [go_sem, e8], by simp [go_sem, e9], by simp [go_sem], rfl⟩ ?_
  clear e0 e2 e6 e7 e8 e9 s
  rintro s wi ⟨k, hk, hk10, e0, e2, e6, e7, e8, e9, e10, rfl⟩
  by_cases hku : k < u.length
  case neg =>
    obtain rfl : k = u.length := by omega
    rw [List.take_length] at hk10
    have hct : (cut u [10]).2.2 = false := by rw [cut_not hk10]
    have hbp := badP wi n hbw (hpv.trans (parseV_cut hend hct))
    have hlt : ¬ (a.length : Int) + (u.length : Int) < (t.length : Int) := by omega
    have heq2 : ((a.length : Int) + (u.length : Int) == (t.length : Int)) = true := by simp; omega
    simp [go_sem, IntWalk.iteOmega, IntWalk.toNatUp, e0, e2, e9, e10, hlt, heq2, strOf_size, planZ_list, planZ_one, planZ_len, rcR, cwR, ssR]
    exact hbp
  have hlt : (a.length : Int) + (k : Int) < (t.length : Int) := by omega
  have hltn : a.length + k < t.length := by omega
  have x1 := fun w => run_index_str (P := Tryd.prog) (w := w) Tryd.underlying9 t (a.length + k) hltn
  have hch : t[a.length + k]'hltn = u[k] := by
    have : t[a.length + k]? = u[k]? := by rw [hau, List.getElem?_append_right (by omega)]; congr 1; omega
    rw [List.getElem?_eq_getElem hltn, List.getElem?_eq_getElem hku] at this
    injection this
  rw [hch] at x1
  push_cast at x1
  by_cases hq : u[k] = 10
  case neg =>
    have hq' : ((u[k].toNat : Int) == 10) = false := by
      have : ¬ u[k].toNat = 10 := fun h => hq (UInt8.toNat_inj.1 h)
      simp; omega
    have hq2 : ((u[k].toNat : Int) != 10) = true := by rw [bne, hq']; rfl
    have hnot : (10 : UInt8) ∉ u.take (k + 1) := by
      rw [List.take_add_one, List.getElem?_eq_getElem hku]
      intro h
      rcases List.mem_append.1 h with h | h
      · exact hk10 h
      · simp at h; exact hq h.symm
    have fadd : IntKind.i64.wrap ((a.length : Int) + (k : Int) + 1) = ((a.length + (k + 1) : Nat) : Int) := by rw [IntWalk.i64_in _ (by omega)]; omega
    generalize u[k] = ch at *
    simp [go_sem, IntWalk.iteOmega, IntWalk.toNatUp, e0, e2, e6, e7, e8, e9, e10, hlt, hltn, x1, hq', hq2, strOf_size, fadd]
    refine roundEnd.mk ⟨k + 1, by omega, hnot, by simp [go_sem, e0], by simp [go_sem, e2], by simp [go_sem, e6], by simp [go_sem, e7], by simp [go_sem, e8], by simp [go_sem, e9], by simp [go_sem], rfl⟩ ?_
    simp [go_sem, intOf, e10]; omega
  have hq2 : ((u[k].toNat : Int) != 10) = false := by rw [hq]; rfl
  have heq2 : ((a.length : Int) + (k : Int) == (t.length : Int)) = false := by simp; omega
  have hsp : u = u.take k ++ 10 :: u.drop (k + 1) := by
    have := List.take_append_drop k u
    rw [List.drop_eq_getElem_cons hku, hq] at this
    exact this.symm
  have hcut : cut u [10] = (u.take k, u.drop (k + 1), true) := by
    conv => lhs; rw [hsp]
    exact cut_is _ hk10
  have hct : (cut u [10]).2.2 = true := by rw [hcut]
  have hl1 : (cut u [10]).1 = u.take k := by rw [hcut]
  have hl2 : (cut u [10]).2.1 = u.drop (k + 1) := by rw [hcut]
  have hline : List.drop a.length (List.take (a.length + k) t) = u.take k := by
    rw [hau, List.take_append, List.take_of_length_le (by omega), List.drop_append, List.drop_of_length_le (Nat.le_refl _)]
    simp
  have hL : (u.take k).length ≤ 20000 := by rw [List.length_take]; omega
  have ha2 : a.length + k + 1 ≤ t.length := by omega
  have hpb := fun h => parseV_bad (n := n) (ms := ms) (S := S) hend hct h
  have hps := fun {S'} {ms'} h => parseV_step (n := n) (ms := ms) (S := S) (S' := S') (ms' := ms') hend hct h
  rw [hl1] at hpb
  simp only [hl1, hl2] at hps
  have hau2 : t = (a ++ u.take k ++ [10]) ++ u.drop (k + 1) := by
    rw [hau]
    conv => lhs; rw [hsp]
    simp
  have ha3 : (a ++ u.take k ++ [10]).length = a.length + k + 1 := by simp; omega
  simp [go_sem, IntWalk.iteOmega, IntWalk.toNatUp, e0, e2, e6, e7, e8, e9, e10, hlt, hltn, x1, hq2, heq2, strOf_size, strOf_part, hline]
  clear hq2 heq2 x1 hch hline hsp hcut hq hk10 hct hl1 hl2 hend c28 hPl rcR cwR ssR
  generalize u.take k = l at *
  generalize a ++ l ++ [10] = a2 at *
  generalize u.drop (k + 1) = u2 at *
  refine condN_rest (fun s1 w1 => s1 0 = .string (strOf t) ∧ s1 2 = .pointer (some ⟨w.heap.size, 0, none⟩) ∧ s1 6 = .pointer (some ⟨w.heap.size + 1, 0, none⟩) ∧ s1 8 = .int .i64 a.length ∧ s1 9 = .int .i64 n ∧ s1 10 = .int .i64 ((a.length : Int) + (k : Int)) ∧ Blk w1 w.heap.size 39 planZ.toArray ∧ Below w.heap.size w w1 ∧ (match stepV n l S ms with
      | some (S', ms') => s1 12 = .bool true ∧ ∃ vv vb vf vm, s1 7 = vm ∧ Blk w1 (w.heap.size + 1) 39 (planL S'.c S'.now vv vb vf).toArray ∧ RowsAt (w.heap.size + 2) w1 S' ms' vv vb vf vm
      | none => s1 12 = .bool false)) ?_ ?_
  · rintro s1 w1 ⟨e0, e2, e6, e8, e9, e10, hR1, hb1, hm⟩
    cases hst : stepV n l S ms with
    | none =>
      rw [hst] at hm
      simp only at hm
      have rcR := readCells_all (Blk_setRow hR1 (cs' := planZ.toArray)) 32 rfl
      have cwR := canWrite_all hR1 32 rfl
      have ssR := storeSeg_all hR1 planZ rfl
      have hbp := badP w1 n hb1 (hpv.trans (hpb hst))
      simp [go_sem, IntWalk.iteOmega, IntWalk.toNatUp, e0, e2, e9, hm, planZ_list, planZ_one, planZ_len, rcR, cwR, ssR]
      exact hbp
    | some p =>
      obtain ⟨S', ms'⟩ := p
      rw [hst] at hm
      obtain ⟨e12, vv', vb', vf', vm', e7, hP1, hr1⟩ := hm
      have fadd : IntKind.i64.wrap ((a.length : Int) + (k : Int) + 1) = ((a.length + k + 1 : Nat) : Int) := by rw [IntWalk.i64_in _ (by omega)]; omega
      have fn : IntKind.i64.wrap ((n : Int) + 1) = ((n + 1 : Nat) : Int) := by rw [IntWalk.i64_in _ (by omega)]; omega
      have hnx := step_ne hst hne
      have hkx := step_ok hst hok
      have hpx := hpv.trans (hps hst)
      simp [go_sem, IntWalk.iteOmega, IntWalk.toNatUp, e0, e2, e6, e8, e9, e10, e12, fadd, fn]
      refine roundEnd.mk ⟨a2, u2, S', ms', n + 1, vv', vb', vf', vm', hau2, by omega, by omega, by simp [go_sem, e0], by simp [go_sem, e2], by simp [go_sem, e6], by simp [go_sem, e7], by simp [go_sem, ha3], by simp [go_sem], hR1, hP1, hr1, hkx, hnx, hpx, hb1⟩ ?_
      simp [go_sem, intOf]
      omega
  · intro K hK
    by_cases h8 : n ≤ 8
    · have h8' : (n : Int) ≤ 8 := by omega
      have fsub : IntKind.i64.wrap ((n : Int) - 1) = ((n - 1 : Nat) : Int) := by rw [IntWalk.i64_in _ (by omega)]; omega
      have hh := rhead_any hn1 h8 S (vv := .slice Av S.vs.length cv) (vb := .slice Ab S.byz.length cb) (vf := .slice Af S.first.length cf) rfl rfl rfl l hL wi
      have rcP := readCells_all hPb 32 rfl
      have hst : stepV n l S ms = (match headV n l S with | some S' => some (S', ms) | none => none) := by unfold stepV; rw [if_pos h8]; cases headV n l S <;> rfl
      simp [go_sem, IntWalk.iteOmega, IntWalk.toNatUp, e0, e2, e6, e7, e8, e9, e10, h8', fsub, rcP, hone, hlen]
      refine callE_of hh ?_
      rintro v w2 ⟨hq, k2⟩
      have hR2 := hR.keep k2
      have hP2 := hPb.keep k2
      have hr2 := hr.below k2
      have hb2 := hbw.trans (k2.mono hbw.size)
      cases hv : headV n l S with
      | none =>
        rw [hv] at hq hst
        simp only at hst
        obtain ⟨L, rfl, hLl, hLo⟩ := hq
        have cw := canWrite_all hP2 32 rfl
        have ss := storeSeg_all hP2 L (by rw [hLl]; rfl)
        simp [go_sem, IntWalk.iteOmega, IntWalk.toNatUp, e0, e2, e6, e7, e8, e9, e10, cw, ss, hLl, hLo]
        refine hK _ _ ⟨by simp [go_sem, e0], by simp [go_sem, e2], by simp [go_sem, e6], by simp [go_sem, e8], by simp [go_sem, e9], by simp [go_sem, e10], ?_, below_setRow hb2 (by omega) _, ?_⟩
        · exact (Keeps.setRow _ (w.heap.size + 1) _ (O := fun j => j ≠ w.heap.size + 1) (fun h => h rfl)).blk hR2 (by omega)
        · rw [hst]; exact by simp [go_sem]
      | some S' =>
        rw [hv] at hq hst
        simp only at hst
        obtain ⟨vf', rfl, hvf, hdj⟩ := hq
        obtain ⟨q1, q2⟩ := headV_same hv
        have hLl := planL_len S'.c S'.now (.slice Av S.vs.length cv) (.slice Ab S.byz.length cb) vf'
        have hLo : allOne (planL S'.c S'.now (.slice Av S.vs.length cv) (.slice Ab S.byz.length cb) vf') = true := planL_one rfl rfl hvf
        have hrS : RowsAt (w.heap.size + 2) w2 S' ms (.slice Av S.vs.length cv) (.slice Ab S.byz.length cb) vf' (.slice Am ms.length cm) := by
          obtain ⟨a1, a2, a3, a4⟩ := hr2
          refine ⟨by rw [q1]; exact a1, by rw [q2]; exact a2, ?_, a4⟩
          rcases hdj with ⟨rfl, h⟩ | h
          · rw [h]; exact a3
          · exact row_low h (by have := hPb.lt; omega)
        generalize hLg : planL S'.c S'.now (.slice Av S.vs.length cv) (.slice Ab S.byz.length cb) vf' = L at *
        have cw := canWrite_all hP2 32 rfl
        have ss := storeSeg_all hP2 L (by rw [hLl]; rfl)
        simp [go_sem, IntWalk.iteOmega, IntWalk.toNatUp, e0, e2, e6, e7, e8, e9, e10, cw, ss, hLl, hLo]
        refine hK _ _ ⟨by simp [go_sem, e0], by simp [go_sem, e2], by simp [go_sem, e6], by simp [go_sem, e8], by simp [go_sem, e9], by simp [go_sem, e10], ?_, below_setRow hb2 (by omega) _, ?_⟩
        · exact (Keeps.setRow _ (w.heap.size + 1) _ (O := fun j => j ≠ w.heap.size + 1) (fun h => h rfl)).blk hR2 (by omega)
        · rw [hst]
          refine ⟨by simp [go_sem], _, _, _, _, by simp [go_sem, e7], ?_, hrS.far hP2 rowT_plan (Keeps.setRow _ (w.heap.size + 1) _ (fun h => h rfl))⟩
          rw [hLg]
          exact Blk_setRow hP2
    have h8' : ¬ (n : Int) ≤ 8 := by omega
    have hB0 : w.heap.size + 2 ≤ wi.heap.size := by have := hPb.lt; omega
    by_cases hms : ms = []
    · subst hms
      have rcP := readCells_all hPb 32 rfl
      have hvd := rvdr_any hr hB0 l hL hok.vs (Nat.le_trans hok.byz hok.vs)
      simp [go_sem, IntWalk.iteOmega, IntWalk.toNatUp, e0, e2, e6, e7, e8, e9, e10, h8', rcP, hone, hlen]
      refine callE_of hvd ?_
      rintro v w2 ⟨hq, k2⟩
      have hR2 := hR.below k2 (by omega)
      have hP2 := hPb.below k2 (by omega)
      have hb2 := hbw.trans (k2.mono (by omega))
      have hB2 : w.heap.size + 2 ≤ w2.heap.size := Nat.le_trans hB0 k2.size
      have hQ : Blk (w2.alloc (.cells planZ.toArray 39)) w2.heap.size 39 planZ.toArray := Blk.self_ rfl
      have kq := ext_alloc w2 (.cells planZ.toArray 39)
      have cw := canWrite_all hQ 32 rfl
      cases hv : vdrV l S with
      | some S' =>
        rw [hv] at hq
        obtain ⟨vv', vb', rfl, hr2⟩ := hq
        have hst := step_vdr h8 hv
        obtain ⟨-, Av', cv', rfl⟩ := own_sl hr2.vs
        obtain ⟨-, Ab', cb', rfl⟩ := own_sl hr2.byz
        have hLl := planL_len S'.c S'.now (.slice Av' S'.vs.length cv') (.slice Ab' S'.byz.length cb') (.slice Af S.first.length cf)
        have hLo : allOne (planL S'.c S'.now (.slice Av' S'.vs.length cv') (.slice Ab' S'.byz.length cb') (.slice Af S.first.length cf)) = true := planL_one rfl rfl rfl
        generalize hLg : planL S'.c S'.now (.slice Av' S'.vs.length cv') (.slice Ab' S'.byz.length cb') (.slice Af S.first.length cf) = L at *
        have ss := storeSeg_all hQ L (by rw [hLl]; rfl)
        have kr := below_setRow kq (Nat.le_refl _) L.toArray
        have hR3 := hR2.keep kr
        have hP3 := hP2.keep kr
        have hr3 := hr2.below kr
        have hb3 := hb2.trans (kr.mono hb2.size)
        have rq := readCells_all (Blk_setRow hQ (cs' := L.toArray)) 32 (by simpa using hLl)
        have cw3 := canWrite_all hP3 32 rfl
        have ss3 := storeSeg_all hP3 L (by rw [hLl]; rfl)
        simp [go_sem, IntWalk.iteOmega, IntWalk.toNatUp, e0, e2, e6, e7, e8, e9, e10, planZ_lit, cw, ss, hLl, hLo, rq, cw3, ss3]
        refine hK _ _ ⟨?_, ?_, ?_, ?_, ?_, ?_, ?_, below_setRow hb3 (by omega) _, ?_⟩
        iterate 6 simp [go_sem, e0, e2, e6, e8, e9, e10]
        · exact (Keeps.setRow _ (w.heap.size + 1) _ (O := fun j => j ≠ w.heap.size + 1) (fun h => h rfl)).blk hR3 (by omega)
        · rw [hst]
          refine ⟨by simp [go_sem], _, _, _, _, by simp [go_sem, e7], ?_, hr3.far hP3 rowT_plan (Keeps.setRow _ (w.heap.size + 1) _ (fun h => h rfl))⟩
          rw [hLg]
          exact Blk_setRow hP3
      | none =>
        rw [hv] at hq
        obtain ⟨L, rfl, hLl, hLo, hr2⟩ := hq
        have hst := step_move (ms := []) h8 (.inr hv)
        have ss := storeSeg_all hQ L (by rw [hLl]; rfl)
        have kr := below_setRow kq (Nat.le_refl _) L.toArray
        have hR3 := hR2.keep kr
        have hP3 := hP2.keep kr
        have hr3 := hr2.below kr
        have hb3 := hb2.trans (kr.mono hb2.size)
        simp [go_sem, IntWalk.iteOmega, IntWalk.toNatUp, e0, e2, e6, e7, e8, e9, e10, planZ_lit, cw, ss, hLl, hLo]
        have hB3 : w.heap.size + 2 ≤ ((w2.alloc (.cells planZ.toArray 39)).setRow w2.heap.size L.toArray).heap.size := Nat.le_trans hB2 kr.size
        generalize (w2.alloc (.cells planZ.toArray 39)).setRow w2.heap.size L.toArray = w3 at *
        clear ss cw kr kq hQ hR2 hP2 hr2 hb2 hvd rcP
        refine callE_of (rmove_u l hL w3) ?_
        rintro _ w4 ⟨m, A1, c1, A2, c2, e, rfl, hmO, hme, k4⟩
        have kA := ext_alloc w4 (.cells #[.int .i64 m.kind, .int .i64 m.node, .int .i64 m.rcv, .int .i64 m.n, .slice A1 m.bytes.length c1, .slice A2 m.draws.length c2] 48)
        have hM5 : Blk (w4.alloc (.cells #[.int .i64 m.kind, .int .i64 m.node, .int .i64 m.rcv, .int .i64 m.n, .slice A1 m.bytes.length c1, .slice A2 m.draws.length c2] 48)) w4.heap.size 48 #[.int .i64 m.kind, .int .i64 m.node, .int .i64 m.rcv, .int .i64 m.n, .slice A1 m.bytes.length c1, .slice A2 m.draws.length c2] := Blk.self_ rfl
        have k5 := ext_trans k4 kA
        have hR5 := hR3.keep k5
        have hP5 := hP3.keep k5
        have hr5 := hr3.below k5
        have hmO5 := (hmO.below kA).low (B' := w.heap.size + 2) hB3
        have hb5 := hb3.trans (k5.mono hb3.size)
        have hs5 : w.heap.size + 2 ≤ (w4.alloc (.cells #[.int .i64 m.kind, .int .i64 m.node, .int .i64 m.rcv, .int .i64 m.n, .slice A1 m.bytes.length c1, .slice A2 m.draws.length c2] 48)).heap.size := Nat.le_trans hB3 k5.size
        have fin : ∀ (b : Bool) (s1 : Slots) (v' : Value) (w' : World), (b = true ↔ e = 0 ∧ S.vs ≠ []) → s1 0 = .string (strOf t) → s1 2 = .pointer (some ⟨w.heap.size, 0, none⟩) → s1 6 = .pointer (some ⟨w.heap.size + 1, 0, none⟩) → s1 8 = .int .i64 a.length → s1 9 = .int .i64 n → s1 10 = .int .i64 ((a.length : Int) + (k : Int)) → s1 12 = .bool b → s1 7 = v' → Blk w' (w.heap.size + 1) 39 (planL S.c S.now (.slice Av S.vs.length cv) (.slice Ab S.byz.length cb) (.slice Af S.first.length cf)).toArray → Blk w' w.heap.size 39 planZ.toArray → RowsAt (w.heap.size + 2) w' S ([] ++ [m]) (.slice Av S.vs.length cv) (.slice Ab S.byz.length cb) (.slice Af S.first.length cf) v' → Below w.heap.size w w' → K .normal s1 w' := by
          intro b s1 v' w' hbi g0 g2 g6 g8 g9 g10 g12 g7 hp hr0 hrm hbb
          refine hK _ _ ⟨g0, g2, g6, g8, g9, g10, hr0, hbb, ?_⟩
          rcases hme with ⟨he, hmv⟩ | ⟨he, hmv⟩
          · rw [hmv] at hst
            simp only at hst
            by_cases h4 : S.vs ≠ []
            · rw [if_pos ⟨h4, by simp⟩] at hst
              rw [hst]
              have hbt := hbi.2 ⟨he, h4⟩
              subst hbt
              exact ⟨g12, _, _, _, _, g7, hp, hrm⟩
            · rw [if_neg (fun h => h4 h.1)] at hst
              rw [hst]
              have hbf : b = false := by cases b with | false => rfl | true => exact absurd (hbi.1 rfl).2 h4
              subst hbf
              exact g12
          · rw [hmv] at hst
            simp only at hst
            rw [hst]
            have hbf : b = false := by cases b with | false => rfl | true => have := (hbi.1 rfl).1; omega
            subst hbf
            exact g12
        have hc : (e = 0 ∧ S.vs ≠ []) ∨ (e = 0 ∧ ¬ S.vs ≠ []) ∨ ¬ e = 0 := by
          by_cases he : e = 0
          · by_cases h4 : S.vs ≠ []
            · exact .inl ⟨he, h4⟩
            · exact .inr (.inl ⟨he, h4⟩)
          · exact .inr (.inr he)
        have kB := ext_alloc (w4.alloc (.cells #[.int .i64 m.kind, .int .i64 m.node, .int .i64 m.rcv, .int .i64 m.n, .slice A1 m.bytes.length c1, .slice A2 m.draws.length c2] 48)) (.cells #[.int .i64 m.kind, .int .i64 m.node, .int .i64 m.rcv, .int .i64 m.n, .slice A1 m.bytes.length c1, .slice A2 m.draws.length c2] 48)
        have hN := Blk.self_ (w := w4.alloc (.cells #[.int .i64 m.kind, .int .i64 m.node, .int .i64 m.rcv, .int .i64 m.n, .slice A1 m.bytes.length c1, .slice A2 m.draws.length c2] 48)) (t := 48) (cs := #[.int .i64 m.kind, .int .i64 m.node, .int .i64 m.rcv, .int .i64 m.n, .slice A1 m.bytes.length c1, .slice A2 m.draws.length c2]) rfl
        simp [go_sem, IntWalk.iteOmega, IntWalk.toNatUp, e0, e2, e6, e7, e8, e9, e10]
        generalize w4.alloc (.cells #[.int .i64 m.kind, .int .i64 m.node, .int .i64 m.rcv, .int .i64 m.n, .slice A1 m.bytes.length c1, .slice A2 m.draws.length c2] 48) = w5 at *
        generalize w4.heap.size = q at *
        have m3c := hM5.cell
        have m3l := hM5.lt
        have c28 := hP5.cell 28
        rw [pl_28] at c28
        have hPl := hP5.lt
        have app := fun K hK => app_mv (B := w.heap.size + 2) (w := w5) (ms := []) (m := m) (hP5.keep kB) (hR5.keep kB) (hr5.below kB) (hmO5.below kB) hN (Below.refl (w.heap.size + 2) w5 |>.alloc hs5 _) (Nat.le_trans hs5 kB.size) (by simp) (K := K) hK
        rcases hc with ⟨he, h4⟩ | ⟨he, h4⟩ | he
        · have hb3' : (e == 0) = true := by rw [he]; rfl
          have hvl : 0 < S.vs.length := List.length_pos_iff.2 h4
          have h4' : (0 : Int) < S.vs.length := by omega
          simp [go_sem, IntWalk.iteOmega, IntWalk.toNatUp, e0, e2, e6, e7, e8, e9, e10, hb3', h4', hvl, m3c, m3l, c28, hPl]
          refine app _ ?_
          intro v' w' r1 r2 r3 r4
          simp [go_sem, IntWalk.iteOmega, IntWalk.toNatUp]
          refine fin true _ v' w' ⟨fun _ => ⟨he, h4⟩, fun _ => rfl⟩ ?_ ?_ ?_ ?_ ?_ ?_ ?_ ?_ r1 r2 r3 (hb5.trans (r4.mono (by omega))) <;> simp [go_sem, e0, e2, e6, e8, e9, e10]
        · have hb3' : (e == 0) = true := by rw [he]; rfl
          have hvl : S.vs.length = 0 := by rw [Classical.not_not.1 h4]; rfl
          rw [hvl] at c28
          simp [go_sem, IntWalk.iteOmega, IntWalk.toNatUp, e0, e2, e6, e7, e8, e9, e10, hb3', m3c, m3l, c28, hPl]
          refine app _ ?_
          intro v' w' r1 r2 r3 r4
          simp [go_sem, IntWalk.iteOmega, IntWalk.toNatUp]
          refine fin false _ v' w' ⟨fun h => (by cases h), fun h => absurd h.2 h4⟩ ?_ ?_ ?_ ?_ ?_ ?_ ?_ ?_ r1 r2 r3 (hb5.trans (r4.mono (by omega))) <;> simp [go_sem, e0, e2, e6, e8, e9, e10]
        · have hb3' : (e == 0) = false := by simp [he]
          simp [go_sem, IntWalk.iteOmega, IntWalk.toNatUp, e0, e2, e6, e7, e8, e9, e10, hb3', m3c, m3l]
          refine app _ ?_
          intro v' w' r1 r2 r3 r4
          simp [go_sem, IntWalk.iteOmega, IntWalk.toNatUp]
          refine fin false _ v' w' ⟨fun h => (by cases h), fun h => absurd h.1 he⟩ ?_ ?_ ?_ ?_ ?_ ?_ ?_ ?_ r1 r2 r3 (hb5.trans (r4.mono (by omega))) <;> simp [go_sem, e0, e2, e6, e8, e9, e10]
    · have hst := step_move (l := l) (S := S) h8 (.inl hms)
      have hmz : ((ms.length : Int) == 0) = false := by
        have : ms.length ≠ 0 := fun e => hms (List.eq_nil_of_length_eq_zero e)
        simp
        omega
      simp [go_sem, IntWalk.iteOmega, IntWalk.toNatUp, e0, e2, e6, e7, e8, e9, e10, h8', hmz]
      refine callE_of (rmove_u l hL wi) ?_
      rintro _ w2 ⟨m, A1, c1, A2, c2, e, rfl, hmO, hme, k2⟩
      have kA := ext_alloc w2 (.cells #[.int .i64 m.kind, .int .i64 m.node, .int .i64 m.rcv, .int .i64 m.n, .slice A1 m.bytes.length c1, .slice A2 m.draws.length c2] 48)
      have hM3 : Blk (w2.alloc (.cells #[.int .i64 m.kind, .int .i64 m.node, .int .i64 m.rcv, .int .i64 m.n, .slice A1 m.bytes.length c1, .slice A2 m.draws.length c2] 48)) w2.heap.size 48 #[.int .i64 m.kind, .int .i64 m.node, .int .i64 m.rcv, .int .i64 m.n, .slice A1 m.bytes.length c1, .slice A2 m.draws.length c2] := Blk.self_ rfl
      have k3 := ext_trans k2 kA
      have hR3 := hR.keep k3
      have hP3 := hPb.keep k3
      have hr3 := hr.below k3
      have hmO3 := (hmO.below kA).low (B' := w.heap.size + 2) hB0
      have hb3 := hbw.trans (k3.mono hbw.size)
      have hs3 : w.heap.size + 2 ≤ (w2.alloc (.cells #[.int .i64 m.kind, .int .i64 m.node, .int .i64 m.rcv, .int .i64 m.n, .slice A1 m.bytes.length c1, .slice A2 m.draws.length c2] 48)).heap.size := Nat.le_trans hB0 k3.size
      have fin : ∀ (b : Bool) (s1 : Slots) (v' : Value) (w' : World), (b = true ↔ e = 0 ∧ ms.length < 4096) → s1 0 = .string (strOf t) → s1 2 = .pointer (some ⟨w.heap.size, 0, none⟩) → s1 6 = .pointer (some ⟨w.heap.size + 1, 0, none⟩) → s1 8 = .int .i64 a.length → s1 9 = .int .i64 n → s1 10 = .int .i64 ((a.length : Int) + (k : Int)) → s1 12 = .bool b → s1 7 = v' → Blk w' (w.heap.size + 1) 39 (planL S.c S.now (.slice Av S.vs.length cv) (.slice Ab S.byz.length cb) (.slice Af S.first.length cf)).toArray → Blk w' w.heap.size 39 planZ.toArray → RowsAt (w.heap.size + 2) w' S (ms ++ [m]) (.slice Av S.vs.length cv) (.slice Ab S.byz.length cb) (.slice Af S.first.length cf) v' → Below w.heap.size w w' → K .normal s1 w' := by
        intro b s1 v' w' hbi g0 g2 g6 g8 g9 g10 g12 g7 hp hr0 hrm hbb
        refine hK _ _ ⟨g0, g2, g6, g8, g9, g10, hr0, hbb, ?_⟩
        rcases hme with ⟨he, hmv⟩ | ⟨he, hmv⟩
        · rw [hmv] at hst
          simp only at hst
          by_cases h4 : ms.length < 4096
          · rw [if_pos ⟨hne hms, h4⟩] at hst
            rw [hst]
            have hbt := hbi.2 ⟨he, h4⟩
            subst hbt
            exact ⟨g12, _, _, _, _, g7, hp, hrm⟩
          · rw [if_neg (fun h => h4 h.2)] at hst
            rw [hst]
            have hbf : b = false := by cases b with | false => rfl | true => exact absurd (hbi.1 rfl).2 h4
            subst hbf
            exact g12
        · rw [hmv] at hst
          simp only at hst
          rw [hst]
          have hbf : b = false := by cases b with | false => rfl | true => have := (hbi.1 rfl).1; omega
          subst hbf
          exact g12
      have hc : (e = 0 ∧ ms.length < 4096) ∨ (e = 0 ∧ ¬ ms.length < 4096) ∨ ¬ e = 0 := by
        by_cases he : e = 0
        · by_cases h4 : ms.length < 4096
          · exact .inl ⟨he, h4⟩
          · exact .inr (.inl ⟨he, h4⟩)
        · exact .inr (.inr he)
      have kB := ext_alloc (w2.alloc (.cells #[.int .i64 m.kind, .int .i64 m.node, .int .i64 m.rcv, .int .i64 m.n, .slice A1 m.bytes.length c1, .slice A2 m.draws.length c2] 48)) (.cells #[.int .i64 m.kind, .int .i64 m.node, .int .i64 m.rcv, .int .i64 m.n, .slice A1 m.bytes.length c1, .slice A2 m.draws.length c2] 48)
      have hN := Blk.self_ (w := w2.alloc (.cells #[.int .i64 m.kind, .int .i64 m.node, .int .i64 m.rcv, .int .i64 m.n, .slice A1 m.bytes.length c1, .slice A2 m.draws.length c2] 48)) (t := 48) (cs := #[.int .i64 m.kind, .int .i64 m.node, .int .i64 m.rcv, .int .i64 m.n, .slice A1 m.bytes.length c1, .slice A2 m.draws.length c2]) rfl
      simp [go_sem, IntWalk.iteOmega, IntWalk.toNatUp, e0, e2, e6, e7, e8, e9, e10]
      generalize w2.alloc (.cells #[.int .i64 m.kind, .int .i64 m.node, .int .i64 m.rcv, .int .i64 m.n, .slice A1 m.bytes.length c1, .slice A2 m.draws.length c2] 48) = w3 at *
      generalize w2.heap.size = q at *
      have m3c := hM3.cell
      have m3l := hM3.lt
      have app := fun K hK => app_mv (B := w.heap.size + 2) (w := w3) (m := m) (hP3.keep kB) (hR3.keep kB) (hr3.below kB) (hmO3.below kB) hN (Below.refl (w.heap.size + 2) w3 |>.alloc hs3 _) (Nat.le_trans hs3 kB.size) hok.ms (K := K) hK
      rcases hc with ⟨he, h4⟩ | ⟨he, h4⟩ | he
      · have hb3' : (e == 0) = true := by rw [he]; rfl
        have h4' : (ms.length : Int) < 4096 := by omega
        simp [go_sem, IntWalk.iteOmega, IntWalk.toNatUp, e0, e2, e6, e7, e8, e9, e10, hb3', h4', h4, m3c, m3l]
        refine app _ ?_
        intro v' w' r1 r2 r3 r4
        simp [go_sem, IntWalk.iteOmega, IntWalk.toNatUp]
        refine fin true _ v' w' ⟨fun _ => ⟨he, h4⟩, fun _ => rfl⟩ ?_ ?_ ?_ ?_ ?_ ?_ ?_ ?_ r1 r2 r3 (hb3.trans (r4.mono (by omega))) <;> simp [go_sem, e0, e2, e6, e8, e9, e10]
      · have hb3' : (e == 0) = true := by rw [he]; rfl
        have h4' : ¬ (ms.length : Int) < 4096 := by omega
        simp [go_sem, IntWalk.iteOmega, IntWalk.toNatUp, e0, e2, e6, e7, e8, e9, e10, hb3', h4', h4, m3c, m3l]
        refine app _ ?_
        intro v' w' r1 r2 r3 r4
        simp [go_sem, IntWalk.iteOmega, IntWalk.toNatUp]
        refine fin false _ v' w' ⟨fun h => (by cases h), fun h => absurd h.2 h4⟩ ?_ ?_ ?_ ?_ ?_ ?_ ?_ ?_ r1 r2 r3 (hb3.trans (r4.mono (by omega))) <;> simp [go_sem, e0, e2, e6, e8, e9, e10]
      · have hb3' : (e == 0) = false := by simp [he]
        simp [go_sem, IntWalk.iteOmega, IntWalk.toNatUp, e0, e2, e6, e7, e8, e9, e10, hb3', m3c, m3l]
        refine app _ ?_
        intro v' w' r1 r2 r3 r4
        simp [go_sem, IntWalk.iteOmega, IntWalk.toNatUp]
        refine fin false _ v' w' ⟨fun h => (by cases h), fun h => absurd h.1 he⟩ ?_ ?_ ?_ ?_ ?_ ?_ ?_ ?_ r1 r2 r3 (hb3.trans (r4.mono (by omega))) <;> simp [go_sem, e0, e2, e6, e8, e9, e10]
end Go.Proofs.YtpmmfabendnhiaaDoor
