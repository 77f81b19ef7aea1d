/-
  Texts joined: Old, PParse, PRPlan, PRNums.
-/
import Derived.Test.YtpmmfabendnhiaaDoorJoin19
import Derived.Maps.AppendAt
namespace Go.Proofs.YtpmmfabendnhiaaDoor
open Go.RowKit
set_option linter.unusedVariables false
set_option linter.unusedSimpArgs false
theorem append_old {P : Program} {w w' : World} {base : Nat} {t ty e : TypeId} {size bytes : Nat} (ht : P.underlying t = some (.slice e)) (he : El P e size bytes) {v v' : Value} {n : Nat} {xs : List Value} (hown : w.ownsRow base e size v n xs)
    {a : Addr} {m c : Nat} {news : List Value} (hl : news.length = m * size) (hnews : ∀ j u, news[j]? = some u → w.cell? (a.add j) = some u) (h1 : ∀ u ∈ news, u.oneCell' = true) (h63 : n + m ≤ maxLen) (hbytes : (n + m) * bytes ≤ 140737488355328)
    (hrun : (Builtin.append_ #[t, t] ty #[v, .slice (some a) m c]).run P w = .ok v' w') : w'.ownsRow base e size v n xs := by
  obtain ⟨i, z, hi, hz, hsz, hby, hzs, hpos⟩ := he
  subst hsz
  subst hby
  have hsmall : n + m ≤ 9223372036854775807 := by simp only [maxLen] at h63; omega
  refine ⟨hown.1, ?_⟩
  rcases hown.2 with ⟨rfl, rfl⟩ | ⟨g, cap, cur, rfl, hbg, hg, hnc, hcm, hcs, htake⟩
  · exact .inl ⟨rfl, rfl⟩
  · by_cases hroom : n + m ≤ cap
    · have hfit : n * i.size + news.length ≤ cur.size := by rw [hl, hcs, ← Nat.add_mul]; exact Nat.mul_le_mul_right _ hroom
      have hr := run_append_room (P := P) w t ty e i ht hi g n cap cur hg a m c news hl hnews h1 hroom hfit
      rw [hr] at hrun
      injection hrun with _ hw
      subst hw
      refine .inr ⟨g, cap, _, rfl, hbg, setRow_heap w g cur _ e _ hg, hnc, hcm, ?_, ?_⟩
      · simp only [List.size_toArray, List.length_append, List.length_take, List.length_drop, Array.length_toList]
        omega
      · rw [htake, List.append_assoc]
        have : xs.length = n * i.size := hown.1
        rw [← this]
        exact List.take_left
    · have holds : ∀ j u, xs[j]? = some u → w.cell? ((⟨g, 0, none⟩ : Addr).add j) = some u := hown.cells (g := g) rfl
      have hr := run_append_grow (P := P) w t ty e i z ht hi hz ⟨g, 0, none⟩ n cap xs hown.1 holds a m c news hl hnews (by omega) (by omega) (growslice_fits (by omega) hbytes)
      rw [hr] at hrun
      injection hrun with _ hw
      subst hw
      have hlt : g < w.heap.size := (hown.lt g rfl).2
      exact .inr ⟨g, cap, cur, rfl, hbg, (heap_alloc_old w.drew _ hlt).trans hg, hnc, hcm, hcs, htake⟩
/-- append, and the old value behind it. -/
theorem appendOldE {P : Program} {w : World} (base : Nat) {t ty : TypeId} (e size bytes : Nat) (ht : P.underlying t = some (.slice e)) (he : El P e size bytes) {v : Value} {n : Nat} {xs : List Value} (hown : w.ownsRow base e size v n xs)
    {b o m c : Nat} {news : List Value} (hl : news.length = m * size) (hnews : ∀ j u, news[j]? = some u → w.cell? ⟨b, o + j, none⟩ = some u) (h1 : allOne news = true) (h63 : n + m ≤ maxLen) (hbytes : (n + m) * bytes ≤ 140737488355328) (hbase : base ≤ w.heap.size) {k : Kont}
    (hk : ∀ v' w', w'.ownsRow base e size v' (n + m) (xs ++ news) → w'.ownsRow base e size v n xs → w.grownBy w' v.ownBlock → (v'.ownBlock = v.ownBlock ∨ v'.ownBlock = some w.heap.size) → k v' w') :
    resE P (appendR P t t ty v (.slice (some ⟨b, o, none⟩) m c) w) k := by
  have hcells : ∀ j u, news[j]? = some u → w.cell? ((⟨b, o, none⟩ : Addr).add j) = some u := fun j u hu => by rw [add_none]; exact hnews j u hu
  obtain ⟨i, z, hi, hz, hsz, hby, hzs, hpos⟩ := id he
  obtain ⟨v', w', hrun, h2, h3, _, h5⟩ := run_append_own_at (P := P) w base t ty e i z size bytes ht hi hz hsz hby hzs hpos v n xs hown ⟨b, o, none⟩ m c news hl hcells (allOne_mem h1) h63 hbytes hbase
  have h6 := append_old ht he hown hl hcells (allOne_mem h1) h63 hbytes hrun
  refine resE_append ⟨.value v', w', by rw [appendR, hrun]; rfl, hk v' w' h2 h6 h3 h5⟩
end Go.Proofs.YtpmmfabendnhiaaDoor
namespace Go.Proofs.YtpmmfabendnhiaaDoor
open Go.RowKit
open Go.Lib (strCells byteCells decDigits cut)
set_option linter.unusedVariables false
set_option linter.unusedSimpArgs false
set_option maxRecDepth 10000
theorem cut_any (s : List UInt8) (hs : s.length ≤ 20000) (c : UInt8) (m : Int) (w : World) (hm : w.cell? ⟨0, 0, none⟩ = some (.int .i64 m)) : callE Tryd.prog 13 #[.string (strOf s), .string (strOf [c])] w fun v w' => v = .tuple #[.string (strOf (cut s [c]).1), .string (strOf (cut s [c]).2.1), .bool (cut s [c]).2.2] ∧ ∃ n, w' = w.drewN n := by
  refine (Tryd.strings_Cut (strOf s) (strOf [c]) m w (by rw [strOf_size]; omega) hm).mono ?_
  rintro x y ⟨rfl, h⟩
  exact ⟨_, rfl, rfl, h⟩
theorem readCells_cells {w : World} {b o : Nat} : ∀ (n i : Nat) (l : List Value), l.length = n → (∀ j v, l[j]? = some v → w.cell? ⟨b, o + i + j, none⟩ = some v) → readCells w ⟨b, o, none⟩ i n = some l := by
  intro n
  induction n with
  | zero => intro i l hl _; rw [List.length_eq_zero_iff.1 hl]; rfl
  | succ n ih =>
    intro i l hl h
    rcases l with _ | ⟨v, l⟩
    · simp at hl
    · have h0 := h 0 v rfl
      have h1 := ih (i + 1) l (by simpa using hl) (fun j u hj => by have := h (j + 1) u (by simpa using hj); rw [show o + (i + 1) + j = o + i + (j + 1) by omega]; exact this)
      simp only [readCells, add_none, h1]
      rw [show o + i = o + i + 0 from rfl, h0]
      rfl
/-- A plan's value. -/
def planL (c : Nat → Nat) (now : Nat) (vv vb vf : Value) : List Value := cfgL c ++ [vv, vb, vf, .int .i64 (now : Int)]
def planZ : List Value := planL (fun _ => 0) 0 (.slice none 0 0) (.slice none 0 0) (.slice none 0 0)
theorem planL_len (c : Nat → Nat) (now : Nat) (vv vb vf : Value) : (planL c now vv vb vf).length = 32 := rfl
theorem planL_one {c : Nat → Nat} {now : Nat} {vv vb vf : Value} (h1 : vv.oneCell' = true) (h2 : vb.oneCell' = true) (h3 : vf.oneCell' = true) : allOne (planL c now vv vb vf) = true := by
  unfold planL cfgL
  simp only [List.cons_append, List.nil_append, allOne, h1, h2, h3]
  rfl
theorem plan_read {w : World} {rb : Nat} {c : Nat → Nat} {now n : Nat} {vv vb vf vm : Value} (h : Blk w rb 60 (rdCells c now vv vb vf vm n)) : readCells w ⟨rb, 0, none⟩ 0 32 = some (planL c now vv vb vf) :=
  readCells_cells 32 0 _ rfl fun j v hj => by
    simp only [Nat.zero_add]
    rw [h.cell]
    have e : rdCells c now vv vb vf vm n = (planL c now vv vb vf ++ [vm, .int .i64 (n : Int)]).toArray := rfl
    rw [e]
    have hlt := (List.getElem?_eq_some_iff.1 hj).1
    simp only [List.getElem?_toArray]
    rw [List.getElem?_append_left hlt]
    exact hj
theorem planZ_list : (Value.int .i64 0 :: Value.int .i64 0 :: Value.int .i64 0 :: Value.int .i64 0 :: Value.int .i64 0 :: Value.int .i64 0 :: Value.int .i64 0 :: Value.int .i64 0 :: Value.int .i64 0 :: Value.int .i64 0 :: Value.int .i64 0 :: Value.int .i64 0 :: Value.int .i64 0 :: Value.int .i64 0 :: Value.int .i64 0 :: Value.int .i64 0 :: Value.int .i64 0 :: Value.int .i64 0 :: Value.int .i64 0 :: Value.int .i64 0 :: Value.int .i64 0 :: Value.int .i64 0 :: Value.int .i64 0 :: Value.int .i64 0 :: Value.int .i64 0 :: Value.int .i64 0 :: Value.int .i64 0 :: Value.int .i64 0 :: Value.slice none 0 0 :: Value.slice none 0 0 :: Value.slice none 0 0 :: Value.int .i64 0 :: []) = planZ := rfl
theorem planZ_one : allOne planZ = true := rfl
theorem planZ_len : planZ.length = 32 := rfl
theorem planZ_lit : (Value.int .i64 0 :: Value.int .i64 0 :: Value.int .i64 0 :: Value.int .i64 0 :: Value.int .i64 0 :: Value.int .i64 0 :: Value.int .i64 0 :: Value.int .i64 0 :: Value.int .i64 0 :: Value.int .i64 0 :: Value.int .i64 0 :: Value.int .i64 0 :: Value.int .i64 0 :: Value.int .i64 0 :: Value.int .i64 0 :: Value.int .i64 0 :: Value.int .i64 0 :: Value.int .i64 0 :: Value.int .i64 0 :: Value.int .i64 0 :: Value.int .i64 0 :: Value.int .i64 0 :: Value.int .i64 0 :: Value.int .i64 0 :: Value.int .i64 0 :: Value.int .i64 0 :: Value.int .i64 0 :: Value.int .i64 0 :: Value.slice none 0 0 :: Value.slice none 0 0 :: Value.slice none 0 0 :: Value.int .i64 0 :: []).toArray = planZ.toArray := rfl
theorem rdZ_lit : (Value.int .i64 0 :: Value.int .i64 0 :: Value.int .i64 0 :: Value.int .i64 0 :: Value.int .i64 0 :: Value.int .i64 0 :: Value.int .i64 0 :: Value.int .i64 0 :: Value.int .i64 0 :: Value.int .i64 0 :: Value.int .i64 0 :: Value.int .i64 0 :: Value.int .i64 0 :: Value.int .i64 0 :: Value.int .i64 0 :: Value.int .i64 0 :: Value.int .i64 0 :: Value.int .i64 0 :: Value.int .i64 0 :: Value.int .i64 0 :: Value.int .i64 0 :: Value.int .i64 0 :: Value.int .i64 0 :: Value.int .i64 0 :: Value.int .i64 0 :: Value.int .i64 0 :: Value.int .i64 0 :: Value.int .i64 0 :: Value.slice none 0 0 :: Value.slice none 0 0 :: Value.slice none 0 0 :: Value.int .i64 0 :: Value.slice none 0 0 :: Value.int .i64 0 :: []).toArray = rdCells (fun _ => 0) 0 (.slice none 0 0) (.slice none 0 0) (.slice none 0 0) (.slice none 0 0) 0 := rfl
def PlanPost (t : List UInt8) (v : Value) (w' : World) : Prop := match parseV t PS0 [] 1 with
  | (some (S, ms), _) => ∃ vv vb vf vm B, v = .tuple #[.agg (planL S.c S.now vv vb vf).toArray, vm, .int .i64 0, .int .i64 0] ∧ RowsAt B w' S ms vv vb vf vm
  | (none, k) => v = .tuple #[.agg planZ.toArray, .slice none 0 0, .int .i64 k, .int .i64 270]
def sizeOf0 : Value → Nat
  | .string b => b.size
  | _ => 0
set_option maxHeartbeats 12800000 in
theorem parse_any (t : List UInt8) (ht : t.length ≤ 20000) (m : Int) (w : World) (h2 : 0 < w.heap.size) (hm : w.cell? ⟨0, 0, none⟩ = some (.int .i64 m)) :
    callE Tryd.prog 5 #[.string (strOf t)] w fun v w' => PlanPost t v w' ∧ Below w.heap.size w w' := by
  obtain ⟨P, hP⟩ : ∃ P, PlanPost t = P := ⟨_, rfl⟩
  rw [hP]
  refine calls_E Tryd.func5 rfl rfl rfl (Nat.le_of_ble_eq_true rfl) ?_
  simp [go_sem, IntWalk.iteOmega, IntWalk.toNatUp]
  rw [planZ_lit, rdZ_lit]
  have hR0 : Blk ((w.alloc (.cells planZ.toArray 39)).alloc (.cells (rdCells (fun _ => 0) 0 (.slice none 0 0) (.slice none 0 0) (.slice none 0 0) (.slice none 0 0) 0) 60)) w.heap.size 39 planZ.toArray := (Blk.self_ rfl).more _
  have hb0 : Blk ((w.alloc (.cells planZ.toArray 39)).alloc (.cells (rdCells (fun _ => 0) 0 (.slice none 0 0) (.slice none 0 0) (.slice none 0 0) (.slice none 0 0) 0) 60)) (w.heap.size + 1) 60 (rdCells (fun _ => 0) 0 (.slice none 0 0) (.slice none 0 0) (.slice none 0 0) (.slice none 0 0) 0) := Blk.self_ (by simp)
  have k0 : Below w.heap.size w ((w.alloc (.cells planZ.toArray 39)).alloc (.cells (rdCells (fun _ => 0) 0 (.slice none 0 0) (.slice none 0 0) (.slice none 0 0) (.slice none 0 0) 0) 60)) := ext_trans (ext_alloc w _) (ext_alloc _ _)
  generalize (w.alloc (.cells planZ.toArray 39)).alloc (.cells (rdCells (fun _ => 0) 0 (.slice none 0 0) (.slice none 0 0) (.slice none 0 0) (.slice none 0 0) 0) 60) = w0 at *
  have h0 : RdgAt (w.heap.size + 1) w0 (w.heap.size + 1) PS0 [] 0 := ⟨_, _, _, _, hb0, RowsAt.none0 _ _, by omega⟩
  clear hb0
  refine W_loop (fun s wr => ∃ (u : List UInt8) (S : PS) (ms : List Mv) (n : Nat), u.length + n ≤ t.length ∧ s 0 = .string (strOf u) ∧ s 2 = .pointer (some ⟨w.heap.size, 0, none⟩) ∧ s 6 = .pointer (some ⟨w.heap.size + 1, 0, none⟩) ∧ Blk wr w.heap.size 39 planZ.toArray ∧ RdgAt (w.heap.size + 1) wr (w.heap.size + 1) S ms n ∧ S.Ok ms ∧ parseV t PS0 [] 1 = parseV u S ms (n + 1) ∧ Below w.heap.size w wr) (fun s _ => sizeOf0 (s 0)) ?_ ?_
  · exact ⟨t, PS0, [], 0, by omega, by simp [go_sem], by simp [go_sem], by simp [go_sem], hR0, h0, ⟨by simp [PS0], by simp [PS0], by simp⟩, rfl, k0⟩
  clear h0 hR0 k0
  rintro s wr ⟨u, S, ms, n, hu, e0, e2, e6, hR, ⟨vv, vb, vf, vm, hb, hr, -⟩, hok, hpv, hbw⟩
  have c33 := hb.cell 33
  rw [rd_33] at c33
  have fadd : IntKind.i64.wrap ((n : Int) + 1) = ((n + 1 : Nat) : Int) := by rw [IntWalk.i64_in _ (by omega)]; omega
  have hb1 := Blk_set (o := 33) (v := .int .i64 ((n + 1 : Nat) : Int)) hb
  rw [rd_set33] at hb1
  have kset : Keeps (fun j => j ≠ w.heap.size + 1) wr (wr.setCell ⟨w.heap.size + 1, 33, none⟩ (.int .i64 ((n + 1 : Nat) : Int))) := Keeps.setCell wr ⟨w.heap.size + 1, 33, none⟩ _ (fun h => h rfl)
  have hr1 := hr.far hb rowT_reading kset
  have hR1 := kset.blk hR (by omega)
  have hbw1 : Below w.heap.size w (wr.setCell ⟨w.heap.size + 1, 33, none⟩ (.int .i64 ((n + 1 : Nat) : Int))) := hbw.setCell (by simp) _
  have hbf := hb.frozen 33
  have hblt := hb.lt
  have cnl : (⟨#[10]⟩ : ByteArray) = strOf [10] := rfl
  have c28 := hb.cell 28
  rw [rd_28] at c28
  obtain ⟨-, Av, cv, rfl⟩ := own_sl hr.vs
  obtain ⟨xs, hm1, hm2, hm3⟩ := hr.moves
  obtain ⟨-, Am, cm, rfl⟩ := own_sl hm2
  obtain ⟨-, Ab, cb, rfl⟩ := own_sl hr.byz
  obtain ⟨-, Af, cf, rfl⟩ := own_sl hr.first
  clear xs hm1 hm2 hm3 hr kset
  push_cast at hb1 hr1 hR1 hbw1 fadd
  by_cases hend : u = [] ∧ S.vs ≠ []
  · obtain ⟨rfl, hvs⟩ := hend
    have hem : (strOf []).toList.isEmpty = true := by rw [str_nil]; rfl
    have hvl : 0 < S.vs.length := by cases h : S.vs with | nil => exact absurd h hvs | cons _ _ => simp
    have hvl' : (0 : Int) < S.vs.length := by omega
    rw [parseV_end hvs] at hpv
    simp [go_sem, IntWalk.iteOmega, IntWalk.toNatUp, e0, e2, e6, c33, fadd, hbf, hblt, hem, c28, hvl', hvl]
    generalize wr.setCell ⟨w.heap.size + 1, 33, none⟩ (.int .i64 ((n : Int) + 1)) = w1 at *
    have hd := hb1.drew
    have hR2 := hR1.drew
    have hrc := plan_read hd
    have d32 := hd.cell 32
    rw [rd_32] at d32
    have hlt := hd.lt
    have hwr := canWrite_all hR2 32 rfl
    have hst := storeSeg_all hR2
    refine W_flow (fun g => g = w.heap.size + 1) (.pure 0 (.pure 1 (.pure 2 (.pure 3 (.pure 4 (.pure 5 (.pure 6 (.pure 7 (.one 8 (.pure 9 (.pure 10 (.pure 11 (.done))))))))))))) follows (by kernel_rfl) ?_
    have hz2 := fun l => Blk_setRow hR2 (cs' := l)
    have hheld : ∀ l, heldE (fun g => g = w.heap.size + 1) w1.drew (w1.drew.setRow w.heap.size l) := fun l => (held_refl _ _).row l (by omega)
    have hone : allOne (planL S.c S.now (.slice Av S.vs.length cv) (.slice Ab S.byz.length cb) (.slice Af S.first.length cf)) = true := planL_one rfl rfl rfl
    have hpl := planL_len S.c S.now (.slice Av S.vs.length cv) (.slice Ab S.byz.length cb) (.slice Af S.first.length cf)
    have hra : ∀ l, readCells (w1.drew.setRow w.heap.size l) ⟨w.heap.size, 0, none⟩ 0 32 = if l.size = 32 then some l.toList else readCells (w1.drew.setRow w.heap.size l) ⟨w.heap.size, 0, none⟩ 0 32 := fun l => by
      split
      · rename_i h; exact readCells_all (hz2 l) 32 h
      · rfl
    have hrf := readCells_all (hz2 (planL S.c S.now (.slice Av S.vs.length cv) (.slice Ab S.byz.length cb) (.slice Af S.first.length cf)).toArray) 32 rfl
    have hst2 := hst (planL S.c S.now (.slice Av S.vs.length cv) (.slice Ab S.byz.length cb) (.slice Af S.first.length cf)) rfl
    have hro := (hr1.below (ext_drew w1)).far hR2 rowT_plan (Keeps.setRow w1.drew w.heap.size (planL S.c S.now (.slice Av S.vs.length cv) (.slice Ab S.byz.length cb) (.slice Af S.first.length cf)).toArray (fun h => h rfl))
    have hwo := below_setRow hbw1.drew (Nat.le_refl _) (planL S.c S.now (.slice Av S.vs.length cv) (.slice Ab S.byz.length cb) (.slice Af S.first.length cf)).toArray
    have hhe := hheld (planL S.c S.now (.slice Av S.vs.length cv) (.slice Ab S.byz.length cb) (.slice Af S.first.length cf)).toArray
    obtain ⟨L, hL⟩ : ∃ L, planL S.c S.now (.slice Av S.vs.length cv) (.slice Ab S.byz.length cb) (.slice Af S.first.length cf) = L := ⟨_, rfl⟩
    have hPv : ∀ v w', v = .tuple #[.agg L.toArray, .slice Am ms.length cm, .int .i64 0, .int .i64 0] → w' = w1.drew.setRow w.heap.size L.toArray → P v w' := by
      rintro v w' rfl rfl
      rw [← hP]
      unfold PlanPost
      rw [hpv]
      rw [hL] at hro
      exact ⟨_, _, _, _, _, by rw [hL], hro⟩
    rw [hL] at hrc hone hpl hrf hst2 hwo hhe
    clear hro hra hz2 hheld hst
    simp [go_sem, IntWalk.iteOmega, IntWalk.toNatUp, e0, e2, e6, hrc, d32, hlt, hwr, hpl, hone, hst2, hhe, hrf]
    exact ⟨hlt, hPv _ _ rfl rfl, hwo⟩
  · have badP : ∀ w', parseV t PS0 [] 1 = (none, n + 1) → P (.tuple #[.agg planZ.toArray, .slice none 0 0, .int .i64 ((n + 1 : Nat) : Int), .int .i64 270]) w' := by
      intro w' h
      rw [← hP]
      unfold PlanPost
      rw [h]
    push_cast at badP
    by_cases hu0 : u = []
    · subst hu0
      have hvs : S.vs = [] := Classical.byContradiction fun h => hend ⟨rfl, h⟩
      have hem : (strOf []).toList.isEmpty = true := by rw [str_nil]; rfl
      have hvl : S.vs.length = 0 := by rw [hvs]; rfl
      have hct : (cut ([] : List UInt8) [10]).2.2 = false := by rw [cut_not (by simp)]
      rw [hvl] at c28
      have hpn := hpv.trans (parseV_cut hend hct)
      have hbp := fun w' => badP w' hpn
      simp [go_sem, IntWalk.iteOmega, IntWalk.toNatUp, e0, e2, e6, c33, fadd, hbf, hblt, hem, c28, cnl]
      generalize wr.setCell ⟨w.heap.size + 1, 33, none⟩ (.int .i64 ((n : Int) + 1)) = w1 at *
      have hmm : w1.cell? ⟨0, 0, none⟩ = some (.int .i64 m) := by rw [hbw1.cell h2]; exact hm
      have hcu := cut_any [] (by simp) 10 m w1 hmm
      rw [hct] at hcu
      refine callE_of hcu ?_
      rintro _ w2 ⟨rfl, dn, rfl⟩
      simp [go_sem, IntWalk.iteOmega, IntWalk.toNatUp, e2, e6]
      have hb2 : Blk (w1.drewN dn) (w.heap.size + 1) 60 _ := hb1
      have hR2 : Blk (w1.drewN dn) w.heap.size 39 planZ.toArray := hR1
      have hbw2 : Below w.heap.size w (w1.drewN dn) := ⟨hbw1.os, hbw1.tape, hbw1.output, hbw1.size, hbw1.block⟩
      generalize w1.drewN dn = wX at *
      have hdX := (hb2).drew
      have hRX := (hR2).drew
      have d33 := hdX.cell 33
      rw [rd_33] at d33
      push_cast at d33
      have hlt := hdX.lt
      have hwr := canWrite_all hRX 32 rfl
      have hst2 := storeSeg_all hRX planZ rfl
      have hrf := readCells_all (Blk_setRow hRX (cs' := planZ.toArray)) 32 rfl
      have hhe := (held_refl (fun g => g = w.heap.size + 1) wX.drew).row (g := w.heap.size) planZ.toArray (by omega)
      have hwo := below_setRow (hbw2).drew (Nat.le_refl _) planZ.toArray
      refine W_flow (fun g => g = w.heap.size + 1) (.pure 0 (.pure 1 (.pure 2 (.pure 3 (.pure 4 (.one 5 (.pure 6 (.pure 7 (.pure 8 (.done)))))))))) follows (by kernel_rfl) ?_
      simp [go_sem, IntWalk.iteOmega, IntWalk.toNatUp, e2, e6, d33, hlt, hwr, planZ_list, planZ_one, planZ_len, hst2, hhe, hrf]
      exact ⟨hlt, hbp _, hwo⟩
    · have hem : (strOf u).toList.isEmpty = false := by
        rw [ByteArray.toList_eq]
        cases u with
        | nil => exact absurd rfl hu0
        | cons _ _ => rfl
      simp [go_sem, IntWalk.iteOmega, IntWalk.toNatUp, e0, e2, e6, c33, fadd, hbf, hblt, hem, cnl]
      generalize wr.setCell ⟨w.heap.size + 1, 33, none⟩ (.int .i64 ((n : Int) + 1)) = w1 at *
      have hmm : w1.cell? ⟨0, 0, none⟩ = some (.int .i64 m) := by rw [hbw1.cell h2]; exact hm
      have hul : u.length ≤ 20000 := by omega
      have hcu := cut_any u hul 10 m w1 hmm
      refine callE_of hcu ?_
      rintro _ w2 ⟨rfl, dn, rfl⟩
      cases hct : (cut u [10]).2.2 with
      | false =>
        have hpn := hpv.trans (parseV_cut hend hct)
        have hbp := fun w' => badP w' hpn
        simp [go_sem, IntWalk.iteOmega, IntWalk.toNatUp, e2, e6]
        have hb2 : Blk (w1.drewN dn) (w.heap.size + 1) 60 _ := hb1
        have hR2 : Blk (w1.drewN dn) w.heap.size 39 planZ.toArray := hR1
        have hbw2 : Below w.heap.size w (w1.drewN dn) := ⟨hbw1.os, hbw1.tape, hbw1.output, hbw1.size, hbw1.block⟩
        generalize w1.drewN dn = wX at *
        have hdX := (hb2).drew
        have hRX := (hR2).drew
        have d33 := hdX.cell 33
        rw [rd_33] at d33
        push_cast at d33
        have hlt := hdX.lt
        have hwr := canWrite_all hRX 32 rfl
        have hst2 := storeSeg_all hRX planZ rfl
        have hrf := readCells_all (Blk_setRow hRX (cs' := planZ.toArray)) 32 rfl
        have hhe := (held_refl (fun g => g = w.heap.size + 1) wX.drew).row (g := w.heap.size) planZ.toArray (by omega)
        have hwo := below_setRow (hbw2).drew (Nat.le_refl _) planZ.toArray
        refine W_flow (fun g => g = w.heap.size + 1) (.pure 0 (.pure 1 (.pure 2 (.pure 3 (.pure 4 (.one 5 (.pure 6 (.pure 7 (.pure 8 (.done)))))))))) follows (by kernel_rfl) ?_
        simp [go_sem, IntWalk.iteOmega, IntWalk.toNatUp, e2, e6, d33, hlt, hwr, planZ_list, planZ_one, planZ_len, hst2, hhe, hrf]
        exact ⟨hlt, hbp _, hwo⟩
      | true =>
        obtain ⟨hl1, hl2⟩ := cut_rest hct
        have hb2 : Blk (w1.drewN dn) (w.heap.size + 1) 60 _ := hb1
        have hr2 : RowsAt (w.heap.size + 1) (w1.drewN dn) S ms _ _ _ _ := hr1.below ⟨rfl, rfl, rfl, Nat.le_refl _, fun _ _ => rfl⟩
        have hR2 : Blk (w1.drewN dn) w.heap.size 39 planZ.toArray := hR1
        have hbw2 : Below w.heap.size w (w1.drewN dn) := ⟨hbw1.os, hbw1.tape, hbw1.output, hbw1.size, hbw1.block⟩
        have hrdg : RdgAt (w.heap.size + 1) (w1.drewN dn) (w.heap.size + 1) S ms (n + 1) := ⟨_, _, _, _, hb2, hr2, Nat.le_refl _⟩
        have htk := takes_any hrdg (by omega) (by omega) (cut u [10]).1 (by omega) hok.vs (Nat.le_trans hok.byz hok.vs) hok.ms
        clear hb2 hr2 hrdg
        simp [go_sem, IntWalk.iteOmega, IntWalk.toNatUp, e2, e6]
        generalize w1.drewN dn = w2 at *
        refine callE_of htk ?_
        rintro v w3 ⟨hq, k3⟩
        have hR3 := hR2.below k3 (by omega)
        have hbw3 : Below w.heap.size w w3 := hbw2.trans (k3.mono (Nat.le_succ _))
        cases hst : stepV (n + 1) (cut u [10]).1 S ms with
        | none =>
          rw [hst] at hq
          obtain ⟨rfl, c3, now3, vv3, vb3, vf3, vm3, hb3⟩ := hq
          have hpn := hpv.trans (parseV_bad hend hct hst)
          have hbp := fun w' => badP w' hpn
          simp [go_sem, IntWalk.iteOmega, IntWalk.toNatUp, e2, e6]
          have hdX := (hb3).drew
          have hRX := (hR3).drew
          have d33 := hdX.cell 33
          rw [rd_33] at d33
          push_cast at d33
          have hlt := hdX.lt
          have hwr := canWrite_all hRX 32 rfl
          have hst2 := storeSeg_all hRX planZ rfl
          have hrf := readCells_all (Blk_setRow hRX (cs' := planZ.toArray)) 32 rfl
          have hhe := (held_refl (fun g => g = w.heap.size + 1) (w3).drew).row (g := w.heap.size) planZ.toArray (by omega)
          have hwo := below_setRow (hbw3).drew (Nat.le_refl _) planZ.toArray
          refine W_flow (fun g => g = w.heap.size + 1) (.pure 0 (.pure 1 (.pure 2 (.pure 3 (.pure 4 (.one 5 (.pure 6 (.pure 7 (.pure 8 (.done)))))))))) follows (by kernel_rfl) ?_
          simp [go_sem, IntWalk.iteOmega, IntWalk.toNatUp, e2, e6, d33, hlt, hwr, planZ_list, planZ_one, planZ_len, hst2, hhe, hrf]
          exact ⟨hlt, hbp _, hwo⟩
        | some p =>
          obtain ⟨S', ms'⟩ := p
          rw [hst] at hq
          obtain ⟨rfl, hrdg3⟩ := hq
          have hps := hpv.trans (parseV_step hend hct hst)
          simp [go_sem, IntWalk.iteOmega, IntWalk.toNatUp, e2, e6]
          refine roundEnd.mk ⟨(cut u [10]).2.1, S', ms', n + 1, by omega, by simp [go_sem], by simp [go_sem, e2], by simp [go_sem, e6], hR3, hrdg3, step_ok hst hok, hps, hbw3⟩ ?_
          simp [go_sem, sizeOf0, e0, strOf_size]
          omega
end Go.Proofs.YtpmmfabendnhiaaDoor
namespace Go.Proofs.YtpmmfabendnhiaaDoor
open Go.RowKit
open Go.Lib (strCells byteCells decDigits)
set_option linter.unusedVariables false
set_option linter.unusedSimpArgs false
set_option maxRecDepth 10000
def updL (c : Nat → Nat) (off : Nat) (xs : List Nat) : Nat → Nat := fun i => if off ≤ i ∧ i < off + xs.length then xs.getD (i - off) 0 else c i
theorem seg4o (w : World) (g o : Nat) (a b c d : Value) : storeSeg w ⟨g, o, none⟩ 0 [a, b, c, d] = (((w.setCell ⟨g, o, none⟩ a).setCell ⟨g, o + 1, none⟩ b).setCell ⟨g, o + 2, none⟩ c).setCell ⟨g, o + 3, none⟩ d := Eq.trans rfl rfl
theorem seg5o (w : World) (g o : Nat) (a b c d e : Value) : storeSeg w ⟨g, o, none⟩ 0 [a, b, c, d, e] = ((((w.setCell ⟨g, o, none⟩ a).setCell ⟨g, o + 1, none⟩ b).setCell ⟨g, o + 2, none⟩ c).setCell ⟨g, o + 3, none⟩ d).setCell ⟨g, o + 4, none⟩ e := Eq.trans rfl rfl
theorem heldE.setd {N : Nat → Prop} {W w : World} (h : heldE N W w.drew) {g o : Nat} (v : Value) (hg : ¬ N g) : heldE N W (w.setCell ⟨g, o, none⟩ v).drew := h.set v hg
section
variable (c : Nat → Nat) (now : Nat) (vv vb vf : Value)
theorem pl_28 : (planL c now vv vb vf).toArray[28]? = some vv := rfl
theorem pl_29 : (planL c now vv vb vf).toArray[29]? = some vb := rfl
theorem pl_30 : (planL c now vv vb vf).toArray[30]? = some vf := rfl
theorem pl_31 : (planL c now vv vb vf).toArray[31]? = some (.int .i64 now) := rfl
theorem pl_lo (i : Fin 28) : (planL c now vv vb vf).toArray[i.val]? = some (.int .i64 (c i.val)) := by
  match i with
  | ⟨0, _⟩ => rfl
  | ⟨1, _⟩ => rfl
  | ⟨2, _⟩ => rfl
  | ⟨3, _⟩ => rfl
  | ⟨4, _⟩ => rfl
  | ⟨5, _⟩ => rfl
  | ⟨6, _⟩ => rfl
  | ⟨7, _⟩ => rfl
  | ⟨8, _⟩ => rfl
  | ⟨9, _⟩ => rfl
  | ⟨10, _⟩ => rfl
  | ⟨11, _⟩ => rfl
  | ⟨12, _⟩ => rfl
  | ⟨13, _⟩ => rfl
  | ⟨14, _⟩ => rfl
  | ⟨15, _⟩ => rfl
  | ⟨16, _⟩ => rfl
  | ⟨17, _⟩ => rfl
  | ⟨18, _⟩ => rfl
  | ⟨19, _⟩ => rfl
  | ⟨20, _⟩ => rfl
  | ⟨21, _⟩ => rfl
  | ⟨22, _⟩ => rfl
  | ⟨23, _⟩ => rfl
  | ⟨24, _⟩ => rfl
  | ⟨25, _⟩ => rfl
  | ⟨26, _⟩ => rfl
  | ⟨27, _⟩ => rfl
  | ⟨k + 28, h⟩ => exact absurd h (by omega)
theorem pl_set (i : Fin 28) (v : Nat) : (planL c now vv vb vf).toArray.setIfInBounds i.val (.int .i64 v) = (planL (set1 c i.val v) now vv vb vf).toArray := by
  match i with
  | ⟨0, _⟩ => rfl
  | ⟨1, _⟩ => rfl
  | ⟨2, _⟩ => rfl
  | ⟨3, _⟩ => rfl
  | ⟨4, _⟩ => rfl
  | ⟨5, _⟩ => rfl
  | ⟨6, _⟩ => rfl
  | ⟨7, _⟩ => rfl
  | ⟨8, _⟩ => rfl
  | ⟨9, _⟩ => rfl
  | ⟨10, _⟩ => rfl
  | ⟨11, _⟩ => rfl
  | ⟨12, _⟩ => rfl
  | ⟨13, _⟩ => rfl
  | ⟨14, _⟩ => rfl
  | ⟨15, _⟩ => rfl
  | ⟨16, _⟩ => rfl
  | ⟨17, _⟩ => rfl
  | ⟨18, _⟩ => rfl
  | ⟨19, _⟩ => rfl
  | ⟨20, _⟩ => rfl
  | ⟨21, _⟩ => rfl
  | ⟨22, _⟩ => rfl
  | ⟨23, _⟩ => rfl
  | ⟨24, _⟩ => rfl
  | ⟨25, _⟩ => rfl
  | ⟨26, _⟩ => rfl
  | ⟨27, _⟩ => rfl
  | ⟨k + 28, h⟩ => exact absurd h (by omega)
theorem pl_set28 (v : Value) : (planL c now vv vb vf).toArray.setIfInBounds 28 v = (planL c now v vb vf).toArray := rfl
theorem pl_set29 (v : Value) : (planL c now vv vb vf).toArray.setIfInBounds 29 v = (planL c now vv v vf).toArray := rfl
theorem pl_set30 (v : Value) : (planL c now vv vb vf).toArray.setIfInBounds 30 v = (planL c now vv vb v).toArray := rfl
theorem pl_set31 (v : Nat) : (planL c now vv vb vf).toArray.setIfInBounds 31 (.int .i64 v) = (planL c v vv vb vf).toArray := rfl
end
end Go.Proofs.YtpmmfabendnhiaaDoor
namespace Go.Proofs.YtpmmfabendnhiaaDoor
open Go.RowKit
open Go.Lib (strCells byteCells decDigits)
set_option linter.unusedVariables false
set_option linter.unusedSimpArgs false
set_option maxRecDepth 10000
theorem ba {w b : World} (h : Below w.heap.size w b) (o : Obj) : Below w.heap.size w (b.alloc o) := h.alloc h.size o
theorem names_any (w : World) : callE Tryd.prog 35 #[] w fun v w' => v = .slice (some ⟨w.heap.size, 0, none⟩) 6 6 ∧ Blk w' w.heap.size 9 #[.string (strOf (hname 1)), .string (strOf (hname 2)), .string (strOf (hname 3)), .string (strOf (hname 4)), .string (strOf (hname 5)), .string (strOf (hname 6))] ∧ Below w.heap.size w w' := by
  refine calls_E Tryd.func35 rfl rfl rfl (Nat.le_of_ble_eq_true rfl) ?_
  simp [go_sem, IntWalk.iteOmega, IntWalk.toNatUp]
  exact ⟨⟨rfl, rfl, rfl, rfl, rfl, rfl⟩, ext_alloc _ _⟩
theorem cfZ_lit : (Value.int .i64 0 :: Value.int .i64 0 :: Value.int .i64 0 :: Value.int .i64 0 :: Value.int .i64 0 :: Value.int .i64 0 :: Value.int .i64 0 :: Value.int .i64 0 :: Value.int .i64 0 :: Value.int .i64 0 :: Value.int .i64 0 :: Value.int .i64 0 :: Value.int .i64 0 :: Value.int .i64 0 :: Value.int .i64 0 :: Value.int .i64 0 :: Value.int .i64 0 :: Value.int .i64 0 :: Value.int .i64 0 :: Value.int .i64 0 :: Value.int .i64 0 :: Value.int .i64 0 :: Value.int .i64 0 :: Value.int .i64 0 :: Value.int .i64 0 :: Value.int .i64 0 :: Value.int .i64 0 :: Value.int .i64 0 :: []).toArray = (cfgL fun _ => 0).toArray := rfl
theorem cf_lo (c : Nat → Nat) (i : Fin 28) : (cfgL c).toArray[i.val]? = some (.int .i64 (c i.val)) := by
  match i with
  | ⟨0, _⟩ => rfl
  | ⟨1, _⟩ => rfl
  | ⟨2, _⟩ => rfl
  | ⟨3, _⟩ => rfl
  | ⟨4, _⟩ => rfl
  | ⟨5, _⟩ => rfl
  | ⟨6, _⟩ => rfl
  | ⟨7, _⟩ => rfl
  | ⟨8, _⟩ => rfl
  | ⟨9, _⟩ => rfl
  | ⟨10, _⟩ => rfl
  | ⟨11, _⟩ => rfl
  | ⟨12, _⟩ => rfl
  | ⟨13, _⟩ => rfl
  | ⟨14, _⟩ => rfl
  | ⟨15, _⟩ => rfl
  | ⟨16, _⟩ => rfl
  | ⟨17, _⟩ => rfl
  | ⟨18, _⟩ => rfl
  | ⟨19, _⟩ => rfl
  | ⟨20, _⟩ => rfl
  | ⟨21, _⟩ => rfl
  | ⟨22, _⟩ => rfl
  | ⟨23, _⟩ => rfl
  | ⟨24, _⟩ => rfl
  | ⟨25, _⟩ => rfl
  | ⟨26, _⟩ => rfl
  | ⟨27, _⟩ => rfl
  | ⟨k + 28, h⟩ => exact absurd h (by omega)
set_option maxHeartbeats 6400000 in
theorem numbers_any (c : Nat → Nat) (now : Nat) (vv vb vf : Value) (w : World) : callE Tryd.prog 36 #[.agg (planL c now vv vb vf).toArray] w fun v w' => ∃ g A0 A1 A2 A3 A4 A5, v = .slice (some ⟨g, 0, none⟩) 6 6 ∧ Blk w' g 88 #[.slice A0 4 4, .slice A1 8 8, .slice A2 5 5, .slice A3 1 1, .slice A4 5 5, .slice A5 5 5] ∧ Below w.heap.size w w' := by
  have hP : Blk (w.alloc (.cells (planL c now vv vb vf).toArray 39)) w.heap.size 39 (planL c now vv vb vf).toArray := Blk.self_ rfl
  have k1 := ext_alloc w (.cells (planL c now vv vb vf).toArray 39)
  refine calls_E Tryd.func36 rfl rfl rfl (Nat.le_of_ble_eq_true rfl) ?_
  simp [go_sem, IntWalk.iteOmega, IntWalk.toNatUp]
  generalize w.alloc (.cells (planL c now vv vb vf).toArray 39) = w1 at *
  have hrc : readCells w1 ⟨w.heap.size, 0, none⟩ 0 28 = some (cfgL c) := readCells_cells 28 0 _ rfl fun j v hj => by
    simp only [Nat.zero_add]
    rw [hP.cell]
    have hlt := (List.getElem?_eq_some_iff.1 hj).1
    simp only [planL, List.getElem?_toArray]
    rw [List.getElem?_append_left hlt]
    exact hj
  have hC0 : Blk (w1.alloc (.cells (cfgL fun _ => 0).toArray 34)) w1.heap.size 34 (cfgL fun _ => 0).toArray := Blk.self_ rfl
  have hw := canWrite_all hC0 28 rfl
  have hs := storeSeg_all hC0 (cfgL c) rfl
  have hone : allOne (cfgL c) = true := rfl
  have hlen : (cfgL c).length = 28 := rfl
  have hC := Blk_setRow hC0 (cs' := (cfgL c).toArray)
  have kk : Below w.heap.size w ((w1.alloc (.cells (cfgL fun _ => 0).toArray 34)).setRow w1.heap.size (cfgL c).toArray) := below_setRow (k1.alloc k1.size _) k1.size _
  have c0 := (hC.cell 0).trans (cf_lo c ⟨0, by omega⟩)
  have c1 := (hC.cell 1).trans (cf_lo c ⟨1, by omega⟩)
  have c2 := (hC.cell 2).trans (cf_lo c ⟨2, by omega⟩)
  have c3 := (hC.cell 3).trans (cf_lo c ⟨3, by omega⟩)
  have c4 := (hC.cell 4).trans (cf_lo c ⟨4, by omega⟩)
  have c5 := (hC.cell 5).trans (cf_lo c ⟨5, by omega⟩)
  have c6 := (hC.cell 6).trans (cf_lo c ⟨6, by omega⟩)
  have c7 := (hC.cell 7).trans (cf_lo c ⟨7, by omega⟩)
  have c8 := (hC.cell 8).trans (cf_lo c ⟨8, by omega⟩)
  have c9 := (hC.cell 9).trans (cf_lo c ⟨9, by omega⟩)
  have c10 := (hC.cell 10).trans (cf_lo c ⟨10, by omega⟩)
  have c11 := (hC.cell 11).trans (cf_lo c ⟨11, by omega⟩)
  have c12 := (hC.cell 12).trans (cf_lo c ⟨12, by omega⟩)
  have c13 := (hC.cell 13).trans (cf_lo c ⟨13, by omega⟩)
  have c14 := (hC.cell 14).trans (cf_lo c ⟨14, by omega⟩)
  have c15 := (hC.cell 15).trans (cf_lo c ⟨15, by omega⟩)
  have c16 := (hC.cell 16).trans (cf_lo c ⟨16, by omega⟩)
  have c17 := (hC.cell 17).trans (cf_lo c ⟨17, by omega⟩)
  have c18 := (hC.cell 18).trans (cf_lo c ⟨18, by omega⟩)
  have c19 := (hC.cell 19).trans (cf_lo c ⟨19, by omega⟩)
  have c20 := (hC.cell 20).trans (cf_lo c ⟨20, by omega⟩)
  have c21 := (hC.cell 21).trans (cf_lo c ⟨21, by omega⟩)
  have c22 := (hC.cell 22).trans (cf_lo c ⟨22, by omega⟩)
  have c23 := (hC.cell 23).trans (cf_lo c ⟨23, by omega⟩)
  have c24 := (hC.cell 24).trans (cf_lo c ⟨24, by omega⟩)
  have c25 := (hC.cell 25).trans (cf_lo c ⟨25, by omega⟩)
  have c26 := (hC.cell 26).trans (cf_lo c ⟨26, by omega⟩)
  have c27 := (hC.cell 27).trans (cf_lo c ⟨27, by omega⟩)
  simp only at c0 c1 c2 c3 c4 c5 c6 c7 c8 c9 c10 c11 c12 c13 c14 c15 c16 c17 c18 c19 c20 c21 c22 c23 c24 c25 c26 c27
  generalize hL : cfgL c = L at *
  rw [← cfZ_lit] at hw hs kk hC c0 c1 c2 c3 c4 c5 c6 c7 c8 c9 c10 c11 c12 c13 c14 c15 c16 c17 c18 c19 c20 c21 c22 c23 c24 c25 c26 c27
  clear hP hC0
  simp [go_sem, IntWalk.iteOmega, IntWalk.toNatUp, hrc, hw, hs, hone, hlen]
  have hCl := hC.lt
  generalize (w1.alloc (.cells (Value.int .i64 0 :: Value.int .i64 0 :: Value.int .i64 0 :: Value.int .i64 0 :: Value.int .i64 0 :: Value.int .i64 0 :: Value.int .i64 0 :: Value.int .i64 0 :: Value.int .i64 0 :: Value.int .i64 0 :: Value.int .i64 0 :: Value.int .i64 0 :: Value.int .i64 0 :: Value.int .i64 0 :: Value.int .i64 0 :: Value.int .i64 0 :: Value.int .i64 0 :: Value.int .i64 0 :: Value.int .i64 0 :: Value.int .i64 0 :: Value.int .i64 0 :: Value.int .i64 0 :: Value.int .i64 0 :: Value.int .i64 0 :: Value.int .i64 0 :: Value.int .i64 0 :: Value.int .i64 0 :: Value.int .i64 0 :: []).toArray 34)).setRow w1.heap.size L.toArray = w2 at *
  generalize w1.heap.size = cb at *
  clear hw hs hrc hone hlen hL hC
  have hCl1 : cb < w2.heap.size + 1 := by omega
  have hCl2 : cb < w2.heap.size + 1 + 1 := by omega
  have hCl3 : cb < w2.heap.size + 1 + 1 + 1 := by omega
  have hCl4 : cb < w2.heap.size + 1 + 1 + 1 + 1 := by omega
  have hCl5 : cb < w2.heap.size + 1 + 1 + 1 + 1 + 1 := by omega
  have hCl6 : cb < w2.heap.size + 1 + 1 + 1 + 1 + 1 + 1 := by omega
  simp [go_sem, IntWalk.iteOmega, IntWalk.toNatUp, c0, c1, c2, c3, c4, c5, c6, c7, c8, c9, c10, c11, c12, c13, c14, c15, c16, c17, c18, c19, c20, c21, c22, c23, c24, c25, c26, c27, hCl, hCl1, hCl2, hCl3, hCl4, hCl5, hCl6]
  exact ba (ba (ba (ba (ba (ba (ba kk _) _) _) _) _) _) _
end Go.Proofs.YtpmmfabendnhiaaDoor
