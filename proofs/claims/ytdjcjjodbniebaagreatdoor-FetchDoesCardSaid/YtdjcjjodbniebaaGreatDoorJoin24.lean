/-
  Texts joined: FTarget.
-/
import Derived.Test.YtdjcjjodbniebaaGreatDoorJoin23
namespace Go.Proofs.YtdjcjjodbniebaaGreatDoor
open Go.RowKit
set_option linter.unusedVariables false
set_option linter.unusedSimpArgs false
set_option maxRecDepth 10000
theorem at_first {α : Type} {a : List UInt8} : ∀ {L : List (List UInt8 × α)} {k : Nat} (hk : k < L.length), L[k].1 = a → (∀ m (hm : m < L.length), m < k → L[m].1 ≠ a) → atL a L = some L[k].2 ∧ ∀ y, putAt a y L = L.set k (a, y)
  | [], k, hk, _, _ => by simp at hk
  | x :: L, 0, hk, h, _ => by
    simp at h
    subst h
    exact ⟨by rw [atL_cons, if_pos rfl]; rfl, fun y => by simp [putAt]⟩
  | x :: L, k + 1, hk, h, hno => by
    have h0 : ¬ a = x.1 := fun e => hno 0 (by simp) (by omega) e.symm
    obtain ⟨h1, h2⟩ := at_first (L := L) (k := k) (by simpa using hk) (by simpa using h) fun m hm hmk => by have := hno (m + 1) (by simpa using hm) (by omega); simpa using this
    exact ⟨by rw [atL_cons, if_neg h0]; simpa using h1, fun y => by simp [putAt, h0, h2]⟩
noncomputable def targetF (S : FS) (id : List UInt8) (vs : List Int) : Int × FS :=
  if vs = [] ∨ vs.any wrongI = true then (1, S)
  else if atL id S.ts = none ∧ 32 ≤ S.ts.length then (6, S)
  else (0, { S with ts := putAt id (vs.foldl putL ((atL id S.ts).getD [])) S.ts })
theorem atL_none {α : Type} {a : List UInt8} : ∀ {L : List (List UInt8 × α)}, (∀ t ∈ L, t.1 ≠ a) → atL a L = none
  | [], _ => rfl
  | x :: L, h => by
    rw [atL_cons, if_neg (fun e => h x (by simp) e.symm)]
    exact atL_none fun t ht => h t (by simp [ht])
theorem FOk.setT {S : FS} (h : FOk S) {i : Nat} {a : List UInt8} {l : List Int} (ha : a.length = 32) (hl : Places l) : FOk { S with ts := S.ts.set i (a, l) } :=
  ⟨h.last, h.hlo, h.hhi, h.room, by simpa using h.tsn, fun t ht => by
    rcases List.mem_or_eq_of_mem_set ht with ht | rfl
    · exact h.ts t ht
    · exact ⟨ha, hl⟩, h.keptn, h.kept⟩
theorem FOk.addT {S : FS} (h : FOk S) {a : List UInt8} (ha : a.length = 32) (hn : S.ts.length < 32) : FOk { S with ts := S.ts ++ [(a, [])] } :=
  ⟨h.last, h.hlo, h.hhi, h.room, by simp; omega, fun t ht => by
    rcases List.mem_append.1 ht with ht | ht
    · exact h.ts t ht
    · obtain rfl : t = (a, []) := by simpa using ht
      exact ⟨ha, by simp, by simp⟩, h.keptn, h.kept⟩
theorem fold_t32 (x : List Value) (hx : x.length = 32) : List.foldl (fun (cs : Array Value) (x : Value × Nat) => cs.setIfInBounds x.snd x.fst) #[Value.int IntKind.u8 0, Value.int IntKind.u8 0, Value.int IntKind.u8 0, Value.int IntKind.u8 0, Value.int IntKind.u8 0, Value.int IntKind.u8 0, Value.int IntKind.u8 0, Value.int IntKind.u8 0, Value.int IntKind.u8 0, Value.int IntKind.u8 0, Value.int IntKind.u8 0, Value.int IntKind.u8 0, Value.int IntKind.u8 0, Value.int IntKind.u8 0, Value.int IntKind.u8 0, Value.int IntKind.u8 0, Value.int IntKind.u8 0, Value.int IntKind.u8 0, Value.int IntKind.u8 0, Value.int IntKind.u8 0, Value.int IntKind.u8 0, Value.int IntKind.u8 0, Value.int IntKind.u8 0, Value.int IntKind.u8 0, Value.int IntKind.u8 0, Value.int IntKind.u8 0, Value.int IntKind.u8 0, Value.int IntKind.u8 0, Value.int IntKind.u8 0, Value.int IntKind.u8 0, Value.int IntKind.u8 0, Value.int IntKind.u8 0, Value.slice none 0 0] x.zipIdx = (x ++ [Value.slice none 0 0]).toArray := by
  rw [foldl_set x 0 _ (by rw [hx]; decide), hx]
  rfl
theorem fold_t33 (x : List Value) (hx : x.length = 33) : List.foldl (fun (cs : Array Value) (x : Value × Nat) => cs.setIfInBounds x.snd x.fst) #[Value.int IntKind.u8 0, Value.int IntKind.u8 0, Value.int IntKind.u8 0, Value.int IntKind.u8 0, Value.int IntKind.u8 0, Value.int IntKind.u8 0, Value.int IntKind.u8 0, Value.int IntKind.u8 0, Value.int IntKind.u8 0, Value.int IntKind.u8 0, Value.int IntKind.u8 0, Value.int IntKind.u8 0, Value.int IntKind.u8 0, Value.int IntKind.u8 0, Value.int IntKind.u8 0, Value.int IntKind.u8 0, Value.int IntKind.u8 0, Value.int IntKind.u8 0, Value.int IntKind.u8 0, Value.int IntKind.u8 0, Value.int IntKind.u8 0, Value.int IntKind.u8 0, Value.int IntKind.u8 0, Value.int IntKind.u8 0, Value.int IntKind.u8 0, Value.int IntKind.u8 0, Value.int IntKind.u8 0, Value.int IntKind.u8 0, Value.int IntKind.u8 0, Value.int IntKind.u8 0, Value.int IntKind.u8 0, Value.int IntKind.u8 0, Value.slice none 0 0] x.zipIdx = x.toArray := by
  rw [foldl_set x 0 _ (by rw [hx]; decide), hx]
  simp
set_option maxHeartbeats 3200000 in
theorem ftarget_any {w : World} {O : Nat → Prop} {f : Nat} {S : FS} {tv : Value} {rk ra ro : Nat} {vs : List Value} {K : List (List UInt8 × Bk × Value)} (h : FIn w O f S tv rk ra ro vs K) (hok : FOk S) {id : List UInt8} (hid : id.length = 32)
    {A : Option Addr} {c : Nat} {us : List Int} (hr : Rd w 1 A us.length (intsK .i64 us)) (hus : us.length ≤ 100000) (hA : ∀ j, atB us.length A j → ¬ O j) :
    callE Tryz.prog 13 #[.pointer (some ⟨f, 0, none⟩), .agg (bl id).toArray, .slice A us.length c] w fun r w' => r = .int .i64 (targetF S id us).1 ∧ (∃ tv' vs', FIn w' (Since O w w') f (targetF S id us).2 tv' rk ra ro vs' K) ∧ Keeps (fun j => ¬ O j) w w' := by
  have l32 : (bl id).length = 32 := by rw [bl_length]; exact hid
  have kA := ext_alloc w (.cells (bl id).toArray 27)
  have hI : Blk (w.alloc (.cells (bl id).toArray 27)) w.heap.size 27 (bl id).toArray := Blk.self_ rfl
  have hFA := h.keep kA
  have hw0 : 0 < w.heap.size := by have := h.blk.lt; omega
  have r0 := fun k => callE_eq noinit_fnone (fnone_made hFA.blk (FIn.c35 hok.last)) k
  have x1 := readCells_all hI 32 (by simpa using l32)
  refine calls_E Tryz.func13 rfl rfl rfl (Nat.le_of_ble_eq_true rfl) ?_
  simp [go_sem, IntWalk.iteOmega, IntWalk.toNatUp, r0]
  generalize w.alloc (.cells (bl id).toArray 27) = w1 at *
  by_cases h0 : us = []
  · have e : targetF S id us = (1, S) := by unfold targetF; rw [if_pos (.inl h0)]
    subst h0
    simp [go_sem, IntWalk.iteOmega, IntWalk.toNatUp, e]
    exact ⟨⟨tv, vs, hFA.since w kA.size hw0⟩, Keeps.of_ext kA⟩
  · have h0' : ((us.length : Int) == 0) = false := by simp; exact h0
    simp [go_sem, IntWalk.iteOmega, IntWalk.toNatUp, h0']
    refine callE_of (containsW_any (hr.keep kA) hus) ?_
    rintro _ w2 ⟨rfl, rfl⟩
    by_cases h1 : us.any wrongI = true
    · have e : targetF S id us = (1, S) := by unfold targetF; rw [if_pos (.inr h1)]
      simp [go_sem, IntWalk.iteOmega, IntWalk.toNatUp, h0', h1, e]
      exact ⟨⟨tv, vs, hFA.since w kA.size hw0⟩, Keeps.of_ext kA⟩
    · have h1' : us.any wrongI = false := by simpa using h1
      have hpl : ∀ v ∈ us, 0 ≤ v ∧ v < 32 := fun v hv => by
        have := (List.any_eq_false.1 h1') v hv
        simp [wrongI] at this
        omega
      have e0 : targetF S id us = if atL id S.ts = none ∧ 32 ≤ S.ts.length then (6, S) else (0, { S with ts := putAt id (us.foldl putL ((atL id S.ts).getD [])) S.ts }) := by unfold targetF; rw [if_neg (by rintro (h | h); exact h0 h; exact h1 h)]
      simp [go_sem, IntWalk.iteOmega, IntWalk.toNatUp, h0', h1', x1]
      refine callE_of (fplaceF_any hFA hok hid) ?_
      rintro r w3 ⟨hk, k3⟩
      have kB := kA.trans (k3.mono kA.size)
      have hF3 := hFA.keep k3
      have hI3 := hI.keep k3
      have hr3 := hr.keep kB
      rcases hk with ⟨i, hi, rfl, hin, hfi⟩ | ⟨rfl, hno⟩
      · have hi0 : ¬ ((i : Int) < 0) := by omega
        obtain ⟨ha1, ha2⟩ := at_first hi hin hfi
        rw [if_neg (by rw [ha1]; simp), ha1, ha2] at e0
        simp [go_sem, IntWalk.iteOmega, IntWalk.toNatUp, hi0]
        have hi0s : S.ts[i]? = some (id, S.ts[i].2) := by rw [List.getElem?_eq_getElem hi, ← hin]
        have hl0 : Places S.ts[i].2 := (hok.ts _ (List.getElem_mem hi)).2
        have hF0 := hF3.since w kB.size hw0
        have hK0 : Keeps (fun j => ¬ O j) w w3 := Keeps.of_ext kB
        have hok0 := hok
        dsimp only [Option.getD_some] at e0
        generalize S.ts[i].2 = l0 at *
        refine W_loop (fun st wl => ∃ j l tvj vsj, j ≤ us.length ∧ st 0 = .pointer (some ⟨f, 0, none⟩) ∧ st 8 = .int .i64 i ∧ st 48 = .slice A us.length c ∧ st 49 = .int .i64 us.length ∧ st 50 = .int .i64 j ∧ (us.take j).foldl putL l0 = l ∧ Places l ∧ FIn wl (Since O w wl) f { S with ts := S.ts.set i (id, l) } tvj rk ra ro vsj K ∧ Keeps (fun j => ¬ O j) w wl) (fun st _ => us.length - (intOf (st 50)).toNat) ?_ ?_
        · exact ⟨0, l0, tv, vs, by omega, by simp [go_sem], by simp [go_sem], by simp [go_sem], by simp [go_sem], by simp [go_sem], rfl, hl0, by rw [set_same hi0s]; exact hF0, hK0⟩
        · rintro st wl ⟨j, l, tvj, vsj, hj, d0, d8, d48, d49, d50, hfold, hpl0, hFl, hKl⟩
          by_cases hjl : j < us.length
          · have hjl' : (j : Int) < us.length := by omega
            have hrl := Rd_on hr hKl hA
            obtain ⟨ub, uo, eA, hub, huc⟩ := hrl.cells (by omega)
            have x0 := huc j (.int .i64 us[j]) (by simp [intsK, hjl])
            have hxv := hpl _ (List.getElem_mem hjl)
            have hf1 := take_fold putL l0 hjl
            rw [hfold] at hf1
            have hokl : FOk { S with ts := S.ts.set i (id, l) } := hok0.setT hid hpl0
            have hlen0 : (S.ts.set i (id, l)).length = S.ts.length := by simp
            have hil0 := (List.getElem?_eq_some_iff.1 hi0s).1
            have hil' : (i : Int) < S.ts.length := by omega
            have hti : (S.ts.set i (id, l))[i]? = some (id, l) := List.getElem?_set_self hil0
            have hvl : vsj.length = S.ts.length := by have := hFl.rows.len; simpa using this
            obtain ⟨v, hv⟩ : ∃ v, vsj[i]? = some v := ⟨_, List.getElem?_eq_getElem (by omega)⟩
            obtain ⟨hvo, hvO⟩ := hFl.rows.at_ i v l hv (by simp [hil0])
            have hrow := hFl.row
            have hz : (((S.ts.set i (id, l)).map Prod.fst).zip vsj)[i]? = some (id, v) := by
              rw [List.getElem?_zip_eq_some]
              exact ⟨by simp [hil0], hv⟩
            have hzl : ∀ x ∈ ((S.ts.set i (id, l)).map Prod.fst).zip vsj, x.1.length = 32 := fun x hx => by
              obtain ⟨y, hy, e⟩ := List.mem_map.1 (List.of_mem_zip hx).1
              rw [← e]
              exact (hokl.ts _ hy).1
            have hcell := flatT_at _ hzl i _ hz 32 v (by
              unfold tcell
              rw [List.getElem?_append_right (by simp [bl, hid])]
              simp [bl, hid])
            obtain ⟨g, gc, rfl⟩ : ∃ g gc, tvj = .slice (some ⟨g, 0, none⟩) (S.ts.set i (id, l)).length gc := by
              rcases hrow.2 with ⟨_, h0⟩ | ⟨g, cap, cur, e, _⟩
              · simp at h0; rw [h0] at hil0; simp at hil0
              · exact ⟨g, cap, e⟩
            have hcg : ∀ q u, (flatT (((S.ts.set i (id, l)).map Prod.fst).zip vsj))[q]? = some u → wl.cell? ⟨g, q, none⟩ = some u := fun q u hq => by
              have := hrow.cells (g := g) rfl q u hq
              rw [add_none, Nat.zero_add] at this
              exact this
            have hgl : g < wl.heap.size := hFl.lt _ (hFl.orow g rfl)
            have hgfr : ∀ W : World, W.heap[g]? = wl.heap[g]? → ∀ q, W.frozen? ⟨g, q, none⟩ = false := fun W hW q => by
              rcases hrow.2 with ⟨e, _⟩ | ⟨g', cap, cur, e, hb, hg, _⟩
              · cases e
              · injection e with e
                injection e with e
                injection e with e
                subst e
                exact Blk.frozen (show Blk W g 97 cur from hW.trans hg) q
            rw [hlen0] at hrow
            simp [go_sem, IntWalk.iteOmega, IntWalk.toNatUp, d0, d8, d48, d49, d50, hjl', hjl, eA, x0]
            have hFd := hFl.keep (ext_drew wl)
            refine W_flow (fun k => k = f) (.pure 0 (.pure 1 (.pure 2 (.pure 3 (.pure 4 (.pure 5 (.pure 6 (.pure 7 (.pure 8 (.pure 9 (.pure 10 (.pure 11 (.pure 13 (.one 12 (.one 14 (.pure 15 (.pure 16 (.one 17 (.done))))))))))))))))))) follows (by kernel_rfl) ?_
            have hq := held_refl (fun k => k = f) wl.drew
            have hfl : f < wl.heap.size := hFl.blk.lt
            have hc34 := (hFd.cells hokl.last).2.2.1
            have hvc : wl.cell? ⟨g, i * 33 + 32, none⟩ = some v := by rw [show i * 33 + 32 = 33 * i + 32 by omega]; exact hcg _ _ hcell
            simp [go_sem, IntWalk.iteOmega, IntWalk.toNatUp, d0, d8, d48, d49, d50, hq, hfl, hc34, hlen0, hil', hvc]
            have hll := hpl0.len
            refine callE_of (fput_any l us[j] 0 v wl.drew hpl0.1 (by omega) hvo (Nat.zero_le _)) ?_
            rintro r w6 ⟨hr6, hg6, hbk6⟩
            have honer : r.oneCell' = true := by obtain ⟨-, A', c', hv'⟩ := own_sl hr6; rw [hv']; rfl
            have hvg : v.ownBlock ≠ some g := fun e => rows_ne hvo hFl.row (by decide) g e rfl
            have hgg : w6.heap[g]? = wl.heap[g]? := hg6.block g hgl (fun e => hvg e.symm)
            have hfr6 := hgfr w6 hgg (i * 33 + 32)
            have hvc6 : w6.cell? ⟨g, i * 33 + 32, none⟩ = some v := (World.cell?_of_block (w := wl) (a := ⟨g, i * 33 + 32, none⟩) hgg).trans hvc
            have hgf : g ≠ f := fun e => row_ne hFl.row hFl.blk (by decide) (e ▸ rfl)
            have hq6 : heldE (fun k => k = f) wl.drew w6 := ⟨hg6.size, fun k hk hl => by subst hk; exact hg6.block k hl (fun e => row_ne hvo hFl.blk (by decide) e.symm)⟩
            have hq7 : ∀ u, heldE (fun k => k = f) wl.drew (w6.setCell ⟨g, i * 33 + 32, none⟩ u) := fun u => hq6.set u (by simpa using hgf)
            have hsz6 : wl.heap.size ≤ w6.heap.size := hg6.size
            have hszl : w.heap.size ≤ wl.heap.size := hKl.size
            have hrO : ∀ j, r.ownBlock = some j → Since O w w6 j := fun j hj => by
              have hjl := (hr6.lt j hj).2
              rcases hbk6 with e | ⟨k, e1, e2⟩
              · rcases hvO j (e ▸ hj) with h | h
                · exact .inl h
                · exact .inr ⟨h.1, hjl⟩
              · rw [e1] at hj
                injection hj with hj
                subst hj
                exact .inr ⟨Nat.le_trans hszl e2, hjl⟩
            obtain ⟨hF7, hK7⟩ := hFd.from_ hokl hti hv hg6 hr6 hbk6 hrO (fun j hj => hj.imp (fun h => h) fun h => ⟨h.1, Nat.lt_of_lt_of_le h.2 hsz6⟩) (fun j hj => hj.elim (fun h' => Nat.lt_of_lt_of_le (hFl.lt j (.inl h')) hsz6) fun h => h.2) (fun hj => hj.elim h.zero fun h => by omega) (by rw [hlen0])
            rw [show 33 * i + 32 = i * 33 + 32 by omega] at hF7 hK7
            have hF8 : FIn (w6.setCell ⟨g, i * 33 + 32, none⟩ r) (Since O w (w6.setCell ⟨g, i * 33 + 32, none⟩ r)) f { S with ts := S.ts.set i (id, putL l us[j]) } (.slice (some ⟨g, 0, none⟩) (S.ts.set i (id, l)).length gc) rk ra ro (vsj.set i r) K := by
              have hS : Since O w (w6.setCell ⟨g, i * 33 + 32, none⟩ r) = Since O w w6 := by
                funext k
                unfold Since
                rw [sz_set]
              rw [hS]
              have := hF7
              dsimp only at this
              rw [List.set_set] at this
              exact this
            have hK8 : Keeps (fun j => ¬ O j) w (w6.setCell ⟨g, i * 33 + 32, none⟩ r) := ⟨hK7.os.trans hKl.os, hK7.tape.trans hKl.tape, hK7.output.trans hKl.output, Nat.le_trans hszl hK7.size, fun k hk hn => (hK7.block k (Nat.lt_of_lt_of_le hk hszl) (fun h => h.elim hn fun h => by omega)).trans (hKl.block k hk hn)⟩
            simp [go_sem, IntWalk.iteOmega, IntWalk.toNatUp, d0, d8, d48, d49, d50, hq6, hfr6, hvc6, hil', hlen0, hq7, honer]
            refine roundEnd.mk ⟨j + 1, putL l us[j], _, vsj.set i r, by omega, by simp [go_sem, d0], by simp [go_sem, d8], by simp [go_sem, d48], by simp [go_sem, d49], by simp [go_sem], hf1, hpl0.put hxv, hF8, hK8⟩ ?_
            simp [go_sem, intOf, d50]; omega
          · obtain rfl : j = us.length := by omega
            have hjl' : ¬ (us.length : Int) < us.length := by omega
            rw [List.take_of_length_le (Nat.le_refl _)] at hfold
            simp [go_sem, IntWalk.iteOmega, IntWalk.toNatUp, d0, d8, d48, d49, d50, hjl', e0]
            rw [hfold]
            exact ⟨⟨_, _, hFl⟩, hKl⟩
      · have hat := atL_none hno
        obtain ⟨-, tA, tc, rfl⟩ := own_sl hF3.row
        have hc34 := (hF3.cells hok.last).2.2.1
        by_cases hfull : 32 ≤ S.ts.length
        · have hfull' : (32 : Int) ≤ S.ts.length := by omega
          rw [if_pos ⟨hat, hfull⟩] at e0
          simp [go_sem, IntWalk.iteOmega, IntWalk.toNatUp, hc34, hfull', e0]
          exact ⟨⟨_, vs, hF3.since w kB.size hw0⟩, Keeps.of_ext kB⟩
        · have hfull' : ¬ (32 : Int) ≤ S.ts.length := by omega
          rw [if_neg (fun h => hfull h.2), hat, putAt_new hat] at e0
          simp [go_sem, IntWalk.iteOmega, IntWalk.toNatUp, hc34, hfull']
          have hF4 := hF3.keep (ext_drew w3)
          have hI4 := hI3.drew
          have hr4 := hr3.keep (ext_drew w3)
          have kC := kB.drew
          have hlen : S.ts.length < 32 := by omega
          refine W_flow (fun g => g = w.heap.size) (.pure 0 (.pure 1 (.pure 2 (.pure 3 (.pure 5 (.pure 6 (.two 4 (.one 7 (.one 8 (.pure 9 (.pure 10 (.one 11 (.done)))))) 7 (.one 4 (.one 8 (.pure 9 (.pure 10 (.one 11 (.done))))))))))))) follows (by kernel_rfl) ?_
          generalize w3.drew = w4 at *
          have hq := held_refl (fun g => g = w.heap.size) w4
          have hil := hI4.lt
          have hc34 := (hF4.cells hok.last).2.2.1
          have hc34' : ∀ k t, (w4.alloc (.cells k t)).cell? ⟨f, 34, none⟩ = some (.slice tA S.ts.length tc) := fun k t => ((hF4.keep (ext_alloc w4 (.cells k t))).cells hok.last).2.2.1
          have x4 := readCells_all hI4 32 (by simpa using l32)
          have hqa : ∀ k t, heldE (fun g => g = w.heap.size) w4 (w4.alloc (.cells k t)) := fun k t => hq.alloc _
          have hf1 := fold_t32 (bl id) l32
          have hf2 := fold_t33 (tcell (id, .slice none 0 0)) (tcell_len hid)
          have htc : bl id ++ [Value.slice none 0 0] = tcell (id, .slice none 0 0) := rfl
          rw [htc] at hf1
          have l33 := tcell_len (t := (id, Value.slice none 0 0)) hid
          have t1 := tcell_one id none 0 0
          generalize htz : tcell (id, Value.slice none 0 0) = tz at hf1 hf2 l33 t1
          simp [go_sem, IntWalk.iteOmega, IntWalk.toNatUp, hq, hil, hc34, hc34', x4, hqa, hf1, l32, l33, t1]
          rw [hf2]
          have kW := ext_alloc w4 (.cells tz.toArray 97)
          have hFW := hF4.keep kW
          have hIW := hI4.keep kW
          have hrd : Rd (w4.alloc (.cells tz.toArray 97)) 33 (some ⟨w4.heap.size, 0, none⟩) 1 tz := rd_one (Blk.self_ rfl) l33
          have kD := kC.trans (kW.mono kC.size)
          have hqW := hqa tz.toArray 97
          have hrW := hr4.keep kW
          generalize w4.alloc (.cells tz.toArray 97) = wA at *
          refine ⟨?_, ?_⟩ <;>
          · refine appendE 0 97 33 56 Tryz.underlying67 el97 hFW.row hrd t1 (by unfold maxLen; omega) (by omega) (Nat.zero_le _) ?_
            intro v' w5 hr5 hg5 hbk5
            have hone : v'.oneCell' = true := by obtain ⟨-, A', c', hv'⟩ := own_sl hr5; rw [hv']; rfl
            have hsz5 : wA.heap.size ≤ w5.heap.size := hg5.size
            have hb5 : Blk w5 f 72 (fcells S.last S.height S.room (.slice tA S.ts.length tc) rk ra ro).toArray := (hg5.block f hFW.blk.lt (fun e => row_ne hFW.row hFW.blk (by decide) e.symm)).trans hFW.blk
            have hc5 : w5.cell? ⟨f, 34, none⟩ = some (.slice tA S.ts.length tc) := by rw [hb5.cell]; exact FIn.c34 hok.last
            have hfr5 := hb5.frozen 34
            have hfi : f ≠ w.heap.size := by have := h.blk.lt; omega
            have hq5 : heldE (fun g => g = w.heap.size) w4 w5 := ⟨Nat.le_trans hqW.1 hsz5, fun k hk hl => by subst hk; exact (hg5.block _ hIW.lt (fun e => row_ne hFW.row hIW (by decide) e.symm)).trans (hqW.2 _ rfl hl)⟩
            have hq6 : ∀ u, heldE (fun g => g = w.heap.size) w4 (w5.setCell ⟨f, 34, none⟩ u) := fun u => hq5.set u (by simpa using hfi)
            have hwA : w.heap.size ≤ wA.heap.size := kD.size
            have hvO : ∀ j, v'.ownBlock = some j → Since O w w5 j := fun j hj => by
              have hjl := (hr5.lt j hj).2
              rcases hbk5 with e | e
              · exact .inl (hFW.orow j (e ▸ hj))
              · rw [e] at hj
                injection hj with hj
                subst hj
                exact .inr ⟨hwA, hjl⟩
            rw [← htz] at hr5
            obtain ⟨hF6, hK6⟩ := hFW.addT hok (id := id) (O' := Since O w w5) hg5 hr5 hvO (fun j hj => .inl hj) (fun j hj => hj.elim (fun h' => Nat.lt_of_lt_of_le (hFW.lt j h') hsz5) fun h => h.2) (fun hj => hj.elim h.zero fun h => by omega)
            have hF0 : FIn (w5.setCell ⟨f, 34, none⟩ v') (Since O w (w5.setCell ⟨f, 34, none⟩ v')) f { S with ts := S.ts ++ [(id, [])] } v' rk ra ro (vs ++ [.slice none 0 0]) K := by
              have hS : Since O w (w5.setCell ⟨f, 34, none⟩ v') = Since O w w5 := by
                funext k
                unfold Since
                rw [sz_set]
              rw [hS]
              exact hF6
            have hK0 : Keeps (fun j => ¬ O j) w (w5.setCell ⟨f, 34, none⟩ v') := (Keeps.of_ext kD).trans hK6
            simp [go_sem, IntWalk.iteOmega, IntWalk.toNatUp, hq5, hc5, hfr5, hq6, hone]
            obtain ⟨S0, hS0⟩ : ∃ S0 : FS, S0 = { S with ts := S.ts ++ [(id, [])] } := ⟨_, rfl⟩
            have hi0s : S0.ts[S.ts.length]? = some (id, []) := by rw [hS0]; simp
            have hok0 : FOk S0 := by rw [hS0]; exact hok.addT hid hlen
            have hl0 := Places.nil
            have e0 : targetF S id us = (0, { S0 with ts := S0.ts.set S.ts.length (id, us.foldl putL []) }) := by
              rw [e0, hS0]
              simp
            rw [← hS0] at hF0
            generalize hi' : S.ts.length = i at hi0s e0 ⊢
            generalize ([] : List Int) = l0 at hi0s e0 hl0
            generalize w5.setCell ⟨f, 34, none⟩ v' = w7 at hF0 hK0 ⊢
            refine W_loop (fun st wl => ∃ j l tvj vsj, j ≤ us.length ∧ st 0 = .pointer (some ⟨f, 0, none⟩) ∧ st 8 = .int .i64 i ∧ st 48 = .slice A us.length c ∧ st 49 = .int .i64 us.length ∧ st 50 = .int .i64 j ∧ (us.take j).foldl putL l0 = l ∧ Places l ∧ FIn wl (Since O w wl) f { S0 with ts := S0.ts.set i (id, l) } tvj rk ra ro vsj K ∧ Keeps (fun j => ¬ O j) w wl) (fun st _ => us.length - (intOf (st 50)).toNat) ?_ ?_
            · exact ⟨0, l0, v', (vs ++ [Value.slice none 0 0]), by omega, by simp [go_sem], by simp [go_sem], by simp [go_sem], by simp [go_sem], by simp [go_sem], rfl, hl0, by rw [set_same hi0s]; exact hF0, hK0⟩
            · rintro st wl ⟨j, l, tvj, vsj, hj, d0, d8, d48, d49, d50, hfold, hpl0, hFl, hKl⟩
              by_cases hjl : j < us.length
              · have hjl' : (j : Int) < us.length := by omega
                have hrl := Rd_on hr hKl hA
                obtain ⟨ub, uo, eA, hub, huc⟩ := hrl.cells (by omega)
                have x0 := huc j (.int .i64 us[j]) (by simp [intsK, hjl])
                have hxv := hpl _ (List.getElem_mem hjl)
                have hf1 := take_fold putL l0 hjl
                rw [hfold] at hf1
                have hokl : FOk { S0 with ts := S0.ts.set i (id, l) } := hok0.setT hid hpl0
                have hlen0 : (S0.ts.set i (id, l)).length = S0.ts.length := by simp
                have hil0 := (List.getElem?_eq_some_iff.1 hi0s).1
                have hil' : (i : Int) < S0.ts.length := by omega
                have hti : (S0.ts.set i (id, l))[i]? = some (id, l) := List.getElem?_set_self hil0
                have hvl : vsj.length = S0.ts.length := by have := hFl.rows.len; simpa using this
                obtain ⟨v, hv⟩ : ∃ v, vsj[i]? = some v := ⟨_, List.getElem?_eq_getElem (by omega)⟩
                obtain ⟨hvo, hvO⟩ := hFl.rows.at_ i v l hv (by simp [hil0])
                have hrow := hFl.row
                have hz : (((S0.ts.set i (id, l)).map Prod.fst).zip vsj)[i]? = some (id, v) := by
                  rw [List.getElem?_zip_eq_some]
                  exact ⟨by simp [hil0], hv⟩
                have hzl : ∀ x ∈ ((S0.ts.set i (id, l)).map Prod.fst).zip vsj, x.1.length = 32 := fun x hx => by
                  obtain ⟨y, hy, e⟩ := List.mem_map.1 (List.of_mem_zip hx).1
                  rw [← e]
                  exact (hokl.ts _ hy).1
                have hcell := flatT_at _ hzl i _ hz 32 v (by
                  unfold tcell
                  rw [List.getElem?_append_right (by simp [bl, hid])]
                  simp [bl, hid])
                obtain ⟨g, gc, rfl⟩ : ∃ g gc, tvj = .slice (some ⟨g, 0, none⟩) (S0.ts.set i (id, l)).length gc := by
                  rcases hrow.2 with ⟨_, h0⟩ | ⟨g, cap, cur, e, _⟩
                  · simp at h0; rw [h0] at hil0; simp at hil0
                  · exact ⟨g, cap, e⟩
                have hcg : ∀ q u, (flatT (((S0.ts.set i (id, l)).map Prod.fst).zip vsj))[q]? = some u → wl.cell? ⟨g, q, none⟩ = some u := fun q u hq => by
                  have := hrow.cells (g := g) rfl q u hq
                  rw [add_none, Nat.zero_add] at this
                  exact this
                have hgl : g < wl.heap.size := hFl.lt _ (hFl.orow g rfl)
                have hgfr : ∀ W : World, W.heap[g]? = wl.heap[g]? → ∀ q, W.frozen? ⟨g, q, none⟩ = false := fun W hW q => by
                  rcases hrow.2 with ⟨e, _⟩ | ⟨g', cap, cur, e, hb, hg, _⟩
                  · cases e
                  · injection e with e
                    injection e with e
                    injection e with e
                    subst e
                    exact Blk.frozen (show Blk W g 97 cur from hW.trans hg) q
                rw [hlen0] at hrow
                simp [go_sem, IntWalk.iteOmega, IntWalk.toNatUp, d0, d8, d48, d49, d50, hjl', hjl, eA, x0]
                have hFd := hFl.keep (ext_drew wl)
                refine W_flow (fun k => k = f) (.pure 0 (.pure 1 (.pure 2 (.pure 3 (.pure 4 (.pure 5 (.pure 6 (.pure 7 (.pure 8 (.pure 9 (.pure 10 (.pure 11 (.pure 13 (.one 12 (.one 14 (.pure 15 (.pure 16 (.one 17 (.done))))))))))))))))))) follows (by kernel_rfl) ?_
                have hq := held_refl (fun k => k = f) wl.drew
                have hfl : f < wl.heap.size := hFl.blk.lt
                have hc34 := (hFd.cells hokl.last).2.2.1
                have hvc : wl.cell? ⟨g, i * 33 + 32, none⟩ = some v := by rw [show i * 33 + 32 = 33 * i + 32 by omega]; exact hcg _ _ hcell
                simp [go_sem, IntWalk.iteOmega, IntWalk.toNatUp, d0, d8, d48, d49, d50, hq, hfl, hc34, hlen0, hil', hvc]
                have hll := hpl0.len
                refine callE_of (fput_any l us[j] 0 v wl.drew hpl0.1 (by omega) hvo (Nat.zero_le _)) ?_
                rintro r w6 ⟨hr6, hg6, hbk6⟩
                have honer : r.oneCell' = true := by obtain ⟨-, A', c', hv'⟩ := own_sl hr6; rw [hv']; rfl
                have hvg : v.ownBlock ≠ some g := fun e => rows_ne hvo hFl.row (by decide) g e rfl
                have hgg : w6.heap[g]? = wl.heap[g]? := hg6.block g hgl (fun e => hvg e.symm)
                have hfr6 := hgfr w6 hgg (i * 33 + 32)
                have hvc6 : w6.cell? ⟨g, i * 33 + 32, none⟩ = some v := (World.cell?_of_block (w := wl) (a := ⟨g, i * 33 + 32, none⟩) hgg).trans hvc
                have hgf : g ≠ f := fun e => row_ne hFl.row hFl.blk (by decide) (e ▸ rfl)
                have hq6 : heldE (fun k => k = f) wl.drew w6 := ⟨hg6.size, fun k hk hl => by subst hk; exact hg6.block k hl (fun e => row_ne hvo hFl.blk (by decide) e.symm)⟩
                have hq7 : ∀ u, heldE (fun k => k = f) wl.drew (w6.setCell ⟨g, i * 33 + 32, none⟩ u) := fun u => hq6.set u (by simpa using hgf)
                have hsz6 : wl.heap.size ≤ w6.heap.size := hg6.size
                have hszl : w.heap.size ≤ wl.heap.size := hKl.size
                have hrO : ∀ j, r.ownBlock = some j → Since O w w6 j := fun j hj => by
                  have hjl := (hr6.lt j hj).2
                  rcases hbk6 with e | ⟨k, e1, e2⟩
                  · rcases hvO j (e ▸ hj) with h | h
                    · exact .inl h
                    · exact .inr ⟨h.1, hjl⟩
                  · rw [e1] at hj
                    injection hj with hj
                    subst hj
                    exact .inr ⟨Nat.le_trans hszl e2, hjl⟩
                obtain ⟨hF7, hK7⟩ := hFd.from_ hokl hti hv hg6 hr6 hbk6 hrO (fun j hj => hj.imp (fun h => h) fun h => ⟨h.1, Nat.lt_of_lt_of_le h.2 hsz6⟩) (fun j hj => hj.elim (fun h' => Nat.lt_of_lt_of_le (hFl.lt j (.inl h')) hsz6) fun h => h.2) (fun hj => hj.elim h.zero fun h => by omega) (by rw [hlen0])
                rw [show 33 * i + 32 = i * 33 + 32 by omega] at hF7 hK7
                have hF8 : FIn (w6.setCell ⟨g, i * 33 + 32, none⟩ r) (Since O w (w6.setCell ⟨g, i * 33 + 32, none⟩ r)) f { S0 with ts := S0.ts.set i (id, putL l us[j]) } (.slice (some ⟨g, 0, none⟩) (S0.ts.set i (id, l)).length gc) rk ra ro (vsj.set i r) K := by
                  have hS : Since O w (w6.setCell ⟨g, i * 33 + 32, none⟩ r) = Since O w w6 := by
                    funext k
                    unfold Since
                    rw [sz_set]
                  rw [hS]
                  have := hF7
                  dsimp only at this
                  rw [List.set_set] at this
                  exact this
                have hK8 : Keeps (fun j => ¬ O j) w (w6.setCell ⟨g, i * 33 + 32, none⟩ r) := ⟨hK7.os.trans hKl.os, hK7.tape.trans hKl.tape, hK7.output.trans hKl.output, Nat.le_trans hszl hK7.size, fun k hk hn => (hK7.block k (Nat.lt_of_lt_of_le hk hszl) (fun h => h.elim hn fun h => by omega)).trans (hKl.block k hk hn)⟩
                simp [go_sem, IntWalk.iteOmega, IntWalk.toNatUp, d0, d8, d48, d49, d50, hq6, hfr6, hvc6, hil', hlen0, hq7, honer]
                refine roundEnd.mk ⟨j + 1, putL l us[j], _, vsj.set i r, by omega, by simp [go_sem, d0], by simp [go_sem, d8], by simp [go_sem, d48], by simp [go_sem, d49], by simp [go_sem], hf1, hpl0.put hxv, hF8, hK8⟩ ?_
                simp [go_sem, intOf, d50]; omega
              · obtain rfl : j = us.length := by omega
                have hjl' : ¬ (us.length : Int) < us.length := by omega
                rw [List.take_of_length_le (Nat.le_refl _)] at hfold
                simp [go_sem, IntWalk.iteOmega, IntWalk.toNatUp, d0, d8, d48, d49, d50, hjl', e0]
                rw [hfold]
                exact ⟨⟨_, _, hFl⟩, hKl⟩
end Go.Proofs.YtdjcjjodbniebaaGreatDoor
