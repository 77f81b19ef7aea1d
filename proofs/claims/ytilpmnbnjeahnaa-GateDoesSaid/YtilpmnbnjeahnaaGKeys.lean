/-
  The keys of a gate's map, sorted: the library's contracts, in the words of this walk.
-/
import Derived.Test.YtilpmnbnjeahnaaGGate
import Derived.Test.YtilpmnbnjeahnaaSlay
namespace Go.Proofs.Ytilpmnbnjeahnaa
open Go.RowKit Go.Maps Go.Sort Go.Shelf
set_option linter.unusedVariables false
set_option linter.unusedSimpArgs false
set_option maxRecDepth 10000
theorem keyOf2 {a : Int} (hw : (Lit.int .i64 a).wf = true) : keyOf Try.prog 2 (.int .i64 a) = some (.int .i64 a) := by
  simp [keyOf, und2, mapKey, hw]
def RU (_ : Value) : Option (DataW Unit × List MemPlace) := some (.nil, [])
theorem keysOwn {w : World} {m : Nat} {L : List (Int × Value)} (h : Mp w m .i64 L) (hw : ∀ x ∈ L, (Lit.int .i64 x.1).wf = true) (hn : L.length ≤ maxLen) :
    ∃ D : DataW Unit, w.ownsMap Try.prog 2 RU m L.length D ∧ (intKeys D).Perm (L.map (·.1)) ∧ Maps.size D = L.length := by
  obtain ⟨es, c, h1, h2, hS⟩ := h
  have hlen : es.size = L.length := by have := congrArg List.length h2; simpa using this
  have hrd : ∀ x ∈ es.toList, ∃ a, x.key = .int .i64 a ∧ WideElems.rd Try.prog 2 RU x = some (.int .i64 a, .nil) := by
    intro x hx
    have h3 : (x.key, x.val) ∈ L.map (fun x => (Value.int .i64 x.1, x.2)) := by rw [← h2]; exact List.mem_map.2 ⟨x, hx, rfl⟩
    obtain ⟨y, hy, e⟩ := List.mem_map.1 h3
    injection e with e1 e2
    refine ⟨y.1, e1.symm, ?_⟩
    have := WideElems.rd_mk (P := Try.prog) (k := 2) (R := RU) (key := x.key) (val := x.val) (kl := .int .i64 y.1) (yv := (.nil, [])) (born := x.born) (by rw [← e1]; exact keyOf2 (hw y hy)) rfl
    exact this
  refine ⟨_, ⟨es, c, h1, ⟨by omega, hS, fun x hx => ?_⟩, by omega, rfl⟩, ?_, ?_⟩
  · obtain ⟨a, _, h⟩ := hrd x hx
    exact ⟨_, h⟩
  · show (List.map (fun p : Lit × DataW Unit => Go.intOf p.1) _).Perm _
    have e : L.map (·.1) = (es.toList.map (WideElems.rg Try.prog 2 RU)).map (fun p : Lit × DataW Unit => Go.intOf p.1) := by
      have e1 : (L.map (fun x => (Value.int .i64 x.1, x.2))).map (fun p => match p.1 with | .int _ a => a | _ => 0) = L.map (·.1) := by simp [List.map_map, Function.comp_def]
      rw [← e1, ← h2, List.map_map, List.map_map]
      apply List.map_congr_left
      intro x hx
      obtain ⟨a, ha, h⟩ := hrd x hx
      simp only [Function.comp, WideElems.rg_of h, ha, Go.intOf]
    rw [e]
    exact (Go.WideShapes.sorted_perm _).map _
  · show List.length _ = _
    rw [(Go.WideShapes.sorted_perm _).length_eq]
    simpa using hlen
theorem sorted_asc {l ss : List Int} (hp : ss.Perm l) (ha : l.Pairwise (· < ·)) : ss.mergeSort (fun x y => decide (x ≤ y)) = l := by
  have h := mergeSort_of_perm_i hp
  rw [show (fun x y : Int => decide (x ≤ y)) = leI from rfl, h]
  exact List.mergeSort_of_pairwise (ha.imp fun h => by simp only [leI, decide_eq_true_eq]; omega)
theorem sorts (m : Nat) : AnyZI.SortsIn Try.prog Try.sortedA_ren Fence.wide m :=
  ⟨fun blk off cap ss W hH hblk hsz => callsIn_wide.2 (AnyM.slices_Sort_int Try.sortA blk off cap ss W hH hblk hsz),
   fun p cap W => callsIn_wide.2 (AnyM.slices_Sort_int_none Try.sortA p cap W)⟩
theorem keysFn_runs (mb : Option Nat) (w : World) : Runs Try.prog 37 #[.map mb] w (.func (.func 48) #[] #[.pointer (some ⟨w.heap.size, 0, none⟩)]) (w.alloc (.cells #[.map mb] 61)) :=
  (callsIn_wide (n := 5)).1 (AnyZI.keys_in Try.keysA Fence.wide 5 trivial rfl mb w)
theorem noinit_keys : Try.prog.inits.idxOf? 37 = none := by kernel_rfl
theorem sorted_any (m : Nat) (L : List (Int × Value)) (w0 : World) (h : Mp w0 m .i64 L) (hw : ∀ x ∈ L, (Lit.int .i64 x.1).wf = true) (hn : L.length ≤ 65536) (ha : (L.map (·.1)).Pairwise (· < ·)) :
    callE Try.prog 36 #[.func (.func 48) #[] #[.pointer (some ⟨w0.heap.size, 0, none⟩)]] (w0.alloc (.cells #[.map (some m)] 61)) fun v w' => w'.ownsRow (w0.heap.size + 1) 2 1 v L.length (ints .i64 (L.map (·.1))) ∧ Below w0.heap.size w0 w' := by
  obtain ⟨D, hD, hp, hs⟩ := keysOwn h hw (Nat.le_trans hn (by decide))
  have k := ext_alloc w0 (.cells #[.map (some m)] 61)
  have hown : (w0.alloc (.cells #[.map (some m)] 61)).ownsMap Try.prog 2 RU m L.length D := by
    obtain ⟨es, c, hb, Ft, q⟩ := hD
    exact ⟨es, c, (k.block m h.lt).trans hb, Ft, q⟩
  have hseq := AnyZI.keys_gives (ρ := Try.keysA_ren) { Try.keysA with } Fence.wide 2 trivial rfl (by omega) w0.heap.size m L.length D (w0.alloc (.cells #[.map (some m)] 61)) (by simp) (by simp) hown
  have cS := AnyZI.sorted_in Try.sortedA Fence.wide 5 trivial trivial trivial trivial rfl (by omega) (sorts _) (enters_of Try.func47 (by kernel_rfl) rfl) 48 #[.pointer (some ⟨w0.heap.size, 0, none⟩)] trivial (enters_of Try.func48 (by kernel_rfl) rfl) _ _ (by rw [hs]; exact Nat.le_trans hn (by decide)) (by rw [hs]; omega) _ hseq
  refine Calls.mono ((callsIn_wide (n := 5)).1 cS) ?_
  rintro e w' ⟨v, ss, rfl, hS, hrow, hnil, hb⟩
  refine ⟨v, rfl, ?_, ext_trans k (by simpa using hb)⟩
  have hss : ss.Perm (L.map (·.1)) := hS.trans hp
  have hl : ss.length = L.length := by rw [hss.length_eq]; simp
  rw [sorted_asc hss ha, hl, World.size_alloc] at hrow
  exact hrow
end Go.Proofs.Ytilpmnbnjeahnaa
