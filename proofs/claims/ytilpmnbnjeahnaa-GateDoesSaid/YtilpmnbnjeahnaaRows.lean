/-
  No cell of these rows narrows 'for every input' (looked for: loops, veiled, ifaces, maps, wideKeys, modest, calm, conditions, laid).
  DERIVED. THE GIVEN ROWS OF THIS SEAT. 7 by the template 'for every input the law returns true; each argument reads behind the call as it read before'; 0 by the template 'total and deterministic' (their statements: YtilpmnbnjeahnaaTotals.lean).
  GIVEN WITH THE SEED: the statements are not yours to turn. If you find one false, say at which input.
  Laid BY PROGRAM, IN A SANDBOX (cutbox-rows.mjs): the forced cells as the released guide's own fill.sh prints them over the translation a2ca5c3a4342f786… (all of the seat's roots in one cut). By AI agents, Wed Nov 11 2026. No macro, syntax, notation, axiom, sorry.
-/
import Derived.Test.YtilpmnbnjeahnaaChecked
import GoSem.Claim
import GoSem.ClaimJoined
import GoSem.ClaimMapViews
import Derived.JoinedTies
import Derived.KernelRfl
namespace Go.Proofs.Ytilpmnbnjeahnaa
/- THE CELL 'sum', in the pinned program and in every row, IS THE sha256 OF THE DUMP (.gsa) THAT YtilpmnbnjeahnaaProg.lean LOADS. Nothing in Lean hashes anything: it is a label: what it is worth is what the hold of that sum in a sandbox is worth. -/
noncomputable def Try.pinned : Pinned := { name := "ytilpmnbnjeahnaa", sum := "a2ca5c3a4342f7862148a3cb2ce1745251150c7303954a9cc3d6ba97418a2847", checked := Try.checked }
namespace Rows
def none {H : Type} : Left H := { results := [], args := [] }

/-- 'flurrylaw16.GateShares': WHATEVER THE INPUT: true; the input reads as it did. -/
def gateSharesSpec : ChangeSpec := { name := "gateShares", fn := fun _ => fun
  | [d1, d2, d3, d4] => { results := [.lit (.bool true)], args := [d1, d2, d3, d4] }
  | _ => none }
def gateSharesRow : OpenClaim := { program := "ytilpmnbnjeahnaa", sum := "a2ca5c3a4342f7862148a3cb2ce1745251150c7303954a9cc3d6ba97418a2847", func := "flurry/flurrylaw16.GateShares", spec := "gateShares", named := ["math/bits.divideError", "math/bits.overflowError"], apart := false }
def GateSharesSaid : Prop := gateSharesRow.holds Try.pinned (OpenSpec.ofChange gateSharesSpec)

/-- ITS FALSE NEIGHBOUR: 'it returns false'. Refute it at one input. -/
def gateSharesWrong : ChangeSpec := { name := "gateShares", fn := fun _ => fun
  | [d1, d2, d3, d4] => { results := [.lit (.bool false)], args := [d1, d2, d3, d4] }
  | _ => none }
def GateSharesWrongFalsely : Prop := gateSharesRow.holds Try.pinned (OpenSpec.ofChange gateSharesWrong)

/-- 'flurrylaw16.GateOwn': WHATEVER THE INPUT: true; the input reads as it did. -/
def gateOwnSpec : ChangeSpec := { name := "gateOwn", fn := fun _ => fun
  | [d1, d2, d3, d4, d5] => { results := [.lit (.bool true)], args := [d1, d2, d3, d4, d5] }
  | _ => none }
def gateOwnRow : OpenClaim := { program := "ytilpmnbnjeahnaa", sum := "a2ca5c3a4342f7862148a3cb2ce1745251150c7303954a9cc3d6ba97418a2847", func := "flurry/flurrylaw16.GateOwn", spec := "gateOwn", named := ["math/bits.divideError", "math/bits.overflowError"], apart := false }
def GateOwnSaid : Prop := gateOwnRow.holds Try.pinned (OpenSpec.ofChange gateOwnSpec)

/-- ITS FALSE NEIGHBOUR: 'it returns false'. Refute it at one input. -/
def gateOwnWrong : ChangeSpec := { name := "gateOwn", fn := fun _ => fun
  | [d1, d2, d3, d4, d5] => { results := [.lit (.bool false)], args := [d1, d2, d3, d4, d5] }
  | _ => none }
def GateOwnWrongFalsely : Prop := gateOwnRow.holds Try.pinned (OpenSpec.ofChange gateOwnWrong)

/-- 'flurrylaw16.GateFair': WHATEVER THE INPUT: true; the input reads as it did. -/
def gateFairSpec : ChangeSpec := { name := "gateFair", fn := fun _ => fun
  | [d1, d2, d3, d4] => { results := [.lit (.bool true)], args := [d1, d2, d3, d4] }
  | _ => none }
def gateFairRow : OpenClaim := { program := "ytilpmnbnjeahnaa", sum := "a2ca5c3a4342f7862148a3cb2ce1745251150c7303954a9cc3d6ba97418a2847", func := "flurry/flurrylaw16.GateFair", spec := "gateFair", named := ["math/bits.divideError", "math/bits.overflowError"], apart := false }
def GateFairSaid : Prop := gateFairRow.holds Try.pinned (OpenSpec.ofChange gateFairSpec)

/-- ITS FALSE NEIGHBOUR: 'it returns false'. Refute it at one input. -/
def gateFairWrong : ChangeSpec := { name := "gateFair", fn := fun _ => fun
  | [d1, d2, d3, d4] => { results := [.lit (.bool false)], args := [d1, d2, d3, d4] }
  | _ => none }
def GateFairWrongFalsely : Prop := gateFairRow.holds Try.pinned (OpenSpec.ofChange gateFairWrong)

/-- 'flurrylaw16.GateBounds': WHATEVER THE INPUT: true; the input reads as it did. -/
def gateBoundsSpec : ChangeSpec := { name := "gateBounds", fn := fun _ => fun
  | [d1, d2, d3] => { results := [.lit (.bool true)], args := [d1, d2, d3] }
  | _ => none }
def gateBoundsRow : OpenClaim := { program := "ytilpmnbnjeahnaa", sum := "a2ca5c3a4342f7862148a3cb2ce1745251150c7303954a9cc3d6ba97418a2847", func := "flurry/flurrylaw16.GateBounds", spec := "gateBounds", unfollowed := true, recurses := true, named := ["math/bits.divideError", "math/bits.overflowError"], apart := false }
def GateBoundsSaid : Prop := gateBoundsRow.holds Try.pinned (OpenSpec.ofChange gateBoundsSpec)

/-- ITS FALSE NEIGHBOUR: 'it returns false'. Refute it at one input. -/
def gateBoundsWrong : ChangeSpec := { name := "gateBounds", fn := fun _ => fun
  | [d1, d2, d3] => { results := [.lit (.bool false)], args := [d1, d2, d3] }
  | _ => none }
def GateBoundsWrongFalsely : Prop := gateBoundsRow.holds Try.pinned (OpenSpec.ofChange gateBoundsWrong)

/-- 'flurrylaw16.GateFree': WHATEVER THE INPUT: true; the input reads as it did. -/
def gateFreeSpec : ChangeSpec := { name := "gateFree", fn := fun _ => fun
  | [d1, d2, d3] => { results := [.lit (.bool true)], args := [d1, d2, d3] }
  | _ => none }
def gateFreeRow : OpenClaim := { program := "ytilpmnbnjeahnaa", sum := "a2ca5c3a4342f7862148a3cb2ce1745251150c7303954a9cc3d6ba97418a2847", func := "flurry/flurrylaw16.GateFree", spec := "gateFree", unfollowed := true, recurses := true, named := ["math/bits.divideError", "math/bits.overflowError"], apart := false }
def GateFreeSaid : Prop := gateFreeRow.holds Try.pinned (OpenSpec.ofChange gateFreeSpec)

/-- ITS FALSE NEIGHBOUR: 'it returns false'. Refute it at one input. -/
def gateFreeWrong : ChangeSpec := { name := "gateFree", fn := fun _ => fun
  | [d1, d2, d3] => { results := [.lit (.bool false)], args := [d1, d2, d3] }
  | _ => none }
def GateFreeWrongFalsely : Prop := gateFreeRow.holds Try.pinned (OpenSpec.ofChange gateFreeWrong)

/-- 'flurrylaw16.GateDoes': WHATEVER THE INPUT: true; the input reads as it did. -/
def gateDoesSpec : ChangeSpec := { name := "gateDoes", fn := fun _ => fun
  | [d1, d2, d3] => { results := [.lit (.bool true)], args := [d1, d2, d3] }
  | _ => none }
def gateDoesRow : OpenClaim := { program := "ytilpmnbnjeahnaa", sum := "a2ca5c3a4342f7862148a3cb2ce1745251150c7303954a9cc3d6ba97418a2847", func := "flurry/flurrylaw16.GateDoes", spec := "gateDoes", inPlace := ["maps.clone"], unfollowed := true, recurses := true, named := ["math/bits.divideError", "math/bits.overflowError"], apart := false }
def GateDoesSaid : Prop := gateDoesRow.holds Try.pinned (OpenSpec.ofChange gateDoesSpec)

/-- ITS FALSE NEIGHBOUR: 'it returns false'. Refute it at one input. -/
def gateDoesWrong : ChangeSpec := { name := "gateDoes", fn := fun _ => fun
  | [d1, d2, d3] => { results := [.lit (.bool false)], args := [d1, d2, d3] }
  | _ => none }
def GateDoesWrongFalsely : Prop := gateDoesRow.holds Try.pinned (OpenSpec.ofChange gateDoesWrong)

/-- 'flurrylaw16.GateNone': WHATEVER THE INPUT: true; the input reads as it did. -/
def gateNoneSpec : ChangeSpec := { name := "gateNone", fn := fun _ => fun
  | [d1, d2] => { results := [.lit (.bool true)], args := [d1, d2] }
  | _ => none }
def gateNoneRow : OpenClaim := { program := "ytilpmnbnjeahnaa", sum := "a2ca5c3a4342f7862148a3cb2ce1745251150c7303954a9cc3d6ba97418a2847", func := "flurry/flurrylaw16.GateNone", spec := "gateNone", inPlace := ["maps.clone"], unfollowed := true, recurses := true, named := ["math/bits.divideError", "math/bits.overflowError"], apart := false }
def GateNoneSaid : Prop := gateNoneRow.holds Try.pinned (OpenSpec.ofChange gateNoneSpec)

/-- ITS FALSE NEIGHBOUR: 'it returns false'. Refute it at one input. -/
def gateNoneWrong : ChangeSpec := { name := "gateNone", fn := fun _ => fun
  | [d1, d2] => { results := [.lit (.bool false)], args := [d1, d2] }
  | _ => none }
def GateNoneWrongFalsely : Prop := gateNoneRow.holds Try.pinned (OpenSpec.ofChange gateNoneWrong)

/- THE SECOND FORM. 'bulk': how many values and letters a reading holds, each counted each time it is reached (what is shared counts as often as it is met; a slice's spare places count too). A statement '..UptoSaid' is the law's where the arguments, and the package variables that the reading takes, are together of bulk at most 1048576: NARROWER than '..Said'. Prove '..Said' where nothing that the law and all that it calls make is longer than what came in: it says more and counts as full. Else prove '..UptoSaid'. A law counts once. -/
mutual
def uptoBulk {H : Type} : DataW H → Nat
  | .lit (.string bytes) => bytes.length + 1
  | .lit _ => 1
  | .nil => 1
  | .ptr d => uptoBulk d + 1
  | .slice elems spare => uptoBulkAll elems + uptoBulkAll spare + 1
  | .agg parts => uptoBulkAll parts + 1
  | .iface _ d => uptoBulk d + 1
  | .map entries => uptoBulkEntries entries + 1
  | .held _ => 1
def uptoBulkAll {H : Type} : List (DataW H) → Nat
  | [] => 0
  | d :: r => uptoBulk d + uptoBulkAll r
def uptoBulkEntries {H : Type} : List (Lit × DataW H) → Nat
  | [] => 0
  | x :: r => uptoBulkEntry x + uptoBulkEntries r
def uptoBulkEntry {H : Type} : Lit × DataW H → Nat
  | (.string bytes, d) => bytes.length + uptoBulk d + 1
  | (_, d) => uptoBulk d + 1
 end
def uptoSmall : (H : Type) → List (DataW H) → Bool := fun _ ds => decide (uptoBulkAll ds ≤ 1048576)
def OpenSpec.upto (s : _root_.Go.ChangeSpec) : _root_.Go.OpenSpec := { _root_.Go.OpenSpec.ofChange s with cond := some uptoSmall }

/-- 'flurrylaw16.GateShares', WHERE WHAT IT READS IS OF BULK AT MOST 1048576: true; the input reads as it did. -/
def gateSharesUptoRow : OpenClaim := { program := "ytilpmnbnjeahnaa", sum := "a2ca5c3a4342f7862148a3cb2ce1745251150c7303954a9cc3d6ba97418a2847", func := "flurry/flurrylaw16.GateShares", spec := "gateShares", named := ["math/bits.divideError", "math/bits.overflowError"], apart := false, narrowed := true }
def GateSharesUptoSaid : Prop := gateSharesUptoRow.holds Try.pinned (OpenSpec.upto gateSharesSpec)

/-- 'flurrylaw16.GateOwn', WHERE WHAT IT READS IS OF BULK AT MOST 1048576: true; the input reads as it did. -/
def gateOwnUptoRow : OpenClaim := { program := "ytilpmnbnjeahnaa", sum := "a2ca5c3a4342f7862148a3cb2ce1745251150c7303954a9cc3d6ba97418a2847", func := "flurry/flurrylaw16.GateOwn", spec := "gateOwn", named := ["math/bits.divideError", "math/bits.overflowError"], apart := false, narrowed := true }
def GateOwnUptoSaid : Prop := gateOwnUptoRow.holds Try.pinned (OpenSpec.upto gateOwnSpec)

/-- 'flurrylaw16.GateFair', WHERE WHAT IT READS IS OF BULK AT MOST 1048576: true; the input reads as it did. -/
def gateFairUptoRow : OpenClaim := { program := "ytilpmnbnjeahnaa", sum := "a2ca5c3a4342f7862148a3cb2ce1745251150c7303954a9cc3d6ba97418a2847", func := "flurry/flurrylaw16.GateFair", spec := "gateFair", named := ["math/bits.divideError", "math/bits.overflowError"], apart := false, narrowed := true }
def GateFairUptoSaid : Prop := gateFairUptoRow.holds Try.pinned (OpenSpec.upto gateFairSpec)

/-- 'flurrylaw16.GateBounds', WHERE WHAT IT READS IS OF BULK AT MOST 1048576: true; the input reads as it did. -/
def gateBoundsUptoRow : OpenClaim := { program := "ytilpmnbnjeahnaa", sum := "a2ca5c3a4342f7862148a3cb2ce1745251150c7303954a9cc3d6ba97418a2847", func := "flurry/flurrylaw16.GateBounds", spec := "gateBounds", unfollowed := true, recurses := true, named := ["math/bits.divideError", "math/bits.overflowError"], apart := false, narrowed := true }
def GateBoundsUptoSaid : Prop := gateBoundsUptoRow.holds Try.pinned (OpenSpec.upto gateBoundsSpec)

/-- 'flurrylaw16.GateFree', WHERE WHAT IT READS IS OF BULK AT MOST 1048576: true; the input reads as it did. -/
def gateFreeUptoRow : OpenClaim := { program := "ytilpmnbnjeahnaa", sum := "a2ca5c3a4342f7862148a3cb2ce1745251150c7303954a9cc3d6ba97418a2847", func := "flurry/flurrylaw16.GateFree", spec := "gateFree", unfollowed := true, recurses := true, named := ["math/bits.divideError", "math/bits.overflowError"], apart := false, narrowed := true }
def GateFreeUptoSaid : Prop := gateFreeUptoRow.holds Try.pinned (OpenSpec.upto gateFreeSpec)

/-- 'flurrylaw16.GateDoes', WHERE WHAT IT READS IS OF BULK AT MOST 1048576: true; the input reads as it did. -/
def gateDoesUptoRow : OpenClaim := { program := "ytilpmnbnjeahnaa", sum := "a2ca5c3a4342f7862148a3cb2ce1745251150c7303954a9cc3d6ba97418a2847", func := "flurry/flurrylaw16.GateDoes", spec := "gateDoes", inPlace := ["maps.clone"], unfollowed := true, recurses := true, named := ["math/bits.divideError", "math/bits.overflowError"], apart := false, narrowed := true }
def GateDoesUptoSaid : Prop := gateDoesUptoRow.holds Try.pinned (OpenSpec.upto gateDoesSpec)

/-- 'flurrylaw16.GateNone', WHERE WHAT IT READS IS OF BULK AT MOST 1048576: true; the input reads as it did. -/
def gateNoneUptoRow : OpenClaim := { program := "ytilpmnbnjeahnaa", sum := "a2ca5c3a4342f7862148a3cb2ce1745251150c7303954a9cc3d6ba97418a2847", func := "flurry/flurrylaw16.GateNone", spec := "gateNone", inPlace := ["maps.clone"], unfollowed := true, recurses := true, named := ["math/bits.divideError", "math/bits.overflowError"], apart := false, narrowed := true }
def GateNoneUptoSaid : Prop := gateNoneUptoRow.holds Try.pinned (OpenSpec.upto gateNoneSpec)

end Rows
end Go.Proofs.Ytilpmnbnjeahnaa
