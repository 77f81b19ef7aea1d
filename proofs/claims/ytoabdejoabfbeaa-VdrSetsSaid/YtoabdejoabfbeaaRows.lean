/-
  No cell of these rows narrows 'for every input' (looked for: loops, veiled, ifaces, maps, wideKeys, modest, calm, conditions, laid).
  DERIVED. THE GIVEN ROWS OF THIS SEAT. 6 by the template 'for every input the law returns true; each argument reads behind the call as it read before'; 0 by the template 'total and deterministic' (their statements: YtoabdejoabfbeaaTotals.lean).
  GIVEN WITH THE SEED: the statements are not yours to turn. If you find one false, say at which input.
  Laid BY PROGRAM, IN A SANDBOX (cutbox-rows.mjs): the forced cells as the released guide's own fill.sh prints them over the translation db3540db9f4aab7c… (all of the seat's roots in one cut). By AI agents, Wed Nov 11 2026. No macro, syntax, notation, axiom, sorry.
-/
import Derived.Test.YtoabdejoabfbeaaChecked
import GoSem.Claim
import GoSem.ClaimJoined
import GoSem.ClaimMapViews
import Derived.JoinedTies
import Derived.KernelRfl
namespace Go.Proofs.Ytoabdejoabfbeaa
/- THE CELL 'sum', in the pinned program and in every row, IS THE sha256 OF THE DUMP (.gsa) THAT YtoabdejoabfbeaaProg.lean LOADS. Nothing in Lean hashes anything: it is a label: what it is worth is what the hold of that sum in a sandbox is worth. -/
noncomputable def Try.pinned : Pinned := { name := "ytoabdejoabfbeaa", sum := "db3540db9f4aab7c5cf5fe6d775fb5b68ca2d86dfcb07d3324e9e705741d9615", checked := Try.checked }
namespace Rows
def none {H : Type} : Left H := { results := [], args := [] }

/-- 'flurrylaw05.VdrNames': WHATEVER THE INPUT: true; the input reads as it did. -/
def vdrNamesSpec : ChangeSpec := { name := "vdrNames", fn := fun _ => fun
  | [d] => { results := [.lit (.bool true)], args := [d] }
  | _ => none }
def vdrNamesRow : OpenClaim := { program := "ytoabdejoabfbeaa", sum := "db3540db9f4aab7c5cf5fe6d775fb5b68ca2d86dfcb07d3324e9e705741d9615", func := "flurry/flurrylaw05.VdrNames", spec := "vdrNames", inPlace := ["math/bits.Add64"], named := ["math/bits.divideError", "math/bits.overflowError"], apart := false }
def VdrNamesSaid : Prop := vdrNamesRow.holds Try.pinned (OpenSpec.ofChange vdrNamesSpec)

/-- ITS FALSE NEIGHBOUR: 'it returns false'. Refute it at one input. -/
def vdrNamesWrong : ChangeSpec := { name := "vdrNames", fn := fun _ => fun
  | [d] => { results := [.lit (.bool false)], args := [d] }
  | _ => none }
def VdrNamesWrongFalsely : Prop := vdrNamesRow.holds Try.pinned (OpenSpec.ofChange vdrNamesWrong)

/-- 'flurrylaw05.VdrShares': WHATEVER THE INPUT: true; the input reads as it did. -/
def vdrSharesSpec : ChangeSpec := { name := "vdrShares", fn := fun _ => fun
  | [d1, d2] => { results := [.lit (.bool true)], args := [d1, d2] }
  | _ => none }
def vdrSharesRow : OpenClaim := { program := "ytoabdejoabfbeaa", sum := "db3540db9f4aab7c5cf5fe6d775fb5b68ca2d86dfcb07d3324e9e705741d9615", func := "flurry/flurrylaw05.VdrShares", spec := "vdrShares", inPlace := ["math/bits.Add64"], named := ["math/bits.divideError", "math/bits.overflowError"], apart := false }
def VdrSharesSaid : Prop := vdrSharesRow.holds Try.pinned (OpenSpec.ofChange vdrSharesSpec)

/-- ITS FALSE NEIGHBOUR: 'it returns false'. Refute it at one input. -/
def vdrSharesWrong : ChangeSpec := { name := "vdrShares", fn := fun _ => fun
  | [d1, d2] => { results := [.lit (.bool false)], args := [d1, d2] }
  | _ => none }
def VdrSharesWrongFalsely : Prop := vdrSharesRow.holds Try.pinned (OpenSpec.ofChange vdrSharesWrong)

/-- 'flurrylaw05.VdrNeed': WHATEVER THE INPUT: true; the input reads as it did. -/
def vdrNeedSpec : ChangeSpec := { name := "vdrNeed", fn := fun _ => fun
  | [d1, d2] => { results := [.lit (.bool true)], args := [d1, d2] }
  | _ => none }
def vdrNeedRow : OpenClaim := { program := "ytoabdejoabfbeaa", sum := "db3540db9f4aab7c5cf5fe6d775fb5b68ca2d86dfcb07d3324e9e705741d9615", func := "flurry/flurrylaw05.VdrNeed", spec := "vdrNeed", inPlace := ["math/bits.Add64"], named := ["math/bits.divideError", "math/bits.overflowError"], apart := false }
def VdrNeedSaid : Prop := vdrNeedRow.holds Try.pinned (OpenSpec.ofChange vdrNeedSpec)

/-- ITS FALSE NEIGHBOUR: 'it returns false'. Refute it at one input. -/
def vdrNeedWrong : ChangeSpec := { name := "vdrNeed", fn := fun _ => fun
  | [d1, d2] => { results := [.lit (.bool false)], args := [d1, d2] }
  | _ => none }
def VdrNeedWrongFalsely : Prop := vdrNeedRow.holds Try.pinned (OpenSpec.ofChange vdrNeedWrong)

/-- 'flurrylaw05.VdrUnits': WHATEVER THE INPUT: true; the input reads as it did. -/
def vdrUnitsSpec : ChangeSpec := { name := "vdrUnits", fn := fun _ => fun
  | [d1, d2] => { results := [.lit (.bool true)], args := [d1, d2] }
  | _ => none }
def vdrUnitsRow : OpenClaim := { program := "ytoabdejoabfbeaa", sum := "db3540db9f4aab7c5cf5fe6d775fb5b68ca2d86dfcb07d3324e9e705741d9615", func := "flurry/flurrylaw05.VdrUnits", spec := "vdrUnits", inPlace := ["math/bits.Add64"], named := ["math/bits.divideError", "math/bits.overflowError"], apart := false }
def VdrUnitsSaid : Prop := vdrUnitsRow.holds Try.pinned (OpenSpec.ofChange vdrUnitsSpec)

/-- ITS FALSE NEIGHBOUR: 'it returns false'. Refute it at one input. -/
def vdrUnitsWrong : ChangeSpec := { name := "vdrUnits", fn := fun _ => fun
  | [d1, d2] => { results := [.lit (.bool false)], args := [d1, d2] }
  | _ => none }
def VdrUnitsWrongFalsely : Prop := vdrUnitsRow.holds Try.pinned (OpenSpec.ofChange vdrUnitsWrong)

/-- 'flurrylaw05.VdrSums': WHATEVER THE INPUT: true; the input reads as it did. -/
def vdrSumsSpec : ChangeSpec := { name := "vdrSums", fn := fun _ => fun
  | [d1, d2, d3] => { results := [.lit (.bool true)], args := [d1, d2, d3] }
  | _ => none }
def vdrSumsRow : OpenClaim := { program := "ytoabdejoabfbeaa", sum := "db3540db9f4aab7c5cf5fe6d775fb5b68ca2d86dfcb07d3324e9e705741d9615", func := "flurry/flurrylaw05.VdrSums", spec := "vdrSums", inPlace := ["math/bits.Add64"], named := ["math/bits.divideError", "math/bits.overflowError"], apart := false }
def VdrSumsSaid : Prop := vdrSumsRow.holds Try.pinned (OpenSpec.ofChange vdrSumsSpec)

/-- ITS FALSE NEIGHBOUR: 'it returns false'. Refute it at one input. -/
def vdrSumsWrong : ChangeSpec := { name := "vdrSums", fn := fun _ => fun
  | [d1, d2, d3] => { results := [.lit (.bool false)], args := [d1, d2, d3] }
  | _ => none }
def VdrSumsWrongFalsely : Prop := vdrSumsRow.holds Try.pinned (OpenSpec.ofChange vdrSumsWrong)

/-- 'flurrylaw05.VdrSets': WHATEVER THE INPUT: true; the input reads as it did. -/
def vdrSetsSpec : ChangeSpec := { name := "vdrSets", fn := fun _ => fun
  | [d1, d2, d3] => { results := [.lit (.bool true)], args := [d1, d2, d3] }
  | _ => none }
def vdrSetsRow : OpenClaim := { program := "ytoabdejoabfbeaa", sum := "db3540db9f4aab7c5cf5fe6d775fb5b68ca2d86dfcb07d3324e9e705741d9615", func := "flurry/flurrylaw05.VdrSets", spec := "vdrSets", inPlace := ["math/bits.Add64"], unfollowed := true, recurses := true, named := ["math/bits.divideError", "math/bits.overflowError"], apart := false }
def VdrSetsSaid : Prop := vdrSetsRow.holds Try.pinned (OpenSpec.ofChange vdrSetsSpec)

/-- ITS FALSE NEIGHBOUR: 'it returns false'. Refute it at one input. -/
def vdrSetsWrong : ChangeSpec := { name := "vdrSets", fn := fun _ => fun
  | [d1, d2, d3] => { results := [.lit (.bool false)], args := [d1, d2, d3] }
  | _ => none }
def VdrSetsWrongFalsely : Prop := vdrSetsRow.holds Try.pinned (OpenSpec.ofChange vdrSetsWrong)

/- THE SECOND FORM. 'bulk': how many values and letters a reading holds, each counted each time it is reached (what is shared counts as often as it is met; a slice's spare places count too). A statement '..UptoSaid' is the law's where the arguments, and the package variables that the reading takes, are together of bulk at most 1048576: NARROWER than '..Said'. Prove '..Said' where nothing that the law and all that it calls make is longer than what came in: it says more and counts as full. Else prove '..UptoSaid'. A law counts once. -/
mutual
def uptoBulk {H : Type} : DataW H → Nat
  | .lit (.string bytes) => bytes.length + 1
  | .lit _ => 1
  | .nil => 1
  | .ptr d => uptoBulk d + 1
  | .slice elems spare => uptoBulkAll elems + uptoBulkAll spare + 1
  | .agg parts => uptoBulkAll parts + 1
  | .iface _ d => uptoBulk d + 1
  | .map entries => uptoBulkEntries entries + 1
  | .held _ => 1
def uptoBulkAll {H : Type} : List (DataW H) → Nat
  | [] => 0
  | d :: r => uptoBulk d + uptoBulkAll r
def uptoBulkEntries {H : Type} : List (Lit × DataW H) → Nat
  | [] => 0
  | x :: r => uptoBulkEntry x + uptoBulkEntries r
def uptoBulkEntry {H : Type} : Lit × DataW H → Nat
  | (.string bytes, d) => bytes.length + uptoBulk d + 1
  | (_, d) => uptoBulk d + 1
 end
def uptoSmall : (H : Type) → List (DataW H) → Bool := fun _ ds => decide (uptoBulkAll ds ≤ 1048576)
def OpenSpec.upto (s : _root_.Go.ChangeSpec) : _root_.Go.OpenSpec := { _root_.Go.OpenSpec.ofChange s with cond := some uptoSmall }

/-- 'flurrylaw05.VdrNames', WHERE WHAT IT READS IS OF BULK AT MOST 1048576: true; the input reads as it did. -/
def vdrNamesUptoRow : OpenClaim := { program := "ytoabdejoabfbeaa", sum := "db3540db9f4aab7c5cf5fe6d775fb5b68ca2d86dfcb07d3324e9e705741d9615", func := "flurry/flurrylaw05.VdrNames", spec := "vdrNames", inPlace := ["math/bits.Add64"], named := ["math/bits.divideError", "math/bits.overflowError"], apart := false, narrowed := true }
def VdrNamesUptoSaid : Prop := vdrNamesUptoRow.holds Try.pinned (OpenSpec.upto vdrNamesSpec)

/-- 'flurrylaw05.VdrShares', WHERE WHAT IT READS IS OF BULK AT MOST 1048576: true; the input reads as it did. -/
def vdrSharesUptoRow : OpenClaim := { program := "ytoabdejoabfbeaa", sum := "db3540db9f4aab7c5cf5fe6d775fb5b68ca2d86dfcb07d3324e9e705741d9615", func := "flurry/flurrylaw05.VdrShares", spec := "vdrShares", inPlace := ["math/bits.Add64"], named := ["math/bits.divideError", "math/bits.overflowError"], apart := false, narrowed := true }
def VdrSharesUptoSaid : Prop := vdrSharesUptoRow.holds Try.pinned (OpenSpec.upto vdrSharesSpec)

/-- 'flurrylaw05.VdrNeed', WHERE WHAT IT READS IS OF BULK AT MOST 1048576: true; the input reads as it did. -/
def vdrNeedUptoRow : OpenClaim := { program := "ytoabdejoabfbeaa", sum := "db3540db9f4aab7c5cf5fe6d775fb5b68ca2d86dfcb07d3324e9e705741d9615", func := "flurry/flurrylaw05.VdrNeed", spec := "vdrNeed", inPlace := ["math/bits.Add64"], named := ["math/bits.divideError", "math/bits.overflowError"], apart := false, narrowed := true }
def VdrNeedUptoSaid : Prop := vdrNeedUptoRow.holds Try.pinned (OpenSpec.upto vdrNeedSpec)

/-- 'flurrylaw05.VdrUnits', WHERE WHAT IT READS IS OF BULK AT MOST 1048576: true; the input reads as it did. -/
def vdrUnitsUptoRow : OpenClaim := { program := "ytoabdejoabfbeaa", sum := "db3540db9f4aab7c5cf5fe6d775fb5b68ca2d86dfcb07d3324e9e705741d9615", func := "flurry/flurrylaw05.VdrUnits", spec := "vdrUnits", inPlace := ["math/bits.Add64"], named := ["math/bits.divideError", "math/bits.overflowError"], apart := false, narrowed := true }
def VdrUnitsUptoSaid : Prop := vdrUnitsUptoRow.holds Try.pinned (OpenSpec.upto vdrUnitsSpec)

/-- 'flurrylaw05.VdrSums', WHERE WHAT IT READS IS OF BULK AT MOST 1048576: true; the input reads as it did. -/
def vdrSumsUptoRow : OpenClaim := { program := "ytoabdejoabfbeaa", sum := "db3540db9f4aab7c5cf5fe6d775fb5b68ca2d86dfcb07d3324e9e705741d9615", func := "flurry/flurrylaw05.VdrSums", spec := "vdrSums", inPlace := ["math/bits.Add64"], named := ["math/bits.divideError", "math/bits.overflowError"], apart := false, narrowed := true }
def VdrSumsUptoSaid : Prop := vdrSumsUptoRow.holds Try.pinned (OpenSpec.upto vdrSumsSpec)

/-- 'flurrylaw05.VdrSets', WHERE WHAT IT READS IS OF BULK AT MOST 1048576: true; the input reads as it did. -/
def vdrSetsUptoRow : OpenClaim := { program := "ytoabdejoabfbeaa", sum := "db3540db9f4aab7c5cf5fe6d775fb5b68ca2d86dfcb07d3324e9e705741d9615", func := "flurry/flurrylaw05.VdrSets", spec := "vdrSets", inPlace := ["math/bits.Add64"], unfollowed := true, recurses := true, named := ["math/bits.divideError", "math/bits.overflowError"], apart := false, narrowed := true }
def VdrSetsUptoSaid : Prop := vdrSetsUptoRow.holds Try.pinned (OpenSpec.upto vdrSetsSpec)

end Rows
end Go.Proofs.Ytoabdejoabfbeaa
