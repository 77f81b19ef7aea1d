/-
  No cell of these rows narrows 'for every input' (looked for: loops, veiled, ifaces, maps, wideKeys, modest, calm, conditions, laid).
  DERIVED. THE GIVEN ROWS OF THIS SEAT. 6 by the template 'for every input the law returns true; each argument reads behind the call as it read before'; 0 by the template 'total and deterministic' (their statements: YtmoafaaeeanofaaTotals.lean).
  GIVEN WITH THE SEED: the statements are not yours to turn. If you find one false, say at which input.
  Laid BY PROGRAM, IN A SANDBOX (cutbox-rows.mjs): the forced cells as the released guide's own fill.sh prints them over the translation bafe3eb77dd0ad88… (all of the seat's roots in one cut). By AI agents, Wed Nov 11 2026. No macro, syntax, notation, axiom, sorry.
-/
import Derived.Test.YtmoafaaeeanofaaChecked
import GoSem.Claim
import GoSem.ClaimJoined
import GoSem.ClaimMapViews
import Derived.JoinedTies
import Derived.KernelRfl
namespace Go.Proofs.Ytmoafaaeeanofaa
/- THE CELL 'sum', in the pinned program and in every row, IS THE sha256 OF THE DUMP (.gsa) THAT YtmoafaaeeanofaaProg.lean LOADS. Nothing in Lean hashes anything: it is a label: what it is worth is what the hold of that sum in a sandbox is worth. -/
noncomputable def Try.pinned : Pinned := { name := "ytmoafaaeeanofaa", sum := "bafe3eb77dd0ad881a59b23a1dabe0de06ac7d67d91b3b298776c629344b72d5", checked := Try.checked }
namespace Rows
def none {H : Type} : Left H := { results := [], args := [] }

/-- 'flurrylaw06.SampleSlots': WHATEVER THE INPUT: true; the input reads as it did. -/
def sampleSlotsSpec : ChangeSpec := { name := "sampleSlots", fn := fun _ => fun
  | [d1, d2, d3, d4] => { results := [.lit (.bool true)], args := [d1, d2, d3, d4] }
  | _ => none }
def sampleSlotsRow : OpenClaim := { program := "ytmoafaaeeanofaa", sum := "bafe3eb77dd0ad881a59b23a1dabe0de06ac7d67d91b3b298776c629344b72d5", func := "flurry/flurrylaw06.SampleSlots", spec := "sampleSlots", inPlace := ["slices.overlaps[int64]"], apart := false }
def SampleSlotsSaid : Prop := sampleSlotsRow.holds Try.pinned (OpenSpec.ofChange sampleSlotsSpec)

/-- ITS FALSE NEIGHBOUR: 'it returns false'. Refute it at one input. -/
def sampleSlotsWrong : ChangeSpec := { name := "sampleSlots", fn := fun _ => fun
  | [d1, d2, d3, d4] => { results := [.lit (.bool false)], args := [d1, d2, d3, d4] }
  | _ => none }
def SampleSlotsWrongFalsely : Prop := sampleSlotsRow.holds Try.pinned (OpenSpec.ofChange sampleSlotsWrong)

/-- 'flurrylaw06.SampleAny': WHATEVER THE INPUT: true; the input reads as it did. -/
def sampleAnySpec : ChangeSpec := { name := "sampleAny", fn := fun _ => fun
  | [d1, d2] => { results := [.lit (.bool true)], args := [d1, d2] }
  | _ => none }
def sampleAnyRow : OpenClaim := { program := "ytmoafaaeeanofaa", sum := "bafe3eb77dd0ad881a59b23a1dabe0de06ac7d67d91b3b298776c629344b72d5", func := "flurry/flurrylaw06.SampleAny", spec := "sampleAny", inPlace := ["slices.overlaps[int64]"], apart := false }
def SampleAnySaid : Prop := sampleAnyRow.holds Try.pinned (OpenSpec.ofChange sampleAnySpec)

/-- ITS FALSE NEIGHBOUR: 'it returns false'. Refute it at one input. -/
def sampleAnyWrong : ChangeSpec := { name := "sampleAny", fn := fun _ => fun
  | [d1, d2] => { results := [.lit (.bool false)], args := [d1, d2] }
  | _ => none }
def SampleAnyWrongFalsely : Prop := sampleAnyRow.holds Try.pinned (OpenSpec.ofChange sampleAnyWrong)

/-- 'flurrylaw06.SampleUnits': WHATEVER THE INPUT: true; the input reads as it did. -/
def sampleUnitsSpec : ChangeSpec := { name := "sampleUnits", fn := fun _ => fun
  | [d1, d2, d3] => { results := [.lit (.bool true)], args := [d1, d2, d3] }
  | _ => none }
def sampleUnitsRow : OpenClaim := { program := "ytmoafaaeeanofaa", sum := "bafe3eb77dd0ad881a59b23a1dabe0de06ac7d67d91b3b298776c629344b72d5", func := "flurry/flurrylaw06.SampleUnits", spec := "sampleUnits", inPlace := ["slices.overlaps[int64]"], apart := false }
def SampleUnitsSaid : Prop := sampleUnitsRow.holds Try.pinned (OpenSpec.ofChange sampleUnitsSpec)

/-- ITS FALSE NEIGHBOUR: 'it returns false'. Refute it at one input. -/
def sampleUnitsWrong : ChangeSpec := { name := "sampleUnits", fn := fun _ => fun
  | [d1, d2, d3] => { results := [.lit (.bool false)], args := [d1, d2, d3] }
  | _ => none }
def SampleUnitsWrongFalsely : Prop := sampleUnitsRow.holds Try.pinned (OpenSpec.ofChange sampleUnitsWrong)

/-- 'flurrylaw06.SampleShare': WHATEVER THE INPUT: true; the input reads as it did. -/
def sampleShareSpec : ChangeSpec := { name := "sampleShare", fn := fun _ => fun
  | [d1, d2, d3, d4] => { results := [.lit (.bool true)], args := [d1, d2, d3, d4] }
  | _ => none }
def sampleShareRow : OpenClaim := { program := "ytmoafaaeeanofaa", sum := "bafe3eb77dd0ad881a59b23a1dabe0de06ac7d67d91b3b298776c629344b72d5", func := "flurry/flurrylaw06.SampleShare", spec := "sampleShare", inPlace := ["slices.overlaps[int64]"], apart := false }
def SampleShareSaid : Prop := sampleShareRow.holds Try.pinned (OpenSpec.ofChange sampleShareSpec)

/-- ITS FALSE NEIGHBOUR: 'it returns false'. Refute it at one input. -/
def sampleShareWrong : ChangeSpec := { name := "sampleShare", fn := fun _ => fun
  | [d1, d2, d3, d4] => { results := [.lit (.bool false)], args := [d1, d2, d3, d4] }
  | _ => none }
def SampleShareWrongFalsely : Prop := sampleShareRow.holds Try.pinned (OpenSpec.ofChange sampleShareWrong)

/-- 'flurrylaw06.SampleCounts': WHATEVER THE INPUT: true; the input reads as it did. -/
def sampleCountsSpec : ChangeSpec := { name := "sampleCounts", fn := fun _ => fun
  | [d1, d2, d3] => { results := [.lit (.bool true)], args := [d1, d2, d3] }
  | _ => none }
def sampleCountsRow : OpenClaim := { program := "ytmoafaaeeanofaa", sum := "bafe3eb77dd0ad881a59b23a1dabe0de06ac7d67d91b3b298776c629344b72d5", func := "flurry/flurrylaw06.SampleCounts", spec := "sampleCounts", inPlace := ["slices.overlaps[int64]"], unfollowed := true, recurses := true, apart := false }
def SampleCountsSaid : Prop := sampleCountsRow.holds Try.pinned (OpenSpec.ofChange sampleCountsSpec)

/-- ITS FALSE NEIGHBOUR: 'it returns false'. Refute it at one input. -/
def sampleCountsWrong : ChangeSpec := { name := "sampleCounts", fn := fun _ => fun
  | [d1, d2, d3] => { results := [.lit (.bool false)], args := [d1, d2, d3] }
  | _ => none }
def SampleCountsWrongFalsely : Prop := sampleCountsRow.holds Try.pinned (OpenSpec.ofChange sampleCountsWrong)

/-- 'flurrylaw06.SampleOnce': WHATEVER THE INPUT: true; the input reads as it did. -/
def sampleOnceSpec : ChangeSpec := { name := "sampleOnce", fn := fun _ => fun
  | [d1, d2, d3] => { results := [.lit (.bool true)], args := [d1, d2, d3] }
  | _ => none }
def sampleOnceRow : OpenClaim := { program := "ytmoafaaeeanofaa", sum := "bafe3eb77dd0ad881a59b23a1dabe0de06ac7d67d91b3b298776c629344b72d5", func := "flurry/flurrylaw06.SampleOnce", spec := "sampleOnce", inPlace := ["slices.overlaps[int64]"], recurses := true, apart := false }
def SampleOnceSaid : Prop := sampleOnceRow.holds Try.pinned (OpenSpec.ofChange sampleOnceSpec)

/-- ITS FALSE NEIGHBOUR: 'it returns false'. Refute it at one input. -/
def sampleOnceWrong : ChangeSpec := { name := "sampleOnce", fn := fun _ => fun
  | [d1, d2, d3] => { results := [.lit (.bool false)], args := [d1, d2, d3] }
  | _ => none }
def SampleOnceWrongFalsely : Prop := sampleOnceRow.holds Try.pinned (OpenSpec.ofChange sampleOnceWrong)

/- THE SECOND FORM. 'bulk': how many values and letters a reading holds, each counted each time it is reached (what is shared counts as often as it is met; a slice's spare places count too). A statement '..UptoSaid' is the law's where the arguments, and the package variables that the reading takes, are together of bulk at most 1048576: NARROWER than '..Said'. Prove '..Said' where nothing that the law and all that it calls make is longer than what came in: it says more and counts as full. Else prove '..UptoSaid'. A law counts once. -/
mutual
def uptoBulk {H : Type} : DataW H → Nat
  | .lit (.string bytes) => bytes.length + 1
  | .lit _ => 1
  | .nil => 1
  | .ptr d => uptoBulk d + 1
  | .slice elems spare => uptoBulkAll elems + uptoBulkAll spare + 1
  | .agg parts => uptoBulkAll parts + 1
  | .iface _ d => uptoBulk d + 1
  | .map entries => uptoBulkEntries entries + 1
  | .held _ => 1
def uptoBulkAll {H : Type} : List (DataW H) → Nat
  | [] => 0
  | d :: r => uptoBulk d + uptoBulkAll r
def uptoBulkEntries {H : Type} : List (Lit × DataW H) → Nat
  | [] => 0
  | x :: r => uptoBulkEntry x + uptoBulkEntries r
def uptoBulkEntry {H : Type} : Lit × DataW H → Nat
  | (.string bytes, d) => bytes.length + uptoBulk d + 1
  | (_, d) => uptoBulk d + 1
 end
def uptoSmall : (H : Type) → List (DataW H) → Bool := fun _ ds => decide (uptoBulkAll ds ≤ 1048576)
def OpenSpec.upto (s : _root_.Go.ChangeSpec) : _root_.Go.OpenSpec := { _root_.Go.OpenSpec.ofChange s with cond := some uptoSmall }

/-- 'flurrylaw06.SampleSlots', WHERE WHAT IT READS IS OF BULK AT MOST 1048576: true; the input reads as it did. -/
def sampleSlotsUptoRow : OpenClaim := { program := "ytmoafaaeeanofaa", sum := "bafe3eb77dd0ad881a59b23a1dabe0de06ac7d67d91b3b298776c629344b72d5", func := "flurry/flurrylaw06.SampleSlots", spec := "sampleSlots", inPlace := ["slices.overlaps[int64]"], apart := false, narrowed := true }
def SampleSlotsUptoSaid : Prop := sampleSlotsUptoRow.holds Try.pinned (OpenSpec.upto sampleSlotsSpec)

/-- 'flurrylaw06.SampleAny', WHERE WHAT IT READS IS OF BULK AT MOST 1048576: true; the input reads as it did. -/
def sampleAnyUptoRow : OpenClaim := { program := "ytmoafaaeeanofaa", sum := "bafe3eb77dd0ad881a59b23a1dabe0de06ac7d67d91b3b298776c629344b72d5", func := "flurry/flurrylaw06.SampleAny", spec := "sampleAny", inPlace := ["slices.overlaps[int64]"], apart := false, narrowed := true }
def SampleAnyUptoSaid : Prop := sampleAnyUptoRow.holds Try.pinned (OpenSpec.upto sampleAnySpec)

/-- 'flurrylaw06.SampleUnits', WHERE WHAT IT READS IS OF BULK AT MOST 1048576: true; the input reads as it did. -/
def sampleUnitsUptoRow : OpenClaim := { program := "ytmoafaaeeanofaa", sum := "bafe3eb77dd0ad881a59b23a1dabe0de06ac7d67d91b3b298776c629344b72d5", func := "flurry/flurrylaw06.SampleUnits", spec := "sampleUnits", inPlace := ["slices.overlaps[int64]"], apart := false, narrowed := true }
def SampleUnitsUptoSaid : Prop := sampleUnitsUptoRow.holds Try.pinned (OpenSpec.upto sampleUnitsSpec)

/-- 'flurrylaw06.SampleShare', WHERE WHAT IT READS IS OF BULK AT MOST 1048576: true; the input reads as it did. -/
def sampleShareUptoRow : OpenClaim := { program := "ytmoafaaeeanofaa", sum := "bafe3eb77dd0ad881a59b23a1dabe0de06ac7d67d91b3b298776c629344b72d5", func := "flurry/flurrylaw06.SampleShare", spec := "sampleShare", inPlace := ["slices.overlaps[int64]"], apart := false, narrowed := true }
def SampleShareUptoSaid : Prop := sampleShareUptoRow.holds Try.pinned (OpenSpec.upto sampleShareSpec)

/-- 'flurrylaw06.SampleCounts', WHERE WHAT IT READS IS OF BULK AT MOST 1048576: true; the input reads as it did. -/
def sampleCountsUptoRow : OpenClaim := { program := "ytmoafaaeeanofaa", sum := "bafe3eb77dd0ad881a59b23a1dabe0de06ac7d67d91b3b298776c629344b72d5", func := "flurry/flurrylaw06.SampleCounts", spec := "sampleCounts", inPlace := ["slices.overlaps[int64]"], unfollowed := true, recurses := true, apart := false, narrowed := true }
def SampleCountsUptoSaid : Prop := sampleCountsUptoRow.holds Try.pinned (OpenSpec.upto sampleCountsSpec)

/-- 'flurrylaw06.SampleOnce', WHERE WHAT IT READS IS OF BULK AT MOST 1048576: true; the input reads as it did. -/
def sampleOnceUptoRow : OpenClaim := { program := "ytmoafaaeeanofaa", sum := "bafe3eb77dd0ad881a59b23a1dabe0de06ac7d67d91b3b298776c629344b72d5", func := "flurry/flurrylaw06.SampleOnce", spec := "sampleOnce", inPlace := ["slices.overlaps[int64]"], recurses := true, apart := false, narrowed := true }
def SampleOnceUptoSaid : Prop := sampleOnceUptoRow.holds Try.pinned (OpenSpec.upto sampleOnceSpec)

end Rows
end Go.Proofs.Ytmoafaaeeanofaa
