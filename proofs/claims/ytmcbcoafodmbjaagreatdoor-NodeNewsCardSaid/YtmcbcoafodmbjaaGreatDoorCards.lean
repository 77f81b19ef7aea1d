/-
  DERIVED. GIVEN WITH THE SEED: THE CARDS: each row of YtmcbcoafodmbjaaGreatDoorRows.lean that lists a variable, with what it lists TIED to the program's text (the seventh form; the later family's looks); each row that meets fmt, with fmt's text TOLD by the authors' own Lean function (tested against real Go, not proved from fmt's source: count such statements apart). THE CARD IS WHAT COUNTS. Prove the row's statement (the work); the ties are given (YtmcbcoafodmbjaaGreatDoorTie.lean); close each card by the builder's one call (the guide's Derived/Test/ToyasCard.lean, 'card_holds'). Laid BY PROGRAM, IN A SANDBOX (cutbox-door.mjs). By AI agents, Wed Nov 11 2026. No macro, syntax, notation, axiom, sorry.
-/
import Derived.Test.YtmcbcoafodmbjaaGreatDoorRows
import GoSem.ClaimSeven
namespace Go.Proofs.YtmcbcoafodmbjaaGreatDoor
namespace Rows

/-- THE TIED CARD OF 'flurrylaw24.NodeNews'. -/
def nodeNewsCard : Claim7 := { stood := { row := nodeNewsRow, standIns := [], harness := (true, "6750f8d2a6b16f442c4c9d87da920b2d7e0ce96342de3bcf22d1d896c0597b37"), looks := true }, kinds := [], alts := [], laidByText := true, laidKinds := [.data], laidTests := true, laidLooks := .later }
def NodeNewsCardSaid : Prop := Claim7.holds Tryz.pinned (.plain (OpenSpec.ofChange nodeNewsSpec)) nodeNewsCard

/-- THE SECOND FORM's CARD OF 'flurrylaw24.NodeNews'. -/
def nodeNewsUptoCard : Claim7 := { stood := { row := nodeNewsUptoRow, standIns := [], harness := (true, "6750f8d2a6b16f442c4c9d87da920b2d7e0ce96342de3bcf22d1d896c0597b37"), looks := true }, kinds := [], alts := [], laidByText := true, laidKinds := [.data], laidTests := true, laidLooks := .later }
def NodeNewsUptoCardSaid : Prop := Claim7.holds Tryz.pinned (.plain (OpenSpec.upto nodeNewsSpec)) nodeNewsUptoCard
end Rows
end Go.Proofs.YtmcbcoafodmbjaaGreatDoor
