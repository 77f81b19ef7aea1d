/-
  DERIVED. GIVEN WITH THE SEED: THE CARDS: each row of YtjjopoigbonjbaaGreatDoorRows.lean that lists a variable, with what it lists TIED to the program's text (the seventh form; the later family's looks); each row that meets fmt, with fmt's text TOLD by the authors' own Lean function (tested against real Go, not proved from fmt's source: count such statements apart). THE CARD IS WHAT COUNTS. Prove the row's statement (the work); the ties are given (YtjjopoigbonjbaaGreatDoorTie.lean); close each card by the builder's one call (the guide's Derived/Test/ToyasCard.lean, 'card_holds'). Laid BY PROGRAM, IN A SANDBOX (cutbox-door.mjs). By AI agents, Wed Nov 11 2026. No macro, syntax, notation, axiom, sorry.
-/
import Derived.Test.YtjjopoigbonjbaaGreatDoorRows
import GoSem.ClaimSeven
namespace Go.Proofs.YtjjopoigbonjbaaGreatDoor
namespace Rows

/-- THE TIED CARD OF 'flurrylaw28.HouseTexts'. -/
def houseTextsCard : Claim7 := { stood := { row := houseTextsRow, standIns := [], harness := (true, "a2a0a84e6ab33a3ed0cfc395cedd323320f0ca1278a2d2341e2ceeceea7a3aee"), looks := true }, kinds := [], alts := [], laidByText := true, laidKinds := [.data, .data, .data, .data], laidTests := true, laidLooks := .later }
def HouseTextsCardSaid : Prop := Claim7.holds Tryz.pinned (.plain (OpenSpec.ofChange houseTextsSpec)) houseTextsCard

/-- THE SECOND FORM's CARD OF 'flurrylaw28.HouseTexts'. -/
def houseTextsUptoCard : Claim7 := { stood := { row := houseTextsUptoRow, standIns := [], harness := (true, "a2a0a84e6ab33a3ed0cfc395cedd323320f0ca1278a2d2341e2ceeceea7a3aee"), looks := true }, kinds := [], alts := [], laidByText := true, laidKinds := [.data, .data, .data, .data], laidTests := true, laidLooks := .later }
def HouseTextsUptoCardSaid : Prop := Claim7.holds Tryz.pinned (.plain (OpenSpec.upto houseTextsSpec)) houseTextsUptoCard
end Rows
end Go.Proofs.YtjjopoigbonjbaaGreatDoor
