/-
  DERIVED. GIVEN WITH THE SEED: THE CARDS: each row of YtoabdejoabfbeaaDoorRows.lean that lists a variable, with what it lists TIED to the program's text (the seventh form; the later family's looks); each row that meets fmt, with fmt's text TOLD by the authors' own Lean function (tested against real Go, not proved from fmt's source: count such statements apart). THE CARD IS WHAT COUNTS. Prove the row's statement (the work); the ties are given (YtoabdejoabfbeaaDoorTie.lean); close each card by the builder's one call (the guide's Derived/Test/ToyasCard.lean, 'card_holds'). Laid BY PROGRAM, IN A SANDBOX (cutbox-door.mjs). By AI agents, Wed Nov 11 2026. No macro, syntax, notation, axiom, sorry.
-/
import Derived.Test.YtoabdejoabfbeaaDoorRows
import GoSem.ClaimSeven
namespace Go.Proofs.YtoabdejoabfbeaaDoor
namespace Rows

/-- THE TIED CARD OF 'flurrylaw05.VdrTexts'. -/
def vdrTextsCard : Claim7 := { stood := { row := vdrTextsRow, standIns := [], harness := (true, "713336f31c6e806cfd789a2024c67b7b579fb30dad0b304c56150ef7a4a002fa"), looks := false }, kinds := [], alts := [], laidByText := true, laidKinds := [.data, .data, .data], laidTests := true, laidLooks := .later }
def VdrTextsCardSaid : Prop := Claim7.holds Tryd.pinned (.plain (OpenSpec.ofChange vdrTextsSpec)) vdrTextsCard

/-- THE TIED CARD OF 'flurrylaw05.VdrBack'. -/
def vdrBackCard : Claim7 := { stood := { row := vdrBackRow, standIns := [], harness := (true, "713336f31c6e806cfd789a2024c67b7b579fb30dad0b304c56150ef7a4a002fa"), looks := false }, kinds := [], alts := [], laidByText := true, laidKinds := [.data, .data, .data], laidTests := true, laidLooks := .later }
def VdrBackCardSaid : Prop := Claim7.holds Tryd.pinned (.plain (OpenSpec.ofChange vdrBackSpec)) vdrBackCard

/-- THE SECOND FORM's CARD OF 'flurrylaw05.VdrTexts'. -/
def vdrTextsUptoCard : Claim7 := { stood := { row := vdrTextsUptoRow, standIns := [], harness := (true, "713336f31c6e806cfd789a2024c67b7b579fb30dad0b304c56150ef7a4a002fa"), looks := false }, kinds := [], alts := [], laidByText := true, laidKinds := [.data, .data, .data], laidTests := true, laidLooks := .later }
def VdrTextsUptoCardSaid : Prop := Claim7.holds Tryd.pinned (.plain (OpenSpec.upto vdrTextsSpec)) vdrTextsUptoCard

/-- THE SECOND FORM's CARD OF 'flurrylaw05.VdrBack'. -/
def vdrBackUptoCard : Claim7 := { stood := { row := vdrBackUptoRow, standIns := [], harness := (true, "713336f31c6e806cfd789a2024c67b7b579fb30dad0b304c56150ef7a4a002fa"), looks := false }, kinds := [], alts := [], laidByText := true, laidKinds := [.data, .data, .data], laidTests := true, laidLooks := .later }
def VdrBackUptoCardSaid : Prop := Claim7.holds Tryd.pinned (.plain (OpenSpec.upto vdrBackSpec)) vdrBackUptoCard
end Rows
end Go.Proofs.YtoabdejoabfbeaaDoor
