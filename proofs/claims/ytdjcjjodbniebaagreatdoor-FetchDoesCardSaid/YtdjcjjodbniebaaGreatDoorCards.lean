/-
  DERIVED. GIVEN WITH THE SEED: THE CARDS: each row of YtdjcjjodbniebaaGreatDoorRows.lean that lists a variable, with what it lists TIED to the program's text (the seventh form; the later family's looks); each row that meets fmt, with fmt's text TOLD by the authors' own Lean function (tested against real Go, not proved from fmt's source: count such statements apart). THE CARD IS WHAT COUNTS. Prove the row's statement (the work); the ties are given (YtdjcjjodbniebaaGreatDoorTie.lean); close each card by the builder's one call (the guide's Derived/Test/ToyasCard.lean, 'card_holds'). Laid BY PROGRAM, IN A SANDBOX (cutbox-door.mjs). By AI agents, Wed Nov 11 2026. No macro, syntax, notation, axiom, sorry.
-/
import Derived.Test.YtdjcjjodbniebaaGreatDoorRows
import GoSem.ClaimSeven
namespace Go.Proofs.YtdjcjjodbniebaaGreatDoor
namespace Rows

/-- THE TIED CARD OF 'flurrylaw22.FetchSteps'. -/
def fetchStepsCard : Claim7 := { stood := { row := fetchStepsRow, standIns := [], harness := (true, "fdae579d8f2736de4d636e92ea38434049a6b8b4e7f105f96e7ce4c2ee005875"), looks := true }, kinds := [], alts := [], laidByText := true, laidKinds := [.data], laidTests := true, laidLooks := .later }
def FetchStepsCardSaid : Prop := Claim7.holds Tryz.pinned (.plain (OpenSpec.ofChange fetchStepsSpec)) fetchStepsCard

/-- THE TIED CARD OF 'flurrylaw22.FetchLinked'. -/
def fetchLinkedCard : Claim7 := { stood := { row := fetchLinkedRow, standIns := [], harness := (true, "fdae579d8f2736de4d636e92ea38434049a6b8b4e7f105f96e7ce4c2ee005875"), looks := true }, kinds := [], alts := [], laidByText := true, laidKinds := [.data], laidTests := true, laidLooks := .later }
def FetchLinkedCardSaid : Prop := Claim7.holds Tryz.pinned (.plain (OpenSpec.ofChange fetchLinkedSpec)) fetchLinkedCard

/-- THE TIED CARD OF 'flurrylaw22.FetchNone'. -/
def fetchNoneCard : Claim7 := { stood := { row := fetchNoneRow, standIns := [], harness := (true, "fdae579d8f2736de4d636e92ea38434049a6b8b4e7f105f96e7ce4c2ee005875"), looks := true }, kinds := [], alts := [], laidByText := true, laidKinds := [.data], laidTests := true, laidLooks := .later }
def FetchNoneCardSaid : Prop := Claim7.holds Tryz.pinned (.plain (OpenSpec.ofChange fetchNoneSpec)) fetchNoneCard

/-- THE TIED CARD OF 'flurrylaw22.FetchDoes'. -/
def fetchDoesCard : Claim7 := { stood := { row := fetchDoesRow, standIns := [], harness := (true, "fdae579d8f2736de4d636e92ea38434049a6b8b4e7f105f96e7ce4c2ee005875"), looks := true }, kinds := [], alts := [], laidByText := true, laidKinds := [.data], laidTests := true, laidLooks := .later }
def FetchDoesCardSaid : Prop := Claim7.holds Tryz.pinned (.plain (OpenSpec.ofChange fetchDoesSpec)) fetchDoesCard

/-- THE TIED CARD OF 'flurrylaw22.FetchTurns'. -/
def fetchTurnsCard : Claim7 := { stood := { row := fetchTurnsRow, standIns := [], harness := (true, "fdae579d8f2736de4d636e92ea38434049a6b8b4e7f105f96e7ce4c2ee005875"), looks := true }, kinds := [], alts := [], laidByText := true, laidKinds := [.data], laidTests := true, laidLooks := .later }
def FetchTurnsCardSaid : Prop := Claim7.holds Tryz.pinned (.plain (OpenSpec.ofChange fetchTurnsSpec)) fetchTurnsCard

/-- THE SECOND FORM's CARD OF 'flurrylaw22.FetchSteps'. -/
def fetchStepsUptoCard : Claim7 := { stood := { row := fetchStepsUptoRow, standIns := [], harness := (true, "fdae579d8f2736de4d636e92ea38434049a6b8b4e7f105f96e7ce4c2ee005875"), looks := true }, kinds := [], alts := [], laidByText := true, laidKinds := [.data], laidTests := true, laidLooks := .later }
def FetchStepsUptoCardSaid : Prop := Claim7.holds Tryz.pinned (.plain (OpenSpec.upto fetchStepsSpec)) fetchStepsUptoCard

/-- THE SECOND FORM's CARD OF 'flurrylaw22.FetchLinked'. -/
def fetchLinkedUptoCard : Claim7 := { stood := { row := fetchLinkedUptoRow, standIns := [], harness := (true, "fdae579d8f2736de4d636e92ea38434049a6b8b4e7f105f96e7ce4c2ee005875"), looks := true }, kinds := [], alts := [], laidByText := true, laidKinds := [.data], laidTests := true, laidLooks := .later }
def FetchLinkedUptoCardSaid : Prop := Claim7.holds Tryz.pinned (.plain (OpenSpec.upto fetchLinkedSpec)) fetchLinkedUptoCard

/-- THE SECOND FORM's CARD OF 'flurrylaw22.FetchNone'. -/
def fetchNoneUptoCard : Claim7 := { stood := { row := fetchNoneUptoRow, standIns := [], harness := (true, "fdae579d8f2736de4d636e92ea38434049a6b8b4e7f105f96e7ce4c2ee005875"), looks := true }, kinds := [], alts := [], laidByText := true, laidKinds := [.data], laidTests := true, laidLooks := .later }
def FetchNoneUptoCardSaid : Prop := Claim7.holds Tryz.pinned (.plain (OpenSpec.upto fetchNoneSpec)) fetchNoneUptoCard

/-- THE SECOND FORM's CARD OF 'flurrylaw22.FetchDoes'. -/
def fetchDoesUptoCard : Claim7 := { stood := { row := fetchDoesUptoRow, standIns := [], harness := (true, "fdae579d8f2736de4d636e92ea38434049a6b8b4e7f105f96e7ce4c2ee005875"), looks := true }, kinds := [], alts := [], laidByText := true, laidKinds := [.data], laidTests := true, laidLooks := .later }
def FetchDoesUptoCardSaid : Prop := Claim7.holds Tryz.pinned (.plain (OpenSpec.upto fetchDoesSpec)) fetchDoesUptoCard

/-- THE SECOND FORM's CARD OF 'flurrylaw22.FetchTurns'. -/
def fetchTurnsUptoCard : Claim7 := { stood := { row := fetchTurnsUptoRow, standIns := [], harness := (true, "fdae579d8f2736de4d636e92ea38434049a6b8b4e7f105f96e7ce4c2ee005875"), looks := true }, kinds := [], alts := [], laidByText := true, laidKinds := [.data], laidTests := true, laidLooks := .later }
def FetchTurnsUptoCardSaid : Prop := Claim7.holds Tryz.pinned (.plain (OpenSpec.upto fetchTurnsSpec)) fetchTurnsUptoCard
end Rows
end Go.Proofs.YtdjcjjodbniebaaGreatDoor
