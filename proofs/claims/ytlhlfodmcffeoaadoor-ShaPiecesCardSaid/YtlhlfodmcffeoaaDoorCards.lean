/-
  DERIVED. GIVEN WITH THE SEED: THE CARDS: each row of YtlhlfodmcffeoaaDoorRows.lean that lists a variable, with what it lists TIED to the program's text (the seventh form; the later family's looks); each row that meets fmt, with fmt's text TOLD by the authors' own Lean function (tested against real Go, not proved from fmt's source: count such statements apart). THE CARD IS WHAT COUNTS. Prove the row's statement (the work); the ties are given (YtlhlfodmcffeoaaDoorTie.lean); close each card by the builder's one call (the guide's Derived/Test/ToyasCard.lean, 'card_holds'). Laid BY PROGRAM, IN A SANDBOX (cutbox-door.mjs). By AI agents, Wed Nov 11 2026. No macro, syntax, notation, axiom, sorry.
-/
import Derived.Test.YtlhlfodmcffeoaaDoorRows
import GoSem.ClaimSeven
namespace Go.Proofs.YtlhlfodmcffeoaaDoor
namespace Rows

/-- THE TIED CARD OF 'flurrylaw02.ShaCompares'. -/
def shaComparesCard : Claim7 := { stood := { row := shaComparesRow, standIns := [], harness := (true, "1388493047067a75feee885b3093048f0d839bfb67bff7696977434771c733d0"), looks := false }, kinds := [], alts := [], laidByText := true, laidKinds := [.data], laidTests := true, laidLooks := .later }
def ShaComparesCardSaid : Prop := Claim7.holds Tryd.pinned (.plain (OpenSpec.ofChange shaComparesSpec)) shaComparesCard

/-- THE TIED CARD OF 'flurrylaw02.ShaOrder'. -/
def shaOrderCard : Claim7 := { stood := { row := shaOrderRow, standIns := [], harness := (true, "1388493047067a75feee885b3093048f0d839bfb67bff7696977434771c733d0"), looks := false }, kinds := [], alts := [], laidByText := true, laidKinds := [.data], laidTests := true, laidLooks := .later }
def ShaOrderCardSaid : Prop := Claim7.holds Tryd.pinned (.plain (OpenSpec.ofChange shaOrderSpec)) shaOrderCard

/-- THE TIED CARD OF 'flurrylaw02.ShaSums'. -/
def shaSumsCard : Claim7 := { stood := { row := shaSumsRow, standIns := [], harness := (true, "1388493047067a75feee885b3093048f0d839bfb67bff7696977434771c733d0"), looks := false }, kinds := [], alts := [], laidByText := true, laidKinds := [.data], laidTests := true, laidLooks := .later }
def ShaSumsCardSaid : Prop := Claim7.holds Tryd.pinned (.plain (OpenSpec.ofChange shaSumsSpec)) shaSumsCard

/-- THE TIED CARD OF 'flurrylaw02.ShaPieces'. -/
def shaPiecesCard : Claim7 := { stood := { row := shaPiecesRow, standIns := [], harness := (true, "1388493047067a75feee885b3093048f0d839bfb67bff7696977434771c733d0"), looks := false }, kinds := [], alts := [], laidByText := true, laidKinds := [.data], laidTests := true, laidLooks := .later }
def ShaPiecesCardSaid : Prop := Claim7.holds Tryd.pinned (.plain (OpenSpec.ofChange shaPiecesSpec)) shaPiecesCard

/-- THE TIED CARD OF 'flurrylaw02.ShaNone'. -/
def shaNoneCard : Claim7 := { stood := { row := shaNoneRow, standIns := [], harness := (true, "1388493047067a75feee885b3093048f0d839bfb67bff7696977434771c733d0"), looks := false }, kinds := [], alts := [], laidByText := true, laidKinds := [.data], laidTests := true, laidLooks := .later }
def ShaNoneCardSaid : Prop := Claim7.holds Tryd.pinned (.plain (OpenSpec.ofChange shaNoneSpec)) shaNoneCard

/-- THE TIED CARD OF 'flurrylaw02.ShaTexts'. -/
def shaTextsCard : Claim7 := { stood := { row := shaTextsRow, standIns := [], harness := (true, "1388493047067a75feee885b3093048f0d839bfb67bff7696977434771c733d0"), looks := false }, kinds := [], alts := [], laidByText := true, laidKinds := [.data], laidTests := true, laidLooks := .later }
def ShaTextsCardSaid : Prop := Claim7.holds Tryd.pinned (.plain (OpenSpec.ofChange shaTextsSpec)) shaTextsCard

/-- THE TIED CARD OF 'flurrylaw02.ShaBack'. -/
def shaBackCard : Claim7 := { stood := { row := shaBackRow, standIns := [], harness := (true, "1388493047067a75feee885b3093048f0d839bfb67bff7696977434771c733d0"), looks := false }, kinds := [], alts := [], laidByText := true, laidKinds := [.data], laidTests := true, laidLooks := .later }
def ShaBackCardSaid : Prop := Claim7.holds Tryd.pinned (.plain (OpenSpec.ofChange shaBackSpec)) shaBackCard

/-- THE SECOND FORM's CARD OF 'flurrylaw02.ShaCompares'. -/
def shaComparesUptoCard : Claim7 := { stood := { row := shaComparesUptoRow, standIns := [], harness := (true, "1388493047067a75feee885b3093048f0d839bfb67bff7696977434771c733d0"), looks := false }, kinds := [], alts := [], laidByText := true, laidKinds := [.data], laidTests := true, laidLooks := .later }
def ShaComparesUptoCardSaid : Prop := Claim7.holds Tryd.pinned (.plain (OpenSpec.upto shaComparesSpec)) shaComparesUptoCard

/-- THE SECOND FORM's CARD OF 'flurrylaw02.ShaOrder'. -/
def shaOrderUptoCard : Claim7 := { stood := { row := shaOrderUptoRow, standIns := [], harness := (true, "1388493047067a75feee885b3093048f0d839bfb67bff7696977434771c733d0"), looks := false }, kinds := [], alts := [], laidByText := true, laidKinds := [.data], laidTests := true, laidLooks := .later }
def ShaOrderUptoCardSaid : Prop := Claim7.holds Tryd.pinned (.plain (OpenSpec.upto shaOrderSpec)) shaOrderUptoCard

/-- THE SECOND FORM's CARD OF 'flurrylaw02.ShaSums'. -/
def shaSumsUptoCard : Claim7 := { stood := { row := shaSumsUptoRow, standIns := [], harness := (true, "1388493047067a75feee885b3093048f0d839bfb67bff7696977434771c733d0"), looks := false }, kinds := [], alts := [], laidByText := true, laidKinds := [.data], laidTests := true, laidLooks := .later }
def ShaSumsUptoCardSaid : Prop := Claim7.holds Tryd.pinned (.plain (OpenSpec.upto shaSumsSpec)) shaSumsUptoCard

/-- THE SECOND FORM's CARD OF 'flurrylaw02.ShaPieces'. -/
def shaPiecesUptoCard : Claim7 := { stood := { row := shaPiecesUptoRow, standIns := [], harness := (true, "1388493047067a75feee885b3093048f0d839bfb67bff7696977434771c733d0"), looks := false }, kinds := [], alts := [], laidByText := true, laidKinds := [.data], laidTests := true, laidLooks := .later }
def ShaPiecesUptoCardSaid : Prop := Claim7.holds Tryd.pinned (.plain (OpenSpec.upto shaPiecesSpec)) shaPiecesUptoCard

/-- THE SECOND FORM's CARD OF 'flurrylaw02.ShaNone'. -/
def shaNoneUptoCard : Claim7 := { stood := { row := shaNoneUptoRow, standIns := [], harness := (true, "1388493047067a75feee885b3093048f0d839bfb67bff7696977434771c733d0"), looks := false }, kinds := [], alts := [], laidByText := true, laidKinds := [.data], laidTests := true, laidLooks := .later }
def ShaNoneUptoCardSaid : Prop := Claim7.holds Tryd.pinned (.plain (OpenSpec.upto shaNoneSpec)) shaNoneUptoCard

/-- THE SECOND FORM's CARD OF 'flurrylaw02.ShaTexts'. -/
def shaTextsUptoCard : Claim7 := { stood := { row := shaTextsUptoRow, standIns := [], harness := (true, "1388493047067a75feee885b3093048f0d839bfb67bff7696977434771c733d0"), looks := false }, kinds := [], alts := [], laidByText := true, laidKinds := [.data], laidTests := true, laidLooks := .later }
def ShaTextsUptoCardSaid : Prop := Claim7.holds Tryd.pinned (.plain (OpenSpec.upto shaTextsSpec)) shaTextsUptoCard

/-- THE SECOND FORM's CARD OF 'flurrylaw02.ShaBack'. -/
def shaBackUptoCard : Claim7 := { stood := { row := shaBackUptoRow, standIns := [], harness := (true, "1388493047067a75feee885b3093048f0d839bfb67bff7696977434771c733d0"), looks := false }, kinds := [], alts := [], laidByText := true, laidKinds := [.data], laidTests := true, laidLooks := .later }
def ShaBackUptoCardSaid : Prop := Claim7.holds Tryd.pinned (.plain (OpenSpec.upto shaBackSpec)) shaBackUptoCard
end Rows
end Go.Proofs.YtlhlfodmcffeoaaDoor
