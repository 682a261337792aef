/-
  DERIVED. GIVEN WITH THE SEED: THE CARDS: each row of YtgnjjlbdiagklaaDoorRows.lean that lists a variable, with what it lists TIED to the program's text (the seventh form; the later family's looks); each row that meets fmt, with fmt's text TOLD by the authors' own Lean function (tested against real Go, not proved from fmt's source: count such statements apart). THE CARD IS WHAT COUNTS. Prove the row's statement (the work); the ties are given (YtgnjjlbdiagklaaDoorTie.lean); close each card by the builder's one call (the guide's Derived/Test/ToyasCard.lean, 'card_holds'). Laid BY PROGRAM, IN A SANDBOX (cutbox-door.mjs). By AI agents, Wed Nov 11 2026. No macro, syntax, notation, axiom, sorry.
-/
import Derived.Test.YtgnjjlbdiagklaaDoorRows
import GoSem.ClaimSeven
namespace Go.Proofs.YtgnjjlbdiagklaaDoor
namespace Rows

/-- THE TIED CARD OF 'philtrelaw02.SeptetPuts'. -/
def septetPutsCard : Claim7 := { stood := { row := septetPutsRow, standIns := [], harness := (true, "eb6d3f9c172e2bc72bcbd82845ce1c6aa040c37c3c6765d86c35bb6bfff041ad"), looks := true }, kinds := [], alts := [], laidByText := true, laidKinds := [.sentinel, .sentinel, .sentinel, .sentinel, .sentinel, .sentinel, .sentinel, .sentinel, .sentinel, .sentinel, .sentinel, .sentinel, .sentinel, .sentinel, .sentinel, .sentinel, .sentinel, .sentinel, .sentinel], laidTests := true, laidLooks := .later }
def SeptetPutsCardSaid : Prop := Claim7.holds Tryd.pinned (.plain (OpenSpec.ofChange septetPutsSpec)) septetPutsCard

/-- THE TIED CARD OF 'philtrelaw02.SeptetBack'. -/
def septetBackCard : Claim7 := { stood := { row := septetBackRow, standIns := [], harness := (true, "eb6d3f9c172e2bc72bcbd82845ce1c6aa040c37c3c6765d86c35bb6bfff041ad"), looks := true }, kinds := [], alts := [], laidByText := true, laidKinds := [.sentinel, .sentinel, .sentinel, .sentinel, .sentinel, .sentinel, .sentinel, .sentinel, .sentinel, .sentinel, .sentinel, .sentinel, .sentinel, .sentinel, .sentinel, .sentinel, .sentinel, .sentinel, .sentinel], laidTests := true, laidLooks := .later }
def SeptetBackCardSaid : Prop := Claim7.holds Tryd.pinned (.plain (OpenSpec.ofChange septetBackSpec)) septetBackCard

/-- THE TIED CARD OF 'philtrelaw02.SeptetTexts'. -/
def septetTextsCard : Claim7 := { stood := { row := septetTextsRow, standIns := [], harness := (true, "eb6d3f9c172e2bc72bcbd82845ce1c6aa040c37c3c6765d86c35bb6bfff041ad"), looks := true }, kinds := [], alts := [], laidByText := true, laidKinds := [.handle, .sentinel, .sentinel, .sentinel, .sentinel, .sentinel, .sentinel, .sentinel, .sentinel, .sentinel, .sentinel, .sentinel, .sentinel, .sentinel, .sentinel, .sentinel, .sentinel, .sentinel, .sentinel, .sentinel], laidTests := true, laidLooks := .later }
def SeptetTextsCardSaid : Prop := Claim7.holds Tryd.pinned (.plain (OpenSpec.ofChange septetTextsSpec)) septetTextsCard

/-- THE TIED CARD OF 'philtrelaw02.SeptetTakes'. -/
def septetTakesCard : Claim7 := { stood := { row := septetTakesRow, standIns := [], harness := (true, "eb6d3f9c172e2bc72bcbd82845ce1c6aa040c37c3c6765d86c35bb6bfff041ad"), looks := true }, kinds := [], alts := [], laidByText := true, laidKinds := [.handle, .sentinel, .sentinel, .sentinel, .sentinel, .sentinel, .sentinel, .sentinel, .sentinel, .sentinel, .sentinel, .sentinel, .sentinel, .sentinel, .sentinel, .sentinel, .sentinel, .sentinel, .sentinel, .sentinel], laidTests := true, laidLooks := .later }
def SeptetTakesCardSaid : Prop := Claim7.holds Tryd.pinned (.plain (OpenSpec.ofChange septetTakesSpec)) septetTakesCard

/-- THE TIED CARD OF 'philtrelaw01.FailTells'. -/
def failTellsCard : Claim7 := { stood := { row := failTellsRow, standIns := [], harness := (true, "eb6d3f9c172e2bc72bcbd82845ce1c6aa040c37c3c6765d86c35bb6bfff041ad"), looks := true }, kinds := [], alts := [], laidByText := true, laidKinds := [.data, .data, .data, .handle, .sentinel, .sentinel, .sentinel, .sentinel, .sentinel, .sentinel, .sentinel, .sentinel, .sentinel, .sentinel, .sentinel, .sentinel, .sentinel, .sentinel, .sentinel, .sentinel, .sentinel, .sentinel, .sentinel], laidTests := true, laidLooks := .later }
def FailTellsCardSaid : Prop := Claim7.holds Tryd.pinned (.plain (OpenSpec.ofChange failTellsSpec)) failTellsCard

/-- THE TIED CARD OF 'philtrelaw01.FailBack'. -/
def failBackCard : Claim7 := { stood := { row := failBackRow, standIns := [], harness := (true, "eb6d3f9c172e2bc72bcbd82845ce1c6aa040c37c3c6765d86c35bb6bfff041ad"), looks := true }, kinds := [], alts := [], laidByText := true, laidKinds := [.data, .data, .data, .handle, .sentinel, .sentinel, .sentinel, .sentinel, .sentinel, .sentinel, .sentinel, .sentinel, .sentinel, .sentinel, .sentinel, .sentinel, .sentinel, .sentinel, .sentinel, .sentinel, .sentinel, .sentinel, .sentinel], laidTests := true, laidLooks := .later }
def FailBackCardSaid : Prop := Claim7.holds Tryd.pinned (.plain (OpenSpec.ofChange failBackSpec)) failBackCard

/-- THE TIED CARD OF 'philtrelaw01.FailApart'. -/
def failApartCard : Claim7 := { stood := { row := failApartRow, standIns := [], harness := (true, "eb6d3f9c172e2bc72bcbd82845ce1c6aa040c37c3c6765d86c35bb6bfff041ad"), looks := true }, kinds := [], alts := [], laidByText := true, laidKinds := [.data, .data, .data, .handle, .sentinel, .sentinel, .sentinel, .sentinel, .sentinel, .sentinel, .sentinel, .sentinel, .sentinel, .sentinel, .sentinel, .sentinel, .sentinel, .sentinel, .sentinel, .sentinel, .sentinel, .sentinel, .sentinel], laidTests := true, laidLooks := .later }
def FailApartCardSaid : Prop := Claim7.holds Tryd.pinned (.plain (OpenSpec.ofChange failApartSpec)) failApartCard

/-- THE TIED CARD OF 'philtrelaw04.QuoteTells'. -/
def quoteTellsCard : Claim7 := { stood := { row := quoteTellsRow, standIns := [], harness := (true, "eb6d3f9c172e2bc72bcbd82845ce1c6aa040c37c3c6765d86c35bb6bfff041ad"), looks := true }, kinds := [], alts := [], laidByText := true, laidKinds := [.data, .handle, .sentinel, .sentinel, .sentinel, .sentinel, .sentinel, .sentinel, .sentinel, .sentinel, .sentinel, .sentinel, .sentinel, .sentinel, .sentinel, .sentinel, .sentinel, .sentinel, .sentinel, .sentinel, .sentinel, .pinned], laidTests := true, laidLooks := .later }
def QuoteTellsCardSaid : Prop := Claim7.holds Tryd.pinned (.plain (OpenSpec.ofChange quoteTellsSpec)) quoteTellsCard

/-- THE TIED CARD OF 'philtrelaw04.QuoteBack'. -/
def quoteBackCard : Claim7 := { stood := { row := quoteBackRow, standIns := [], harness := (true, "eb6d3f9c172e2bc72bcbd82845ce1c6aa040c37c3c6765d86c35bb6bfff041ad"), looks := true }, kinds := [], alts := [], laidByText := true, laidKinds := [.data, .handle, .sentinel, .sentinel, .sentinel, .sentinel, .sentinel, .sentinel, .sentinel, .sentinel, .sentinel, .sentinel, .sentinel, .sentinel, .sentinel, .sentinel, .sentinel, .sentinel, .sentinel, .sentinel, .sentinel, .pinned], laidTests := true, laidLooks := .later }
def QuoteBackCardSaid : Prop := Claim7.holds Tryd.pinned (.plain (OpenSpec.ofChange quoteBackSpec)) quoteBackCard

/-- THE TIED CARD OF 'philtrelaw04.QuoteLines'. -/
def quoteLinesCard : Claim7 := { stood := { row := quoteLinesRow, standIns := [], harness := (true, "eb6d3f9c172e2bc72bcbd82845ce1c6aa040c37c3c6765d86c35bb6bfff041ad"), looks := true }, kinds := [], alts := [], laidByText := true, laidKinds := [.data, .handle, .sentinel, .sentinel, .sentinel, .sentinel, .sentinel, .sentinel, .sentinel, .sentinel, .sentinel, .sentinel, .sentinel, .sentinel, .sentinel, .sentinel, .sentinel, .sentinel, .sentinel, .sentinel, .sentinel, .pinned], laidTests := true, laidLooks := .later }
def QuoteLinesCardSaid : Prop := Claim7.holds Tryd.pinned (.plain (OpenSpec.ofChange quoteLinesSpec)) quoteLinesCard

/-- THE SECOND FORM's CARD OF 'philtrelaw02.SeptetPuts'. -/
def septetPutsUptoCard : Claim7 := { stood := { row := septetPutsUptoRow, standIns := [], harness := (true, "eb6d3f9c172e2bc72bcbd82845ce1c6aa040c37c3c6765d86c35bb6bfff041ad"), looks := true }, kinds := [], alts := [], laidByText := true, laidKinds := [.sentinel, .sentinel, .sentinel, .sentinel, .sentinel, .sentinel, .sentinel, .sentinel, .sentinel, .sentinel, .sentinel, .sentinel, .sentinel, .sentinel, .sentinel, .sentinel, .sentinel, .sentinel, .sentinel], laidTests := true, laidLooks := .later }
def SeptetPutsUptoCardSaid : Prop := Claim7.holds Tryd.pinned (.plain (OpenSpec.upto septetPutsSpec)) septetPutsUptoCard

/-- THE SECOND FORM's CARD OF 'philtrelaw02.SeptetBack'. -/
def septetBackUptoCard : Claim7 := { stood := { row := septetBackUptoRow, standIns := [], harness := (true, "eb6d3f9c172e2bc72bcbd82845ce1c6aa040c37c3c6765d86c35bb6bfff041ad"), looks := true }, kinds := [], alts := [], laidByText := true, laidKinds := [.sentinel, .sentinel, .sentinel, .sentinel, .sentinel, .sentinel, .sentinel, .sentinel, .sentinel, .sentinel, .sentinel, .sentinel, .sentinel, .sentinel, .sentinel, .sentinel, .sentinel, .sentinel, .sentinel], laidTests := true, laidLooks := .later }
def SeptetBackUptoCardSaid : Prop := Claim7.holds Tryd.pinned (.plain (OpenSpec.upto septetBackSpec)) septetBackUptoCard

/-- THE SECOND FORM's CARD OF 'philtrelaw02.SeptetTexts'. -/
def septetTextsUptoCard : Claim7 := { stood := { row := septetTextsUptoRow, standIns := [], harness := (true, "eb6d3f9c172e2bc72bcbd82845ce1c6aa040c37c3c6765d86c35bb6bfff041ad"), looks := true }, kinds := [], alts := [], laidByText := true, laidKinds := [.handle, .sentinel, .sentinel, .sentinel, .sentinel, .sentinel, .sentinel, .sentinel, .sentinel, .sentinel, .sentinel, .sentinel, .sentinel, .sentinel, .sentinel, .sentinel, .sentinel, .sentinel, .sentinel, .sentinel], laidTests := true, laidLooks := .later }
def SeptetTextsUptoCardSaid : Prop := Claim7.holds Tryd.pinned (.plain (OpenSpec.upto septetTextsSpec)) septetTextsUptoCard

/-- THE SECOND FORM's CARD OF 'philtrelaw02.SeptetTakes'. -/
def septetTakesUptoCard : Claim7 := { stood := { row := septetTakesUptoRow, standIns := [], harness := (true, "eb6d3f9c172e2bc72bcbd82845ce1c6aa040c37c3c6765d86c35bb6bfff041ad"), looks := true }, kinds := [], alts := [], laidByText := true, laidKinds := [.handle, .sentinel, .sentinel, .sentinel, .sentinel, .sentinel, .sentinel, .sentinel, .sentinel, .sentinel, .sentinel, .sentinel, .sentinel, .sentinel, .sentinel, .sentinel, .sentinel, .sentinel, .sentinel, .sentinel], laidTests := true, laidLooks := .later }
def SeptetTakesUptoCardSaid : Prop := Claim7.holds Tryd.pinned (.plain (OpenSpec.upto septetTakesSpec)) septetTakesUptoCard

/-- THE SECOND FORM's CARD OF 'philtrelaw01.FailTells'. -/
def failTellsUptoCard : Claim7 := { stood := { row := failTellsUptoRow, standIns := [], harness := (true, "eb6d3f9c172e2bc72bcbd82845ce1c6aa040c37c3c6765d86c35bb6bfff041ad"), looks := true }, kinds := [], alts := [], laidByText := true, laidKinds := [.data, .data, .data, .handle, .sentinel, .sentinel, .sentinel, .sentinel, .sentinel, .sentinel, .sentinel, .sentinel, .sentinel, .sentinel, .sentinel, .sentinel, .sentinel, .sentinel, .sentinel, .sentinel, .sentinel, .sentinel, .sentinel], laidTests := true, laidLooks := .later }
def FailTellsUptoCardSaid : Prop := Claim7.holds Tryd.pinned (.plain (OpenSpec.upto failTellsSpec)) failTellsUptoCard

/-- THE SECOND FORM's CARD OF 'philtrelaw01.FailBack'. -/
def failBackUptoCard : Claim7 := { stood := { row := failBackUptoRow, standIns := [], harness := (true, "eb6d3f9c172e2bc72bcbd82845ce1c6aa040c37c3c6765d86c35bb6bfff041ad"), looks := true }, kinds := [], alts := [], laidByText := true, laidKinds := [.data, .data, .data, .handle, .sentinel, .sentinel, .sentinel, .sentinel, .sentinel, .sentinel, .sentinel, .sentinel, .sentinel, .sentinel, .sentinel, .sentinel, .sentinel, .sentinel, .sentinel, .sentinel, .sentinel, .sentinel, .sentinel], laidTests := true, laidLooks := .later }
def FailBackUptoCardSaid : Prop := Claim7.holds Tryd.pinned (.plain (OpenSpec.upto failBackSpec)) failBackUptoCard

/-- THE SECOND FORM's CARD OF 'philtrelaw01.FailApart'. -/
def failApartUptoCard : Claim7 := { stood := { row := failApartUptoRow, standIns := [], harness := (true, "eb6d3f9c172e2bc72bcbd82845ce1c6aa040c37c3c6765d86c35bb6bfff041ad"), looks := true }, kinds := [], alts := [], laidByText := true, laidKinds := [.data, .data, .data, .handle, .sentinel, .sentinel, .sentinel, .sentinel, .sentinel, .sentinel, .sentinel, .sentinel, .sentinel, .sentinel, .sentinel, .sentinel, .sentinel, .sentinel, .sentinel, .sentinel, .sentinel, .sentinel, .sentinel], laidTests := true, laidLooks := .later }
def FailApartUptoCardSaid : Prop := Claim7.holds Tryd.pinned (.plain (OpenSpec.upto failApartSpec)) failApartUptoCard

/-- THE SECOND FORM's CARD OF 'philtrelaw04.QuoteTells'. -/
def quoteTellsUptoCard : Claim7 := { stood := { row := quoteTellsUptoRow, standIns := [], harness := (true, "eb6d3f9c172e2bc72bcbd82845ce1c6aa040c37c3c6765d86c35bb6bfff041ad"), looks := true }, kinds := [], alts := [], laidByText := true, laidKinds := [.data, .handle, .sentinel, .sentinel, .sentinel, .sentinel, .sentinel, .sentinel, .sentinel, .sentinel, .sentinel, .sentinel, .sentinel, .sentinel, .sentinel, .sentinel, .sentinel, .sentinel, .sentinel, .sentinel, .sentinel, .pinned], laidTests := true, laidLooks := .later }
def QuoteTellsUptoCardSaid : Prop := Claim7.holds Tryd.pinned (.plain (OpenSpec.upto quoteTellsSpec)) quoteTellsUptoCard

/-- THE SECOND FORM's CARD OF 'philtrelaw04.QuoteBack'. -/
def quoteBackUptoCard : Claim7 := { stood := { row := quoteBackUptoRow, standIns := [], harness := (true, "eb6d3f9c172e2bc72bcbd82845ce1c6aa040c37c3c6765d86c35bb6bfff041ad"), looks := true }, kinds := [], alts := [], laidByText := true, laidKinds := [.data, .handle, .sentinel, .sentinel, .sentinel, .sentinel, .sentinel, .sentinel, .sentinel, .sentinel, .sentinel, .sentinel, .sentinel, .sentinel, .sentinel, .sentinel, .sentinel, .sentinel, .sentinel, .sentinel, .sentinel, .pinned], laidTests := true, laidLooks := .later }
def QuoteBackUptoCardSaid : Prop := Claim7.holds Tryd.pinned (.plain (OpenSpec.upto quoteBackSpec)) quoteBackUptoCard

/-- THE SECOND FORM's CARD OF 'philtrelaw04.QuoteLines'. -/
def quoteLinesUptoCard : Claim7 := { stood := { row := quoteLinesUptoRow, standIns := [], harness := (true, "eb6d3f9c172e2bc72bcbd82845ce1c6aa040c37c3c6765d86c35bb6bfff041ad"), looks := true }, kinds := [], alts := [], laidByText := true, laidKinds := [.data, .handle, .sentinel, .sentinel, .sentinel, .sentinel, .sentinel, .sentinel, .sentinel, .sentinel, .sentinel, .sentinel, .sentinel, .sentinel, .sentinel, .sentinel, .sentinel, .sentinel, .sentinel, .sentinel, .sentinel, .pinned], laidTests := true, laidLooks := .later }
def QuoteLinesUptoCardSaid : Prop := Claim7.holds Tryd.pinned (.plain (OpenSpec.upto quoteLinesSpec)) quoteLinesUptoCard
end Rows
end Go.Proofs.YtgnjjlbdiagklaaDoor
