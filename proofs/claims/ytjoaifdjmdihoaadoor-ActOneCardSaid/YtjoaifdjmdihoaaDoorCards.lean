/-
  DERIVED. GIVEN WITH THE SEED: THE CARDS: each row of YtjoaifdjmdihoaaDoorRows.lean that lists a variable, with what it lists TIED to the program's text (the seventh form; the later family's looks); each row that meets fmt, with fmt's text TOLD by the authors' own Lean function (tested against real Go, not proved from fmt's source: count such statements apart). THE CARD IS WHAT COUNTS. Prove the row's statement (the work); the ties are given (YtjoaifdjmdihoaaDoorTie.lean); close each card by the builder's one call (the guide's Derived/Test/ToyasCard.lean, 'card_holds'). Laid BY PROGRAM, IN A SANDBOX (cutbox-door.mjs). By AI agents, Wed Nov 11 2026. No macro, syntax, notation, axiom, sorry.
-/
import Derived.Test.YtjoaifdjmdihoaaDoorRows
import GoSem.ClaimSeven
namespace Go.Proofs.YtjoaifdjmdihoaaDoor
namespace Rows

/-- THE TIED CARD OF 'philtrelaw18.ActDoes'. -/
def actDoesCard : Claim7 := { stood := { row := actDoesRow, standIns := [], harness := (true, "f80d34e02ec01f560abd1347e2ed5a01aecec1786c327c290ec3c6ecb243bb6b"), looks := false }, kinds := [], alts := [], laidByText := true, laidKinds := [.data, .data, .data], laidTests := true, laidLooks := .later }
def ActDoesCardSaid : Prop := Claim7.holds Tryd.pinned (.plain (OpenSpec.ofChange actDoesSpec)) actDoesCard

/-- THE TIED CARD OF 'philtrelaw18.ActOne'. -/
def actOneCard : Claim7 := { stood := { row := actOneRow, standIns := [], harness := (true, "f80d34e02ec01f560abd1347e2ed5a01aecec1786c327c290ec3c6ecb243bb6b"), looks := false }, kinds := [], alts := [], laidByText := true, laidKinds := [.data, .data, .data], laidTests := true, laidLooks := .later }
def ActOneCardSaid : Prop := Claim7.holds Tryd.pinned (.plain (OpenSpec.ofChange actOneSpec)) actOneCard

/-- THE TIED CARD OF 'philtrelaw18.ActTexts'. -/
def actTextsCard : Claim7 := { stood := { row := actTextsRow, standIns := [], harness := (true, "f80d34e02ec01f560abd1347e2ed5a01aecec1786c327c290ec3c6ecb243bb6b"), looks := false }, kinds := [], alts := [], laidByText := true, laidKinds := [.data, .data, .data], laidTests := true, laidLooks := .later }
def ActTextsCardSaid : Prop := Claim7.holds Tryd.pinned (.plain (OpenSpec.ofChange actTextsSpec)) actTextsCard

/-- THE SECOND FORM's CARD OF 'philtrelaw18.ActDoes'. -/
def actDoesUptoCard : Claim7 := { stood := { row := actDoesUptoRow, standIns := [], harness := (true, "f80d34e02ec01f560abd1347e2ed5a01aecec1786c327c290ec3c6ecb243bb6b"), looks := false }, kinds := [], alts := [], laidByText := true, laidKinds := [.data, .data, .data], laidTests := true, laidLooks := .later }
def ActDoesUptoCardSaid : Prop := Claim7.holds Tryd.pinned (.plain (OpenSpec.upto actDoesSpec)) actDoesUptoCard

/-- THE SECOND FORM's CARD OF 'philtrelaw18.ActOne'. -/
def actOneUptoCard : Claim7 := { stood := { row := actOneUptoRow, standIns := [], harness := (true, "f80d34e02ec01f560abd1347e2ed5a01aecec1786c327c290ec3c6ecb243bb6b"), looks := false }, kinds := [], alts := [], laidByText := true, laidKinds := [.data, .data, .data], laidTests := true, laidLooks := .later }
def ActOneUptoCardSaid : Prop := Claim7.holds Tryd.pinned (.plain (OpenSpec.upto actOneSpec)) actOneUptoCard

/-- THE SECOND FORM's CARD OF 'philtrelaw18.ActTexts'. -/
def actTextsUptoCard : Claim7 := { stood := { row := actTextsUptoRow, standIns := [], harness := (true, "f80d34e02ec01f560abd1347e2ed5a01aecec1786c327c290ec3c6ecb243bb6b"), looks := false }, kinds := [], alts := [], laidByText := true, laidKinds := [.data, .data, .data], laidTests := true, laidLooks := .later }
def ActTextsUptoCardSaid : Prop := Claim7.holds Tryd.pinned (.plain (OpenSpec.upto actTextsSpec)) actTextsUptoCard
end Rows
end Go.Proofs.YtjoaifdjmdihoaaDoor
