/-
  DERIVED. GIVEN WITH THE SEED: THE CARDS: each row of YtmifgjkikbgmiaaDoorRows.lean that lists a variable, with what it lists TIED to the program's text (the seventh form; the later family's looks); each row that meets fmt, with fmt's text TOLD by the authors' own Lean function (tested against real Go, not proved from fmt's source: count such statements apart). THE CARD IS WHAT COUNTS. Prove the row's statement (the work); the ties are given (YtmifgjkikbgmiaaDoorTie.lean); close each card by the builder's one call (the guide's Derived/Test/ToyasCard.lean, 'card_holds'). Laid BY PROGRAM, IN A SANDBOX (cutbox-door.mjs). By AI agents, Wed Nov 11 2026. No macro, syntax, notation, axiom, sorry.
-/
import Derived.Test.YtmifgjkikbgmiaaDoorRows
import GoSem.ClaimSeven
namespace Go.Proofs.YtmifgjkikbgmiaaDoor
namespace Rows

/-- THE TIED CARD OF 'philtrelaw18.ActTexts'. -/
def actTextsCard : Claim7 := { stood := { row := actTextsRow, standIns := [], harness := (true, "a985adf30cd75c4f415f6210e16b93409641c37e0db9ddfa31b9101624e4ab16"), looks := false }, kinds := [], alts := [], laidByText := true, laidKinds := [.data, .data, .data], laidTests := true, laidLooks := .later }
def ActTextsCardSaid : Prop := Claim7.holds Tryd.pinned (.plain (OpenSpec.ofChange actTextsSpec)) actTextsCard

/-- THE SECOND FORM's CARD OF 'philtrelaw18.ActTexts'. -/
def actTextsUptoCard : Claim7 := { stood := { row := actTextsUptoRow, standIns := [], harness := (true, "a985adf30cd75c4f415f6210e16b93409641c37e0db9ddfa31b9101624e4ab16"), looks := false }, kinds := [], alts := [], laidByText := true, laidKinds := [.data, .data, .data], laidTests := true, laidLooks := .later }
def ActTextsUptoCardSaid : Prop := Claim7.holds Tryd.pinned (.plain (OpenSpec.upto actTextsSpec)) actTextsUptoCard
end Rows
end Go.Proofs.YtmifgjkikbgmiaaDoor
