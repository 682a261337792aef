/-
  Package fail: New, At, Code; septet.wrong. No condition.
-/
import Derived.Test.YtmifgjkikbgmiaaDoorErr
namespace Go.Proofs.YtmifgjkikbgmiaaDoor
set_option linter.unusedVariables false
open Go.RowKit Go.Extern.Stop Go.Stop Go.Extern

/-- The code of the sentinel at a place. -/
def sCode (i : Nat) : Int := if i < 18 then i + 1 else 99
end Go.Proofs.YtmifgjkikbgmiaaDoor
