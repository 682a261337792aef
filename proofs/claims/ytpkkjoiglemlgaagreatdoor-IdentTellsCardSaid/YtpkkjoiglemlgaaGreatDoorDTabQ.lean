/-
  A world in which the library's tables lie, of a program that holds no sentinels: for the witnesses. No condition.
-/
import Derived.Test.YtpkkjoiglemlgaaGreatDoorDWorld
import Derived.Test.YtpkkjoiglemlgaaGreatDoorRows
namespace Go.Proofs.YtpkkjoiglemlgaaGreatDoor
set_option linter.unusedVariables false
def litValsQ : DataW Unit → Array Value
  | .agg ps => (ps.map fun | .lit (.int k n) => .int k n | _ => undef).toArray
  | _ => #[]
noncomputable def laidWorldQ (os : Os) : World :=
  let w0 := World.holding Tryz.prog os ⟨#[], #[], []⟩
  { w0 with heap := putVar (putVar (putVar w0.heap 21 (litValsQ Rows.laid_internal_strconv_uint64pow10)) 24 (litValsQ Rows.laid_math_bits_deBruijn32tab)) 25 (litValsQ Rows.laid_math_bits_deBruijn64tab) }
end Go.Proofs.YtpkkjoiglemlgaaGreatDoor
