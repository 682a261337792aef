/-
  A world in which the sentinels, errors.errorType, the library's tables and strconv's two sentinels lie: for the witnesses; and the table of powers, and strconv's sentinels, out of a row's list. No condition.
-/
import Derived.Test.YtpkkjoiglemlgaaGreatDoorDHandle
import Derived.Test.YtpkkjoiglemlgaaGreatDoorDTabR
namespace Go.Proofs.YtpkkjoiglemlgaaGreatDoor
set_option linter.unusedVariables false
open Go.ChangeShapes Go.WideShapes Go.ChangeAt Go.RowKit
noncomputable def laidWorldI (os : Os) : World :=
  let w0 := World.holding Tryz.prog os ⟨sentBlocks ++ #[Obj.cells #[.string ⟨#[118, 97, 108, 117, 101, 32, 111, 117, 116, 32, 111, 102, 32, 114, 97, 110, 103, 101]⟩] 244, Obj.cells #[.string ⟨#[105, 110, 118, 97, 108, 105, 100, 32, 115, 121, 110, 116, 97, 120]⟩] 244], #[], []⟩
  { w0 with heap := putVar (putVar (putVar (putVar (putVar (putVar (sentPut w0.heap) 8 #[.iface 173 (.agg #[.pointer (some ⟨26, 26, none⟩)])]) 23 #[.iface 242 (.pointer (some ⟨low + 19, 0, none⟩))]) 22 #[.iface 242 (.pointer (some ⟨low + 20, 0, none⟩))]) 21 (litValsQ Rows.laid_internal_strconv_uint64pow10)) 24 (litValsQ Rows.laid_math_bits_deBruijn32tab)) 25 (litValsQ Rows.laid_math_bits_deBruijn64tab) }
end Go.Proofs.YtpkkjoiglemlgaaGreatDoor
