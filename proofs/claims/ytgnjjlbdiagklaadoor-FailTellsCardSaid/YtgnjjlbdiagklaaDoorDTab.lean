/-
  The library's tables out of a row's list; a world in which they lie. No condition.
-/
import Derived.Test.YtgnjjlbdiagklaaDoorDHandle
import Derived.Test.YtgnjjlbdiagklaaDoorFailText
namespace Go.Proofs.YtgnjjlbdiagklaaDoor
set_option linter.unusedVariables false
open Go.ChangeShapes Go.WideShapes Go.ChangeAt Go.RowKit
theorem ptType : (Tryd.prog.globals[21]?).map (·.type) = some 151 := by kernel_rfl
theorem ptab_of_laid {W : World} {rest : List (String × DataW Unit)} (h : laidMet Tryd.prog (("internal/strconv.uint64pow10", Rows.laid_internal_strconv_uint64pow10) :: rest) W) : PTab W :=
  Lib.tabIs_of_head ptGlobal ptType Tryd.underlying151 Tryd.underlying22 (by kernel_rfl) (by kernel_rfl)
    (by have e : (Rows.laid_internal_strconv_uint64pow10 : DataW Unit) = Lib.tabData .u64 Lib.pow10Tab := by kernel_rfl
        rw [e] at h
        exact h)
def litVals : DataW Unit → Array Value
  | .agg ps => (ps.map fun | .lit (.int k n) => .int k n | _ => undef).toArray
  | _ => #[]
noncomputable def laidWorldP (os : Os) : World :=
  let w0 := laidWorldT os
  { w0 with heap := putVar (putVar (putVar w0.heap 21 (litVals Rows.laid_internal_strconv_uint64pow10)) 22 (litVals Rows.laid_math_bits_deBruijn32tab)) 23 (litVals Rows.laid_math_bits_deBruijn64tab) }
end Go.Proofs.YtgnjjlbdiagklaaDoor
