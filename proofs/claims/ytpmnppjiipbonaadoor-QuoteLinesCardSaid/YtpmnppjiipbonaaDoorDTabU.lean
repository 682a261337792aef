/-
  A world in which the tables of unicode/utf8 lie too: for the witnesses. No condition.
-/
import Derived.Test.YtpmnppjiipbonaaDoorDHandle
import Derived.Test.YtpmnppjiipbonaaDoorRows
namespace Go.Proofs.YtpmnppjiipbonaaDoor
set_option linter.unusedVariables false
def litU : DataW Unit → Value
  | .lit (.int k n) => .int k n
  | _ => undef
def tabVals : DataW Unit → Array Value
  | .agg ps => (ps.flatMap fun | .agg qs => qs.map litU | x => [litU x]).toArray
  | _ => #[]
noncomputable def laidWorldU (os : Os) : World :=
  let w0 := laidWorldT os
  { w0 with heap := putVar (putVar w0.heap 22 (tabVals Rows.laid_unicode_utf8_acceptRanges)) 21 (tabVals Rows.laid_unicode_utf8_first) }
end Go.Proofs.YtpmnppjiipbonaaDoor
