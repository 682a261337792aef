/-
  The walk over the law of reserving's acts (layer 28). No condition.
-/
import Derived.Test.YtfelkkbgbgnpaaaReserveP
import Derived.Test.YtfelkkbgbgnpaaaReserveF
import Derived.Test.YtfelkkbgbgnpaaaCtlO
import Derived.Test.YtfelkkbgbgnpaaaTapeE
namespace Go.Proofs.Ytfelkkbgbgnpaaa
set_option linter.unusedVariables false
open Go.ChangeShapes Go.WideShapes Go.ChangeAt Go.RowKit
open Go.ChangeMaps (setBlock)

theorem resR_fresh {w : World} {b : Nat} {s : PRes} (h : ResIn w b s) : ResR w (fun k => k = b) b s := ⟨fun k hk => by rw [hk]; exact h.blk.lt, rfl, h⟩
theorem tiny_val : tinyC.val = .agg #[.int .i64 2, .int .i64 2, .int .i64 3, .int .i64 2, .int .i64 1, .int .u64 0] := rfl
end Go.Proofs.Ytfelkkbgbgnpaaa
