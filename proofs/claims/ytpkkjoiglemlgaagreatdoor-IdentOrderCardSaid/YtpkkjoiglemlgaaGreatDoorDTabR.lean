/-
  The table of powers out of a row's list, of a program that holds no sentinels. No condition.
-/
import Derived.Test.YtpkkjoiglemlgaaGreatDoorDTabQ
import Derived.Test.YtpkkjoiglemlgaaGreatDoorFmt
namespace Go.Proofs.YtpkkjoiglemlgaaGreatDoor
set_option linter.unusedVariables false
open Go.ChangeShapes Go.WideShapes Go.ChangeAt Go.RowKit
theorem ptbType : (Tryz.prog.globals[21]?).map (·.type) = some 229 := by kernel_rfl
theorem ptb_of_laid {W : World} {rest : List (String × DataW Unit)} (h : laidMet Tryz.prog (("internal/strconv.uint64pow10", Rows.laid_internal_strconv_uint64pow10) :: rest) W) : PTb W :=
  Lib.tabIs_of_head ptbGlobal ptbType Tryz.underlying229 Tryz.underlying78 (by kernel_rfl) (by kernel_rfl)
    (by have e : (Rows.laid_internal_strconv_uint64pow10 : DataW Unit) = Lib.tabData .u64 Lib.pow10Tab := by kernel_rfl
        rw [e] at h
        exact h)
end Go.Proofs.YtpkkjoiglemlgaaGreatDoor
