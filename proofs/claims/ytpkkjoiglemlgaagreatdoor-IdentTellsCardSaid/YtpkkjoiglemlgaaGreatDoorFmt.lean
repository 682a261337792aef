/-
  strconv.FormatUint and digits.Print at base 10, where the table of powers lies. No condition.
-/
import Derived.Test.YtpkkjoiglemlgaaGreatDoorBase
import Derived.Test.YtpkkjoiglemlgaaGreatDoorKits
import Derived.Test.YtpkkjoiglemlgaaGreatDoorSeptet2
import Derived.Lib.AppendIntMem
import Derived.Lib.ItoaLen
import Derived.Lib.SmallJoins
namespace Go.Proofs.YtpkkjoiglemlgaaGreatDoor
set_option linter.unusedVariables false
open Go.RowKit Go.Extern.Stop Go.Stop Go.Extern Go.ChangeShapes Go.Sort

/-- The table of powers that the library's numerals read. -/
def PTb (w : World) : Prop := Lib.TabIs Tryz.prog w "internal/strconv.uint64pow10" .u64 Lib.pow10Tab
theorem ptbGlobal : Tryz.prog.globalNamed "internal/strconv.uint64pow10" = some 21 := by kernel_rfl
theorem PTb.below {w w' : World} (h : PTb w) (hb : Below w.heap.size w w') : PTb w' := Joins.tab_stays ptbGlobal h hb (Nat.le_refl _)
theorem fmtInt_any {w : World} (htab : PTb w) (n : Int) (h0 : -9223372036854775808 ≤ n) (h1 : n ≤ 9223372036854775807) :
    Calls Tryz.prog 71 #[.int .i64 n, .int .i64 10] w fun e w' => e = .returned (strL (Lib.itoa n)) ∧ Below w.heap.size w w' := by
  have hF := Lib.hid (Tryz.internal_strconv_FormatInt_10 n h0 h1 w htab)
  clear htab
  go_enter Tryz.func71, Tryz.ntmps71
  go_wp2_with fail
  refine (hF.out).mono ?_
  rintro e w' ⟨rfl, k, os, rfl⟩
  go_wp2_with fail
  go_ret
  exact ⟨rfl, Lib.below_grow _ _ (Nat.le_refl _) _ _⟩
theorem digitsPrint_any {w : World} (htab : PTb w) (n : Nat) (h1 : n ≤ 9223372036854775807) :
    Calls Tryz.prog 43 #[.int .i64 n] w fun e w' => e = .returned (strL (Lib.decDigits n)) ∧ Below w.heap.size w w' := by
  have hF := fmtInt_any htab (n : Int) (by omega) (by omega)
  rw [Lib.itoa_nonneg] at hF
  replace hF := Lib.hid hF
  clear htab
  go_enter Tryz.func43, Tryz.ntmps43
  go_wp2_with fail
  refine (hF.out).mono ?_; rintro e w' ⟨rfl, hb⟩
  go_wp2_with fail
  go_ret
  exact ⟨rfl, hb⟩
end Go.Proofs.YtpkkjoiglemlgaaGreatDoor
