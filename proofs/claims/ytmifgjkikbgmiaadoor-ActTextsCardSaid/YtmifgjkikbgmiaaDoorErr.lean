/-
  The errors of package fail: the sentinels in the world; an error wrapped with places; errors.Is. No condition.
-/
import Derived.Test.YtmifgjkikbgmiaaDoorChecked
import Derived.Test.YtmifgjkikbgmiaaDoorBase
import Derived.LaidEql
import Derived.Stop.Asserts
import Derived.RowKitTokens
namespace Go.Proofs.YtmifgjkikbgmiaaDoor
set_option linter.unusedVariables false
open Go.RowKit Go.Extern.Stop Go.Stop Go.Extern

/-! ### closed facts: what reflectlite.TypeOf(target).Comparable() gives; what errors.is's assertions find -/
/-! ### the sentinels -/
/-- The place of a code's sentinel. -/
def sIdx (c : Int) : Nat := if 1 ≤ c ∧ c ≤ 18 then (c - 1).toNat else 18
theorem sIdx_lt (c : Int) : sIdx c < 19 := by unfold sIdx; split <;> omega
theorem cell_lt {w : World} {p : Addr} {v : Value} (h : w.cell? p = some v) : p.block < w.heap.size := by
  unfold World.cell? at h
  cases hb : w.heap[p.block]? with
  | none => simp [hb] at h
  | some o => exact (Array.getElem?_eq_some_iff.1 hb).1
/-! ### errors -/
open Classical in
/-! ### errors.Is -/
end Go.Proofs.YtmifgjkikbgmiaaDoor
