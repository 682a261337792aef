/-
  The control block's cells: Load and Store of them. No condition.
-/
import Derived.Test.YtpldnbdcpihjcaaCtl
import Derived.Test.YtpldnbdcpihjcaaFresh
namespace Go.Proofs.Ytpldnbdcpihjcaa
set_option linter.unusedVariables false
open Go.ChangeShapes Go.WideShapes Go.ChangeAt Go.RowKit
open Go.ChangeMaps (setBlock)

theorem ctl_load {w : World} {hb : Nat} {S : PHeap} {F : Nat → Prop} (h : HeapIn w hb S F) {i : Nat} {x : Int} (hc : CtlAt S i x) :
    Calls Try.prog 39 #[.pointer (some ⟨hb, 0, none⟩), .int .u64 1, .int .i64 i] w fun e w' => e = .returned (.tuple #[.int .u64 x, .int .i64 0]) ∧ Turned F hb S w w' := by
  obtain ⟨b, q1, q2, q3⟩ := hc
  have := load_hit h q1 i q2
  rwa [q3] at this
theorem ctl_store {w : World} {hb : Nat} {S : PHeap} {F : Nat → Prop} (h : HeapIn w hb S F) {i : Nat} {x : Int} (hc : CtlAt S i x) (v : Int) (hv : 0 ≤ v ∧ v ≤ 18446744073709551615) :
    Calls Try.prog 23 #[.pointer (some ⟨hb, 0, none⟩), .int .u64 1, .int .i64 i, .int .u64 v] w fun e w' => e = .returned (.int .i64 0) ∧ Turned F hb (S.set 1 i v) w w' := by
  obtain ⟨b, q1, q2, q3⟩ := hc
  exact store_hit h q1 i q2 hv
end Go.Proofs.Ytpldnbdcpihjcaa
