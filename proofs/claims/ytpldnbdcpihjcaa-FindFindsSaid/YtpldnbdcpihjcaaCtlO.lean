/-
  The control block's cells: Load and Store of them. No condition.
-/
import Derived.Test.YtpldnbdcpihjcaaCtl
import Derived.Test.YtpldnbdcpihjcaaFresh
namespace Go.Proofs.Ytpldnbdcpihjcaa
set_option linter.unusedVariables false
open Go.ChangeShapes Go.WideShapes Go.ChangeAt Go.RowKit
open Go.ChangeMaps (setBlock)

theorem ctl_load {w : World} {hb : Nat} {S : PHeap} {F : Nat → Prop} (h : HeapIn w hb S F) {i : Nat} {x : Int} (hc : CtlAt S i x) :
    Calls Try.prog 39 #[.pointer (some ⟨hb, 0, none⟩), .int .u64 1, .int .i64 i] w fun e w' => e = .returned (.tuple #[.int .u64 x, .int .i64 0]) ∧ Turned F hb S w w' := by
  obtain ⟨b, q1, q2, q3⟩ := hc
  have := load_hit h q1 i q2
  rwa [q3] at this
theorem ctl_store {w : World} {hb : Nat} {S : PHeap} {F : Nat → Prop} (h : HeapIn w hb S F) {i : Nat} {x : Int} (hc : CtlAt S i x) (v : Int) (hv : 0 ≤ v ∧ v ≤ 18446744073709551615) :
    Calls Try.prog 23 #[.pointer (some ⟨hb, 0, none⟩), .int .u64 1, .int .i64 i, .int .u64 v] w fun e w' => e = .returned (.int .i64 0) ∧ Turned F hb (S.set 1 i v) w w' := by
  obtain ⟨b, q1, q2, q3⟩ := hc
  exact store_hit h q1 i q2 hv
theorem do_ctl_store {w : World} {hb : Nat} {S : PHeap} {F : Nat → Prop} (h : HeapIn w hb S F) {i : Nat} (hi : i ≤ 1000) {x : Int} (hc : CtlAt S i x) (v : Int) (hv : 0 ≤ v ∧ v ≤ 18446744073709551615) (hf : S.faults = 0) (hla : S.last < 9223372036854775807) :
    Calls Try.prog 38 #[.pointer (some ⟨hb, 0, none⟩), .agg #[.int .i64 2, .int .u64 1, .int .i64 i, .int .u64 0, .int .u64 v, .string ⟨#[]⟩]] w fun e w' => ∃ g, e = .returned g ∧ Turned F hb (S.set 1 i v) w w' := by
  have hok : PAct.Ok ⟨2, 1, i, 0, v, ByteArray.empty⟩ := ⟨by show (-9223372036854775808 : Int) ≤ 2 ∧ (2 : Int) ≤ _; decide, by show (0 : Int) ≤ 1 ∧ (1 : Int) ≤ _; decide, by show (-9223372036854775808 : Int) ≤ i ∧ (i : Int) ≤ _; omega, by show (0 : Int) ≤ 0 ∧ (0 : Int) ≤ _; decide, hv, by show (0 : Nat) ≤ 9223372036854775807; decide⟩
  refine (do_any h ⟨2, 1, i, 0, v, ByteArray.empty⟩ hok (by rw [hf]; decide) hla).mono fun e w' ⟨r, he, ht⟩ => ⟨_, he, ?_⟩
  rw [hc.store v r] at ht
  exact ht
theorem do_ctl_bump {w : World} {hb : Nat} {S : PHeap} {F : Nat → Prop} (h : HeapIn w hb S F) {i : Nat} (hi : i ≤ 1000) {x : Int} (hc : CtlAt S i x) (v : Int) (hv : 0 ≤ v ∧ v ≤ 18446744073709551615) (hf : S.faults = 0) (hla : S.last < 9223372036854775807) :
    Calls Try.prog 38 #[.pointer (some ⟨hb, 0, none⟩), .agg #[.int .i64 4, .int .u64 1, .int .i64 i, .int .u64 0, .int .u64 v, .string ⟨#[]⟩]] w fun e w' => ∃ g, e = .returned g ∧ Turned F hb (S.set 1 i (IntKind.u64.wrap (x + v))) w w' := by
  have hok : PAct.Ok ⟨4, 1, i, 0, v, ByteArray.empty⟩ := ⟨by show (-9223372036854775808 : Int) ≤ 4 ∧ (4 : Int) ≤ _; decide, by show (0 : Int) ≤ 1 ∧ (1 : Int) ≤ _; decide, by show (-9223372036854775808 : Int) ≤ i ∧ (i : Int) ≤ _; omega, by show (0 : Int) ≤ 0 ∧ (0 : Int) ≤ _; decide, hv, by show (0 : Nat) ≤ 9223372036854775807; decide⟩
  refine (do_any h ⟨4, 1, i, 0, v, ByteArray.empty⟩ hok (by rw [hf]; decide) hla).mono fun e w' ⟨r, he, ht⟩ => ⟨_, he, ?_⟩
  rw [hc.bump v r] at ht
  exact ht
end Go.Proofs.Ytpldnbdcpihjcaa
