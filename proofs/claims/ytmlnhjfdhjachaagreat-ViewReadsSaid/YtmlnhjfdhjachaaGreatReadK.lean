/-
  Two answers that are alike, without pairs and changes. No condition.
-/
import Derived.Test.YtmlnhjfdhjachaaGreatDrive
namespace Go.Proofs.YtmlnhjfdhjachaaGreat
set_option linter.unusedVariables false
open Go.ChangeShapes Go.WideShapes Go.ChangeAt Go.RowKit
open Go.ChangeMaps (setBlock)

theorem same06_nil (w : World) : Calls Tryz.prog 29 #[.slice none 0 0, .slice none 0 0] w fun e w' => e = .returned (.bool true) ∧ w = w' := by
  go_enter Tryz.func29, Tryz.ntmps29
  go_wp2_with fail
  go_loopw [5] (fun i W => i = .int .i64 0 ∧ w = W) (fun _ _ => 0)
  case atStart => exact ⟨rfl, rfl⟩
  case round =>
    obtain ⟨rfl, rfl⟩ := hrel
    go_wp2_with fail
    go_ret
    exact ⟨rfl, rfl⟩
theorem same07_nil (w : World) : Calls Tryz.prog 48 #[.slice none 0 0, .slice none 0 0] w fun e w' => e = .returned (.bool true) ∧ w = w' := by
  go_enter Tryz.func48, Tryz.ntmps48
  go_wp2_with fail
  go_loopw [5] (fun i W => i = .int .i64 0 ∧ w = W) (fun _ _ => 0)
  case atStart => exact ⟨rfl, rfl⟩
  case round =>
    obtain ⟨rfl, rfl⟩ := hrel
    go_wp2_with fail
    go_ret
    exact ⟨rfl, rfl⟩
set_option maxRecDepth 100000 in
set_option maxHeartbeats 2000000 in
theorem same16_any (code : Int) (took : Bool) (value : ByteArray) (w : World) : Calls Tryz.prog 13 #[.agg #[.int .i64 code, .int .i64 0, .int .i64 0, .bool took, .string value, .slice none 0 0, .int .i64 0, .slice none 0 0], .agg #[.int .i64 code, .int .i64 0, .int .i64 0, .bool took, .string value, .slice none 0 0, .int .i64 0, .slice none 0 0]] w fun e w' => e = .returned (.bool true) ∧ Below w.heap.size w w' := by
  have hz : Below w.heap.size w ((w.alloc (.cells #[.int .i64 code, .int .i64 0, .int .i64 0, .bool took, .string value, .slice none 0 0, .int .i64 0, .slice none 0 0] 40)).alloc (.cells #[.int .i64 code, .int .i64 0, .int .i64 0, .bool took, .string value, .slice none 0 0, .int .i64 0, .slice none 0 0] 40)) := ((Below.refl _ _).alloc (Nat.le_refl _) _).alloc (by simp) _
  have h6 := fun W => same06_nil W
  have h7 := fun W => same07_nil W
  replace hz := Lib.hid hz
  replace h6 := Lib.hid h6
  replace h7 := Lib.hid h7
  go_enter Tryz.func13, Tryz.ntmps13
  go_wp2_with (first | (go_at_call 29; refine (h6.out _).mono ?_; rintro e w1 ⟨rfl, rfl⟩) | (go_at_call 48; refine (h7.out _).mono ?_; rintro e w1 ⟨rfl, rfl⟩))
  go_ret
  exact ⟨by simp, hz.out⟩
end Go.Proofs.YtmlnhjfdhjachaaGreat
