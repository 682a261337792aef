/-
  Names (layer 12): which may be; a set that is none. No condition.
-/
import Derived.Test.YtpkkjoiglemlgaaGreatDoorIdR
namespace Go.Proofs.YtpkkjoiglemlgaaGreatDoor
set_option linter.unusedVariables false
open Go.ChangeShapes Go.WideShapes Go.ChangeAt Go.RowKit Go.Extern.Stop Go.Stop Go.Extern

set_option maxHeartbeats 1000000 in
set_option maxRecDepth 100000 in
theorem nilHas_any (w : World) (x y : Int) : Calls Tryz.prog 36 #[.pointer none, .agg #[.int .i64 x, .int .i64 y]] w fun e w' => e = .returned (.bool false) ∧ Below w.heap.size w w' := by
  go_enter Tryz.func36, Tryz.ntmps36
  go_wp2_with fail
  go_region
  go_wp2_with fail
  go_ret
  refine ⟨rfl, ?_⟩
  (repeat first | exact Below.refl _ _ | assumption | refine Below.drew ?_ | refine below_drewN ?_ _ | refine Below.more_ ?_ _ | refine Below.setCell ?_ (by first | exact Nat.le_refl _ | (simp; done) | (simp; omega)) _)
set_option maxHeartbeats 1000000 in
set_option maxRecDepth 100000 in
theorem nilAdd_any (w : World) (x y : Int) : Calls Tryz.prog 37 #[.pointer none, .agg #[.int .i64 x, .int .i64 y]] w fun e w' => e = .returned (.bool false) ∧ Below w.heap.size w w' := by
  go_enter Tryz.func37, Tryz.ntmps37
  go_wp2_with fail
  go_region
  go_wp2_with fail
  go_ret
  refine ⟨rfl, ?_⟩
  (repeat first | exact Below.refl _ _ | assumption | refine Below.drew ?_ | refine below_drewN ?_ _ | refine Below.more_ ?_ _ | refine Below.setCell ?_ (by first | exact Nat.le_refl _ | (simp; done) | (simp; omega)) _)
set_option maxHeartbeats 1000000 in
set_option maxRecDepth 100000 in
theorem nilAll_any (w : World) : Calls Tryz.prog 35 #[.pointer none] w fun e w' => e = .returned (.slice none 0 0) ∧ Below w.heap.size w w' := by
  go_enter Tryz.func35, Tryz.ntmps35
  go_wp2_with fail
  go_ret
  refine ⟨rfl, ?_⟩
  (repeat first | exact Below.refl _ _ | assumption | refine Below.drew ?_ | refine below_drewN ?_ _ | refine Below.more_ ?_ _ | refine Below.setCell ?_ (by first | exact Nat.le_refl _ | (simp; done) | (simp; omega)) _)
def idRight (p : Int × Int) : Bool := decide (0 ≤ p.1) && decide (p.1 ≤ 255) && decide (1 ≤ p.2) && decide (p.2 ≤ 4294967296)
set_option maxHeartbeats 1000000 in
set_option maxRecDepth 100000 in
theorem idRight_any (w : World) (x y : Int) : Calls Tryz.prog 11 #[.agg #[.int .i64 x, .int .i64 y]] w fun e w' => e = .returned (.bool (idRight (x, y))) ∧ Below w.heap.size w w' := by
  unfold idRight
  simp only
  go_enter Tryz.func11, Tryz.ntmps11
  cases h1 : decide (0 ≤ x)
  · go_wp2_with fail
    go_ret
    refine ⟨rfl, ?_⟩
    (repeat first | exact Below.refl _ _ | assumption | refine Below.drew ?_ | refine below_drewN ?_ _ | refine Below.more_ ?_ _ | refine Below.setCell ?_ (by first | exact Nat.le_refl _ | (simp; done) | (simp; omega)) _)
  · cases h2 : decide (x ≤ 255)
    · go_wp2_with fail
      go_ret
      refine ⟨rfl, ?_⟩
      (repeat first | exact Below.refl _ _ | assumption | refine Below.drew ?_ | refine below_drewN ?_ _ | refine Below.more_ ?_ _ | refine Below.setCell ?_ (by first | exact Nat.le_refl _ | (simp; done) | (simp; omega)) _)
    · cases h3 : decide (1 ≤ y)
      · go_wp2_with fail
        go_ret
        refine ⟨rfl, ?_⟩
        (repeat first | exact Below.refl _ _ | assumption | refine Below.drew ?_ | refine below_drewN ?_ _ | refine Below.more_ ?_ _ | refine Below.setCell ?_ (by first | exact Nat.le_refl _ | (simp; done) | (simp; omega)) _)
      · go_wp2_with fail
        go_ret
        refine ⟨rfl, ?_⟩
        (repeat first | exact Below.refl _ _ | assumption | refine Below.drew ?_ | refine below_drewN ?_ _ | refine Below.more_ ?_ _ | refine Below.setCell ?_ (by first | exact Nat.le_refl _ | (simp; done) | (simp; omega)) _)
set_option maxHeartbeats 1000000 in
set_option maxRecDepth 100000 in
theorem refRightI_any (w : World) (x y : Int) : Calls Tryz.prog 12 #[.agg #[.int .i64 x, .int .i64 y]] w fun e w' => e = .returned (.bool (idRight (x, y))) ∧ Below w.heap.size w w' := by
  unfold idRight
  simp only
  go_enter Tryz.func12, Tryz.ntmps12
  cases h1 : decide (0 ≤ x)
  · go_wp2_with fail
    go_ret
    refine ⟨rfl, ?_⟩
    (repeat first | exact Below.refl _ _ | assumption | refine Below.drew ?_ | refine below_drewN ?_ _ | refine Below.more_ ?_ _ | refine Below.setCell ?_ (by first | exact Nat.le_refl _ | (simp; done) | (simp; omega)) _)
  · cases h2 : decide (x ≤ 255)
    · go_wp2_with fail
      go_ret
      refine ⟨rfl, ?_⟩
      (repeat first | exact Below.refl _ _ | assumption | refine Below.drew ?_ | refine below_drewN ?_ _ | refine Below.more_ ?_ _ | refine Below.setCell ?_ (by first | exact Nat.le_refl _ | (simp; done) | (simp; omega)) _)
    · cases h3 : decide (1 ≤ y)
      · go_wp2_with fail
        go_ret
        refine ⟨rfl, ?_⟩
        (repeat first | exact Below.refl _ _ | assumption | refine Below.drew ?_ | refine below_drewN ?_ _ | refine Below.more_ ?_ _ | refine Below.setCell ?_ (by first | exact Nat.le_refl _ | (simp; done) | (simp; omega)) _)
      · go_wp2_with fail
        go_ret
        refine ⟨rfl, ?_⟩
        (repeat first | exact Below.refl _ _ | assumption | refine Below.drew ?_ | refine below_drewN ?_ _ | refine Below.more_ ?_ _ | refine Below.setCell ?_ (by first | exact Nat.le_refl _ | (simp; done) | (simp; omega)) _)
end Go.Proofs.YtpkkjoiglemlgaaGreatDoor
