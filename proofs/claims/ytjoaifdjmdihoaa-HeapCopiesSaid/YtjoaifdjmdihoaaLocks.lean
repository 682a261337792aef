/-
  The walks over the laws of the heap: the examples; the lock. No condition.
-/
import Derived.Test.YtjoaifdjmdihoaaSess
namespace Go.Proofs.Ytjoaifdjmdihoaa
set_option linter.unusedVariables false
open Go.ChangeShapes Go.WideShapes Go.ChangeAt Go.RowKit
open Go.ChangeMaps (setBlock)
set_option maxRecDepth 100000 in
set_option maxHeartbeats 1000000 in
theorem awake17 (w : World) : Calls Try.prog 8 #[] w fun e w' => e = .returned (.bool true) ∧ Below w.heap.size w w' := by
  go_enter Try.func8, Try.ntmps8
  go_wp2_with fail
  refine (new_sess _).mono ?_; rintro e w1 ⟨hb, rfl, s⟩
  go_wp2_with fail
  refine (make_sess s 2 (by omega) _ (by decide)).mono ?_; rintro e w2 ⟨rfl, r, s⟩
  replace s : Sess w hb ⟨[⟨1, r, [0, 0], ⟨#[116]⟩⟩], 1, false, 0⟩ w2 := s
  go_wp2_with fail
  refine (s.still fun F h => words_hit h (b := 1) rfl).mono ?_; rintro e w3 ⟨rfl, s⟩
  go_wp2_with fail
  refine (s.of fun F h => drop_hit h (b := 1) rfl).mono ?_; rintro e w4 ⟨rfl, s⟩
  replace s : Sess w hb ⟨[], 1, false, 0⟩ w4 := s
  go_wp2_with fail
  refine (s.of fun F h => load_bad h (b := 1) (i := 0) (by decide) (by decide) (by decide)).mono ?_; rintro e w5 ⟨rfl, s⟩
  go_wp2_with fail
  refine (s.of fun F h => load_bad h (b := 2) (i := 0) (by decide) (by decide) (by decide)).mono ?_; rintro e w6 ⟨rfl, s⟩
  go_wp2_with fail
  refine (s.of fun F h => lock_free h rfl).mono ?_; rintro e w7 ⟨rfl, s⟩
  go_wp2_with fail
  refine (s.same fun F h => lock_taken h rfl).mono ?_; rintro e w8 ⟨rfl, rfl⟩
  go_wp2_with fail
  refine (s.of fun F h => unlock_taken h rfl).mono ?_; rintro e w8 ⟨rfl, s⟩
  go_wp2_with fail
  refine (s.same fun F h => faults_any h).mono ?_; rintro e w9 ⟨rfl, rfl⟩
  go_wp2_with fail
  refine (load_nil _ _ _).mono ?_; rintro e w9 ⟨rfl, hb9⟩
  have s := s.keep hb9
  go_wp2_with fail
  refine (s.of fun F h => unlock_free h rfl (by decide)).mono ?_; rintro e w10 ⟨rfl, s⟩
  go_wp2_with fail
  refine (s.same fun F h => faults_any h).mono ?_; rintro e w11 ⟨rfl, rfl⟩
  go_wp2_with fail
  refine (make_nil _ _ _).mono ?_; rintro e w11 ⟨rfl, rfl⟩
  go_wp2_with fail
  refine (copy_nil _).mono ?_; rintro e w11 ⟨rfl, rfl⟩
  go_wp2_with fail
  refine (lock_nil _).mono ?_; rintro e w11 ⟨rfl, rfl⟩
  go_wp2_with fail
  go_ret
  exact ⟨rfl, s.below⟩

/-- A row of bools that came in. -/
def lockSt (taken : Bool) (f : Nat) : PHeap := ⟨[], 0, taken, f⟩
end Go.Proofs.Ytjoaifdjmdihoaa
