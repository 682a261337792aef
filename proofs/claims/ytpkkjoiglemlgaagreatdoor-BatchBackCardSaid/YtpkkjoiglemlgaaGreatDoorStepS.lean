/-
  The document's RightStep. No condition.
-/
import Derived.Test.YtpkkjoiglemlgaaGreatDoorStepR
namespace Go.Proofs.YtpkkjoiglemlgaaGreatDoor
set_option linter.unusedVariables false
open Go.RowKit Go.Extern.Stop Go.Stop Go.Extern Go.ChangeShapes
set_option maxRecDepth 100000 in
set_option maxHeartbeats 4000000 in
theorem refRightStep_any (k : Int) (key value old : ByteArray) (n : Int) (w : World) : Calls Tryz.prog 95 #[.agg #[.int .i64 k, .string key, .string value, .string old, .int .i64 n]] w fun e w' => e = .returned (.bool (sRight ⟨k, key, value, old, n⟩)) ∧ Below w.heap.size w w' := by
  have hcase : (16 < key.size) ∨ (key.size ≤ 16 ∧ 32 < value.size) ∨ (key.size ≤ 16 ∧ value.size ≤ 32 ∧ 32 < old.size) ∨ (key.size ≤ 16 ∧ value.size ≤ 32 ∧ old.size ≤ 32) := by omega
  have hk : k < 1 ∨ k = 1 ∨ k = 2 ∨ k = 3 ∨ k = 4 ∨ 4 < k := by omega
  have hv : value.size = 0 ∨ value.size ≠ 0 := by omega
  have ho : old.size = 0 ∨ old.size ≠ 0 := by omega
  have hn : n = 0 ∨ n ≠ 0 := by omega
  rcases hcase with h1 | ⟨h1, h2⟩ | ⟨h1, h2, h3⟩ | ⟨h1, h2, h3⟩
  · clear hv ho hn
    rcases hk with hk | rfl | rfl | rfl | rfl | hk
    · have e : sRight ⟨k, key, value, old, n⟩ = false := decide_eq_false (by simp only; omega)
      rw [e]
      clear e
      have nk1 : ((k : Int) == 1) = false := beq_eq_false_iff_ne.2 (by omega)
      have nk2 : ((k : Int) == 2) = false := beq_eq_false_iff_ne.2 (by omega)
      have nk3 : ((k : Int) == 3) = false := beq_eq_false_iff_ne.2 (by omega)
      have nk4 : ((k : Int) == 4) = false := beq_eq_false_iff_ne.2 (by omega)
      go_enter Tryz.func95, Tryz.ntmps95
      go_wp2_with fail
      go_ret
      exact ⟨rfl, by (repeat first | exact Below.refl _ _ | assumption | refine Below.drew ?_ | refine below_drewN ?_ _ | refine Below.more_ ?_ _ | refine Below.setCell ?_ (by first | exact Nat.le_refl _ | (simp; done) | (simp; omega)) _)⟩
    · have e : sRight ⟨1, key, value, old, n⟩ = false := decide_eq_false (by simp only; omega)
      rw [e]
      clear e
      go_enter Tryz.func95, Tryz.ntmps95
      go_wp2_with fail
      go_ret
      exact ⟨rfl, by (repeat first | exact Below.refl _ _ | assumption | refine Below.drew ?_ | refine below_drewN ?_ _ | refine Below.more_ ?_ _ | refine Below.setCell ?_ (by first | exact Nat.le_refl _ | (simp; done) | (simp; omega)) _)⟩
    · have e : sRight ⟨2, key, value, old, n⟩ = false := decide_eq_false (by simp only; omega)
      rw [e]
      clear e
      go_enter Tryz.func95, Tryz.ntmps95
      go_wp2_with fail
      go_ret
      exact ⟨rfl, by (repeat first | exact Below.refl _ _ | assumption | refine Below.drew ?_ | refine below_drewN ?_ _ | refine Below.more_ ?_ _ | refine Below.setCell ?_ (by first | exact Nat.le_refl _ | (simp; done) | (simp; omega)) _)⟩
    · have e : sRight ⟨3, key, value, old, n⟩ = false := decide_eq_false (by simp only; omega)
      rw [e]
      clear e
      go_enter Tryz.func95, Tryz.ntmps95
      go_wp2_with fail
      go_ret
      exact ⟨rfl, by (repeat first | exact Below.refl _ _ | assumption | refine Below.drew ?_ | refine below_drewN ?_ _ | refine Below.more_ ?_ _ | refine Below.setCell ?_ (by first | exact Nat.le_refl _ | (simp; done) | (simp; omega)) _)⟩
    · have e : sRight ⟨4, key, value, old, n⟩ = false := decide_eq_false (by simp only; omega)
      rw [e]
      clear e
      go_enter Tryz.func95, Tryz.ntmps95
      go_wp2_with fail
      go_ret
      exact ⟨rfl, by (repeat first | exact Below.refl _ _ | assumption | refine Below.drew ?_ | refine below_drewN ?_ _ | refine Below.more_ ?_ _ | refine Below.setCell ?_ (by first | exact Nat.le_refl _ | (simp; done) | (simp; omega)) _)⟩
    · have e : sRight ⟨k, key, value, old, n⟩ = false := decide_eq_false (by simp only; omega)
      rw [e]
      clear e
      have nk1 : ((k : Int) == 1) = false := beq_eq_false_iff_ne.2 (by omega)
      have nk2 : ((k : Int) == 2) = false := beq_eq_false_iff_ne.2 (by omega)
      have nk3 : ((k : Int) == 3) = false := beq_eq_false_iff_ne.2 (by omega)
      have nk4 : ((k : Int) == 4) = false := beq_eq_false_iff_ne.2 (by omega)
      go_enter Tryz.func95, Tryz.ntmps95
      go_wp2_with fail
      go_ret
      exact ⟨rfl, by (repeat first | exact Below.refl _ _ | assumption | refine Below.drew ?_ | refine below_drewN ?_ _ | refine Below.more_ ?_ _ | refine Below.setCell ?_ (by first | exact Nat.le_refl _ | (simp; done) | (simp; omega)) _)⟩
  · clear hv ho hn
    rcases hk with hk | rfl | rfl | rfl | rfl | hk
    · have e : sRight ⟨k, key, value, old, n⟩ = false := decide_eq_false (by simp only; omega)
      rw [e]
      clear e
      have nk1 : ((k : Int) == 1) = false := beq_eq_false_iff_ne.2 (by omega)
      have nk2 : ((k : Int) == 2) = false := beq_eq_false_iff_ne.2 (by omega)
      have nk3 : ((k : Int) == 3) = false := beq_eq_false_iff_ne.2 (by omega)
      have nk4 : ((k : Int) == 4) = false := beq_eq_false_iff_ne.2 (by omega)
      go_enter Tryz.func95, Tryz.ntmps95
      go_wp2_with fail
      go_ret
      exact ⟨rfl, by (repeat first | exact Below.refl _ _ | assumption | refine Below.drew ?_ | refine below_drewN ?_ _ | refine Below.more_ ?_ _ | refine Below.setCell ?_ (by first | exact Nat.le_refl _ | (simp; done) | (simp; omega)) _)⟩
    · have e : sRight ⟨1, key, value, old, n⟩ = false := decide_eq_false (by simp only; omega)
      rw [e]
      clear e
      go_enter Tryz.func95, Tryz.ntmps95
      go_wp2_with fail
      go_ret
      exact ⟨rfl, by (repeat first | exact Below.refl _ _ | assumption | refine Below.drew ?_ | refine below_drewN ?_ _ | refine Below.more_ ?_ _ | refine Below.setCell ?_ (by first | exact Nat.le_refl _ | (simp; done) | (simp; omega)) _)⟩
    · have e : sRight ⟨2, key, value, old, n⟩ = false := decide_eq_false (by simp only; omega)
      rw [e]
      clear e
      go_enter Tryz.func95, Tryz.ntmps95
      go_wp2_with fail
      go_ret
      exact ⟨rfl, by (repeat first | exact Below.refl _ _ | assumption | refine Below.drew ?_ | refine below_drewN ?_ _ | refine Below.more_ ?_ _ | refine Below.setCell ?_ (by first | exact Nat.le_refl _ | (simp; done) | (simp; omega)) _)⟩
    · have e : sRight ⟨3, key, value, old, n⟩ = false := decide_eq_false (by simp only; omega)
      rw [e]
      clear e
      go_enter Tryz.func95, Tryz.ntmps95
      go_wp2_with fail
      go_ret
      exact ⟨rfl, by (repeat first | exact Below.refl _ _ | assumption | refine Below.drew ?_ | refine below_drewN ?_ _ | refine Below.more_ ?_ _ | refine Below.setCell ?_ (by first | exact Nat.le_refl _ | (simp; done) | (simp; omega)) _)⟩
    · have e : sRight ⟨4, key, value, old, n⟩ = false := decide_eq_false (by simp only; omega)
      rw [e]
      clear e
      go_enter Tryz.func95, Tryz.ntmps95
      go_wp2_with fail
      go_ret
      exact ⟨rfl, by (repeat first | exact Below.refl _ _ | assumption | refine Below.drew ?_ | refine below_drewN ?_ _ | refine Below.more_ ?_ _ | refine Below.setCell ?_ (by first | exact Nat.le_refl _ | (simp; done) | (simp; omega)) _)⟩
    · have e : sRight ⟨k, key, value, old, n⟩ = false := decide_eq_false (by simp only; omega)
      rw [e]
      clear e
      have nk1 : ((k : Int) == 1) = false := beq_eq_false_iff_ne.2 (by omega)
      have nk2 : ((k : Int) == 2) = false := beq_eq_false_iff_ne.2 (by omega)
      have nk3 : ((k : Int) == 3) = false := beq_eq_false_iff_ne.2 (by omega)
      have nk4 : ((k : Int) == 4) = false := beq_eq_false_iff_ne.2 (by omega)
      go_enter Tryz.func95, Tryz.ntmps95
      go_wp2_with fail
      go_ret
      exact ⟨rfl, by (repeat first | exact Below.refl _ _ | assumption | refine Below.drew ?_ | refine below_drewN ?_ _ | refine Below.more_ ?_ _ | refine Below.setCell ?_ (by first | exact Nat.le_refl _ | (simp; done) | (simp; omega)) _)⟩
  · clear hv ho hn
    rcases hk with hk | rfl | rfl | rfl | rfl | hk
    · have e : sRight ⟨k, key, value, old, n⟩ = false := decide_eq_false (by simp only; omega)
      rw [e]
      clear e
      have nk1 : ((k : Int) == 1) = false := beq_eq_false_iff_ne.2 (by omega)
      have nk2 : ((k : Int) == 2) = false := beq_eq_false_iff_ne.2 (by omega)
      have nk3 : ((k : Int) == 3) = false := beq_eq_false_iff_ne.2 (by omega)
      have nk4 : ((k : Int) == 4) = false := beq_eq_false_iff_ne.2 (by omega)
      go_enter Tryz.func95, Tryz.ntmps95
      go_wp2_with fail
      go_ret
      exact ⟨rfl, by (repeat first | exact Below.refl _ _ | assumption | refine Below.drew ?_ | refine below_drewN ?_ _ | refine Below.more_ ?_ _ | refine Below.setCell ?_ (by first | exact Nat.le_refl _ | (simp; done) | (simp; omega)) _)⟩
    · have e : sRight ⟨1, key, value, old, n⟩ = false := decide_eq_false (by simp only; omega)
      rw [e]
      clear e
      go_enter Tryz.func95, Tryz.ntmps95
      go_wp2_with fail
      go_ret
      exact ⟨rfl, by (repeat first | exact Below.refl _ _ | assumption | refine Below.drew ?_ | refine below_drewN ?_ _ | refine Below.more_ ?_ _ | refine Below.setCell ?_ (by first | exact Nat.le_refl _ | (simp; done) | (simp; omega)) _)⟩
    · have e : sRight ⟨2, key, value, old, n⟩ = false := decide_eq_false (by simp only; omega)
      rw [e]
      clear e
      go_enter Tryz.func95, Tryz.ntmps95
      go_wp2_with fail
      go_ret
      exact ⟨rfl, by (repeat first | exact Below.refl _ _ | assumption | refine Below.drew ?_ | refine below_drewN ?_ _ | refine Below.more_ ?_ _ | refine Below.setCell ?_ (by first | exact Nat.le_refl _ | (simp; done) | (simp; omega)) _)⟩
    · have e : sRight ⟨3, key, value, old, n⟩ = false := decide_eq_false (by simp only; omega)
      rw [e]
      clear e
      go_enter Tryz.func95, Tryz.ntmps95
      go_wp2_with fail
      go_ret
      exact ⟨rfl, by (repeat first | exact Below.refl _ _ | assumption | refine Below.drew ?_ | refine below_drewN ?_ _ | refine Below.more_ ?_ _ | refine Below.setCell ?_ (by first | exact Nat.le_refl _ | (simp; done) | (simp; omega)) _)⟩
    · have e : sRight ⟨4, key, value, old, n⟩ = false := decide_eq_false (by simp only; omega)
      rw [e]
      clear e
      go_enter Tryz.func95, Tryz.ntmps95
      go_wp2_with fail
      go_ret
      exact ⟨rfl, by (repeat first | exact Below.refl _ _ | assumption | refine Below.drew ?_ | refine below_drewN ?_ _ | refine Below.more_ ?_ _ | refine Below.setCell ?_ (by first | exact Nat.le_refl _ | (simp; done) | (simp; omega)) _)⟩
    · have e : sRight ⟨k, key, value, old, n⟩ = false := decide_eq_false (by simp only; omega)
      rw [e]
      clear e
      have nk1 : ((k : Int) == 1) = false := beq_eq_false_iff_ne.2 (by omega)
      have nk2 : ((k : Int) == 2) = false := beq_eq_false_iff_ne.2 (by omega)
      have nk3 : ((k : Int) == 3) = false := beq_eq_false_iff_ne.2 (by omega)
      have nk4 : ((k : Int) == 4) = false := beq_eq_false_iff_ne.2 (by omega)
      go_enter Tryz.func95, Tryz.ntmps95
      go_wp2_with fail
      go_ret
      exact ⟨rfl, by (repeat first | exact Below.refl _ _ | assumption | refine Below.drew ?_ | refine below_drewN ?_ _ | refine Below.more_ ?_ _ | refine Below.setCell ?_ (by first | exact Nat.le_refl _ | (simp; done) | (simp; omega)) _)⟩
  · rcases hk with hk | rfl | rfl | rfl | rfl | hk
    · clear hv ho hn
      · have e : sRight ⟨k, key, value, old, n⟩ = false := decide_eq_false (by simp only; omega)
        rw [e]
        clear e
        have nk1 : ((k : Int) == 1) = false := beq_eq_false_iff_ne.2 (by omega)
        have nk2 : ((k : Int) == 2) = false := beq_eq_false_iff_ne.2 (by omega)
        have nk3 : ((k : Int) == 3) = false := beq_eq_false_iff_ne.2 (by omega)
        have nk4 : ((k : Int) == 4) = false := beq_eq_false_iff_ne.2 (by omega)
        go_enter Tryz.func95, Tryz.ntmps95
        go_wp2_with fail
        go_ret
        exact ⟨rfl, by (repeat first | exact Below.refl _ _ | assumption | refine Below.drew ?_ | refine below_drewN ?_ _ | refine Below.more_ ?_ _ | refine Below.setCell ?_ (by first | exact Nat.le_refl _ | (simp; done) | (simp; omega)) _)⟩
    · rcases hv with hv | hv
      · rcases ho with ho | ho
        · rcases hn with rfl | hn
          · obtain rfl := empty_of hv
            obtain rfl := empty_of ho
            have e : sRight ⟨1, key, ByteArray.empty, ByteArray.empty, 0⟩ = true := decide_eq_true (show (1 : Int) ≤ 1 ∧ (1 : Int) ≤ 4 ∧ _ ∧ _ ∧ _ ∧ _ ∧ _ ∧ _ from ⟨by decide, by decide, h1, by first | exact h2 | decide, by first | exact h3 | decide, by first | exact .inl rfl | exact .inr rfl, by first | exact .inl rfl | exact .inr (.inl rfl) | exact .inr (.inr rfl), by first | exact .inl rfl | exact .inr rfl⟩)
            rw [e]
            clear e
            have tn := tl_nil
            go_enter Tryz.func95, Tryz.ntmps95
            go_wp2_with fail
            go_ret
            exact ⟨rfl, by (repeat first | exact Below.refl _ _ | assumption | refine Below.drew ?_ | refine below_drewN ?_ _ | refine Below.more_ ?_ _ | refine Below.setCell ?_ (by first | exact Nat.le_refl _ | (simp; done) | (simp; omega)) _)⟩
          · obtain rfl := empty_of hv
            obtain rfl := empty_of ho
            have e : sRight ⟨1, key, ByteArray.empty, ByteArray.empty, n⟩ = false := decide_eq_false (by simp only; omega)
            rw [e]
            clear e
            have tn := tl_nil
            have bn : (n == 0) = false := beq_eq_false_iff_ne.2 hn
            go_enter Tryz.func95, Tryz.ntmps95
            go_wp2_with fail
            go_ret
            exact ⟨rfl, by (repeat first | exact Below.refl _ _ | assumption | refine Below.drew ?_ | refine below_drewN ?_ _ | refine Below.more_ ?_ _ | refine Below.setCell ?_ (by first | exact Nat.le_refl _ | (simp; done) | (simp; omega)) _)⟩
        · rcases hn with rfl | hn
          · obtain rfl := empty_of hv
            have e : sRight ⟨1, key, ByteArray.empty, old, 0⟩ = false := decide_eq_false (by simp only; omega)
            rw [e]
            clear e
            have tn := tl_nil
            have on := tl_ne ho
            have ob := tl_neb ho
            go_enter Tryz.func95, Tryz.ntmps95
            go_wp2_with fail
            go_ret
            exact ⟨rfl, by (repeat first | exact Below.refl _ _ | assumption | refine Below.drew ?_ | refine below_drewN ?_ _ | refine Below.more_ ?_ _ | refine Below.setCell ?_ (by first | exact Nat.le_refl _ | (simp; done) | (simp; omega)) _)⟩
          · obtain rfl := empty_of hv
            have e : sRight ⟨1, key, ByteArray.empty, old, n⟩ = false := decide_eq_false (by simp only; omega)
            rw [e]
            clear e
            have tn := tl_nil
            have on := tl_ne ho
            have ob := tl_neb ho
            have bn : (n == 0) = false := beq_eq_false_iff_ne.2 hn
            go_enter Tryz.func95, Tryz.ntmps95
            go_wp2_with fail
            go_ret
            exact ⟨rfl, by (repeat first | exact Below.refl _ _ | assumption | refine Below.drew ?_ | refine below_drewN ?_ _ | refine Below.more_ ?_ _ | refine Below.setCell ?_ (by first | exact Nat.le_refl _ | (simp; done) | (simp; omega)) _)⟩
      · rcases ho with ho | ho
        · rcases hn with rfl | hn
          · obtain rfl := empty_of ho
            have e : sRight ⟨1, key, value, ByteArray.empty, 0⟩ = true := decide_eq_true (show (1 : Int) ≤ 1 ∧ (1 : Int) ≤ 4 ∧ _ ∧ _ ∧ _ ∧ _ ∧ _ ∧ _ from ⟨by decide, by decide, h1, by first | exact h2 | decide, by first | exact h3 | decide, by first | exact .inl rfl | exact .inr rfl, by first | exact .inl rfl | exact .inr (.inl rfl) | exact .inr (.inr rfl), by first | exact .inl rfl | exact .inr rfl⟩)
            rw [e]
            clear e
            have tn := tl_nil
            have vn := tl_ne hv
            have vb := tl_neb hv
            go_enter Tryz.func95, Tryz.ntmps95
            go_wp2_with fail
            go_ret
            exact ⟨rfl, by (repeat first | exact Below.refl _ _ | assumption | refine Below.drew ?_ | refine below_drewN ?_ _ | refine Below.more_ ?_ _ | refine Below.setCell ?_ (by first | exact Nat.le_refl _ | (simp; done) | (simp; omega)) _)⟩
          · obtain rfl := empty_of ho
            have e : sRight ⟨1, key, value, ByteArray.empty, n⟩ = false := decide_eq_false (by simp only; omega)
            rw [e]
            clear e
            have tn := tl_nil
            have vn := tl_ne hv
            have vb := tl_neb hv
            have bn : (n == 0) = false := beq_eq_false_iff_ne.2 hn
            go_enter Tryz.func95, Tryz.ntmps95
            go_wp2_with fail
            go_ret
            exact ⟨rfl, by (repeat first | exact Below.refl _ _ | assumption | refine Below.drew ?_ | refine below_drewN ?_ _ | refine Below.more_ ?_ _ | refine Below.setCell ?_ (by first | exact Nat.le_refl _ | (simp; done) | (simp; omega)) _)⟩
        · rcases hn with rfl | hn
          · have e : sRight ⟨1, key, value, old, 0⟩ = false := decide_eq_false (by simp only; omega)
            rw [e]
            clear e
            have tn := tl_nil
            have vn := tl_ne hv
            have vb := tl_neb hv
            have on := tl_ne ho
            have ob := tl_neb ho
            go_enter Tryz.func95, Tryz.ntmps95
            go_wp2_with fail
            go_ret
            exact ⟨rfl, by (repeat first | exact Below.refl _ _ | assumption | refine Below.drew ?_ | refine below_drewN ?_ _ | refine Below.more_ ?_ _ | refine Below.setCell ?_ (by first | exact Nat.le_refl _ | (simp; done) | (simp; omega)) _)⟩
          · have e : sRight ⟨1, key, value, old, n⟩ = false := decide_eq_false (by simp only; omega)
            rw [e]
            clear e
            have tn := tl_nil
            have vn := tl_ne hv
            have vb := tl_neb hv
            have on := tl_ne ho
            have ob := tl_neb ho
            have bn : (n == 0) = false := beq_eq_false_iff_ne.2 hn
            go_enter Tryz.func95, Tryz.ntmps95
            go_wp2_with fail
            go_ret
            exact ⟨rfl, by (repeat first | exact Below.refl _ _ | assumption | refine Below.drew ?_ | refine below_drewN ?_ _ | refine Below.more_ ?_ _ | refine Below.setCell ?_ (by first | exact Nat.le_refl _ | (simp; done) | (simp; omega)) _)⟩
    · rcases hv with hv | hv
      · rcases ho with ho | ho
        · rcases hn with rfl | hn
          · obtain rfl := empty_of hv
            obtain rfl := empty_of ho
            have e : sRight ⟨2, key, ByteArray.empty, ByteArray.empty, 0⟩ = true := decide_eq_true (show (1 : Int) ≤ 2 ∧ (2 : Int) ≤ 4 ∧ _ ∧ _ ∧ _ ∧ _ ∧ _ ∧ _ from ⟨by decide, by decide, h1, by first | exact h2 | decide, by first | exact h3 | decide, by first | exact .inl rfl | exact .inr rfl, by first | exact .inl rfl | exact .inr (.inl rfl) | exact .inr (.inr rfl), by first | exact .inl rfl | exact .inr rfl⟩)
            rw [e]
            clear e
            have tn := tl_nil
            go_enter Tryz.func95, Tryz.ntmps95
            go_wp2_with fail
            go_ret
            exact ⟨rfl, by (repeat first | exact Below.refl _ _ | assumption | refine Below.drew ?_ | refine below_drewN ?_ _ | refine Below.more_ ?_ _ | refine Below.setCell ?_ (by first | exact Nat.le_refl _ | (simp; done) | (simp; omega)) _)⟩
          · obtain rfl := empty_of hv
            obtain rfl := empty_of ho
            have e : sRight ⟨2, key, ByteArray.empty, ByteArray.empty, n⟩ = false := decide_eq_false (by simp only; omega)
            rw [e]
            clear e
            have tn := tl_nil
            have bn : (n == 0) = false := beq_eq_false_iff_ne.2 hn
            go_enter Tryz.func95, Tryz.ntmps95
            go_wp2_with fail
            go_ret
            exact ⟨rfl, by (repeat first | exact Below.refl _ _ | assumption | refine Below.drew ?_ | refine below_drewN ?_ _ | refine Below.more_ ?_ _ | refine Below.setCell ?_ (by first | exact Nat.le_refl _ | (simp; done) | (simp; omega)) _)⟩
        · rcases hn with rfl | hn
          · obtain rfl := empty_of hv
            have e : sRight ⟨2, key, ByteArray.empty, old, 0⟩ = false := decide_eq_false (by simp only; omega)
            rw [e]
            clear e
            have tn := tl_nil
            have on := tl_ne ho
            have ob := tl_neb ho
            go_enter Tryz.func95, Tryz.ntmps95
            go_wp2_with fail
            go_ret
            exact ⟨rfl, by (repeat first | exact Below.refl _ _ | assumption | refine Below.drew ?_ | refine below_drewN ?_ _ | refine Below.more_ ?_ _ | refine Below.setCell ?_ (by first | exact Nat.le_refl _ | (simp; done) | (simp; omega)) _)⟩
          · obtain rfl := empty_of hv
            have e : sRight ⟨2, key, ByteArray.empty, old, n⟩ = false := decide_eq_false (by simp only; omega)
            rw [e]
            clear e
            have tn := tl_nil
            have on := tl_ne ho
            have ob := tl_neb ho
            have bn : (n == 0) = false := beq_eq_false_iff_ne.2 hn
            go_enter Tryz.func95, Tryz.ntmps95
            go_wp2_with fail
            go_ret
            exact ⟨rfl, by (repeat first | exact Below.refl _ _ | assumption | refine Below.drew ?_ | refine below_drewN ?_ _ | refine Below.more_ ?_ _ | refine Below.setCell ?_ (by first | exact Nat.le_refl _ | (simp; done) | (simp; omega)) _)⟩
      · rcases ho with ho | ho
        · rcases hn with rfl | hn
          · obtain rfl := empty_of ho
            have e : sRight ⟨2, key, value, ByteArray.empty, 0⟩ = false := decide_eq_false (by simp only; omega)
            rw [e]
            clear e
            have tn := tl_nil
            have vn := tl_ne hv
            have vb := tl_neb hv
            go_enter Tryz.func95, Tryz.ntmps95
            go_wp2_with fail
            go_ret
            exact ⟨rfl, by (repeat first | exact Below.refl _ _ | assumption | refine Below.drew ?_ | refine below_drewN ?_ _ | refine Below.more_ ?_ _ | refine Below.setCell ?_ (by first | exact Nat.le_refl _ | (simp; done) | (simp; omega)) _)⟩
          · obtain rfl := empty_of ho
            have e : sRight ⟨2, key, value, ByteArray.empty, n⟩ = false := decide_eq_false (by simp only; omega)
            rw [e]
            clear e
            have tn := tl_nil
            have vn := tl_ne hv
            have vb := tl_neb hv
            have bn : (n == 0) = false := beq_eq_false_iff_ne.2 hn
            go_enter Tryz.func95, Tryz.ntmps95
            go_wp2_with fail
            go_ret
            exact ⟨rfl, by (repeat first | exact Below.refl _ _ | assumption | refine Below.drew ?_ | refine below_drewN ?_ _ | refine Below.more_ ?_ _ | refine Below.setCell ?_ (by first | exact Nat.le_refl _ | (simp; done) | (simp; omega)) _)⟩
        · rcases hn with rfl | hn
          · have e : sRight ⟨2, key, value, old, 0⟩ = false := decide_eq_false (by simp only; omega)
            rw [e]
            clear e
            have tn := tl_nil
            have vn := tl_ne hv
            have vb := tl_neb hv
            have on := tl_ne ho
            have ob := tl_neb ho
            go_enter Tryz.func95, Tryz.ntmps95
            go_wp2_with fail
            go_ret
            exact ⟨rfl, by (repeat first | exact Below.refl _ _ | assumption | refine Below.drew ?_ | refine below_drewN ?_ _ | refine Below.more_ ?_ _ | refine Below.setCell ?_ (by first | exact Nat.le_refl _ | (simp; done) | (simp; omega)) _)⟩
          · have e : sRight ⟨2, key, value, old, n⟩ = false := decide_eq_false (by simp only; omega)
            rw [e]
            clear e
            have tn := tl_nil
            have vn := tl_ne hv
            have vb := tl_neb hv
            have on := tl_ne ho
            have ob := tl_neb ho
            have bn : (n == 0) = false := beq_eq_false_iff_ne.2 hn
            go_enter Tryz.func95, Tryz.ntmps95
            go_wp2_with fail
            go_ret
            exact ⟨rfl, by (repeat first | exact Below.refl _ _ | assumption | refine Below.drew ?_ | refine below_drewN ?_ _ | refine Below.more_ ?_ _ | refine Below.setCell ?_ (by first | exact Nat.le_refl _ | (simp; done) | (simp; omega)) _)⟩
    · rcases hv with hv | hv
      · rcases ho with ho | ho
        · rcases hn with rfl | hn
          · obtain rfl := empty_of hv
            obtain rfl := empty_of ho
            have e : sRight ⟨3, key, ByteArray.empty, ByteArray.empty, 0⟩ = true := decide_eq_true (show (1 : Int) ≤ 3 ∧ (3 : Int) ≤ 4 ∧ _ ∧ _ ∧ _ ∧ _ ∧ _ ∧ _ from ⟨by decide, by decide, h1, by first | exact h2 | decide, by first | exact h3 | decide, by first | exact .inl rfl | exact .inr rfl, by first | exact .inl rfl | exact .inr (.inl rfl) | exact .inr (.inr rfl), by first | exact .inl rfl | exact .inr rfl⟩)
            rw [e]
            clear e
            have tn := tl_nil
            go_enter Tryz.func95, Tryz.ntmps95
            go_wp2_with fail
            go_ret
            exact ⟨rfl, by (repeat first | exact Below.refl _ _ | assumption | refine Below.drew ?_ | refine below_drewN ?_ _ | refine Below.more_ ?_ _ | refine Below.setCell ?_ (by first | exact Nat.le_refl _ | (simp; done) | (simp; omega)) _)⟩
          · obtain rfl := empty_of hv
            obtain rfl := empty_of ho
            have e : sRight ⟨3, key, ByteArray.empty, ByteArray.empty, n⟩ = true := decide_eq_true (show (1 : Int) ≤ 3 ∧ (3 : Int) ≤ 4 ∧ _ ∧ _ ∧ _ ∧ _ ∧ _ ∧ _ from ⟨by decide, by decide, h1, by first | exact h2 | decide, by first | exact h3 | decide, by first | exact .inl rfl | exact .inr rfl, by first | exact .inl rfl | exact .inr (.inl rfl) | exact .inr (.inr rfl), by first | exact .inl rfl | exact .inr rfl⟩)
            rw [e]
            clear e
            have tn := tl_nil
            have bn : (n == 0) = false := beq_eq_false_iff_ne.2 hn
            go_enter Tryz.func95, Tryz.ntmps95
            go_wp2_with fail
            go_ret
            exact ⟨rfl, by (repeat first | exact Below.refl _ _ | assumption | refine Below.drew ?_ | refine below_drewN ?_ _ | refine Below.more_ ?_ _ | refine Below.setCell ?_ (by first | exact Nat.le_refl _ | (simp; done) | (simp; omega)) _)⟩
        · rcases hn with rfl | hn
          · obtain rfl := empty_of hv
            have e : sRight ⟨3, key, ByteArray.empty, old, 0⟩ = false := decide_eq_false (by simp only; omega)
            rw [e]
            clear e
            have tn := tl_nil
            have on := tl_ne ho
            have ob := tl_neb ho
            go_enter Tryz.func95, Tryz.ntmps95
            go_wp2_with fail
            go_ret
            exact ⟨rfl, by (repeat first | exact Below.refl _ _ | assumption | refine Below.drew ?_ | refine below_drewN ?_ _ | refine Below.more_ ?_ _ | refine Below.setCell ?_ (by first | exact Nat.le_refl _ | (simp; done) | (simp; omega)) _)⟩
          · obtain rfl := empty_of hv
            have e : sRight ⟨3, key, ByteArray.empty, old, n⟩ = false := decide_eq_false (by simp only; omega)
            rw [e]
            clear e
            have tn := tl_nil
            have on := tl_ne ho
            have ob := tl_neb ho
            have bn : (n == 0) = false := beq_eq_false_iff_ne.2 hn
            go_enter Tryz.func95, Tryz.ntmps95
            go_wp2_with fail
            go_ret
            exact ⟨rfl, by (repeat first | exact Below.refl _ _ | assumption | refine Below.drew ?_ | refine below_drewN ?_ _ | refine Below.more_ ?_ _ | refine Below.setCell ?_ (by first | exact Nat.le_refl _ | (simp; done) | (simp; omega)) _)⟩
      · rcases ho with ho | ho
        · rcases hn with rfl | hn
          · obtain rfl := empty_of ho
            have e : sRight ⟨3, key, value, ByteArray.empty, 0⟩ = false := decide_eq_false (by simp only; omega)
            rw [e]
            clear e
            have tn := tl_nil
            have vn := tl_ne hv
            have vb := tl_neb hv
            go_enter Tryz.func95, Tryz.ntmps95
            go_wp2_with fail
            go_ret
            exact ⟨rfl, by (repeat first | exact Below.refl _ _ | assumption | refine Below.drew ?_ | refine below_drewN ?_ _ | refine Below.more_ ?_ _ | refine Below.setCell ?_ (by first | exact Nat.le_refl _ | (simp; done) | (simp; omega)) _)⟩
          · obtain rfl := empty_of ho
            have e : sRight ⟨3, key, value, ByteArray.empty, n⟩ = false := decide_eq_false (by simp only; omega)
            rw [e]
            clear e
            have tn := tl_nil
            have vn := tl_ne hv
            have vb := tl_neb hv
            have bn : (n == 0) = false := beq_eq_false_iff_ne.2 hn
            go_enter Tryz.func95, Tryz.ntmps95
            go_wp2_with fail
            go_ret
            exact ⟨rfl, by (repeat first | exact Below.refl _ _ | assumption | refine Below.drew ?_ | refine below_drewN ?_ _ | refine Below.more_ ?_ _ | refine Below.setCell ?_ (by first | exact Nat.le_refl _ | (simp; done) | (simp; omega)) _)⟩
        · rcases hn with rfl | hn
          · have e : sRight ⟨3, key, value, old, 0⟩ = false := decide_eq_false (by simp only; omega)
            rw [e]
            clear e
            have tn := tl_nil
            have vn := tl_ne hv
            have vb := tl_neb hv
            have on := tl_ne ho
            have ob := tl_neb ho
            go_enter Tryz.func95, Tryz.ntmps95
            go_wp2_with fail
            go_ret
            exact ⟨rfl, by (repeat first | exact Below.refl _ _ | assumption | refine Below.drew ?_ | refine below_drewN ?_ _ | refine Below.more_ ?_ _ | refine Below.setCell ?_ (by first | exact Nat.le_refl _ | (simp; done) | (simp; omega)) _)⟩
          · have e : sRight ⟨3, key, value, old, n⟩ = false := decide_eq_false (by simp only; omega)
            rw [e]
            clear e
            have tn := tl_nil
            have vn := tl_ne hv
            have vb := tl_neb hv
            have on := tl_ne ho
            have ob := tl_neb ho
            have bn : (n == 0) = false := beq_eq_false_iff_ne.2 hn
            go_enter Tryz.func95, Tryz.ntmps95
            go_wp2_with fail
            go_ret
            exact ⟨rfl, by (repeat first | exact Below.refl _ _ | assumption | refine Below.drew ?_ | refine below_drewN ?_ _ | refine Below.more_ ?_ _ | refine Below.setCell ?_ (by first | exact Nat.le_refl _ | (simp; done) | (simp; omega)) _)⟩
    · rcases hv with hv | hv
      · rcases ho with ho | ho
        · rcases hn with rfl | hn
          · obtain rfl := empty_of hv
            obtain rfl := empty_of ho
            have e : sRight ⟨4, key, ByteArray.empty, ByteArray.empty, 0⟩ = true := decide_eq_true (show (1 : Int) ≤ 4 ∧ (4 : Int) ≤ 4 ∧ _ ∧ _ ∧ _ ∧ _ ∧ _ ∧ _ from ⟨by decide, by decide, h1, by first | exact h2 | decide, by first | exact h3 | decide, by first | exact .inl rfl | exact .inr rfl, by first | exact .inl rfl | exact .inr (.inl rfl) | exact .inr (.inr rfl), by first | exact .inl rfl | exact .inr rfl⟩)
            rw [e]
            clear e
            have tn := tl_nil
            go_enter Tryz.func95, Tryz.ntmps95
            go_wp2_with fail
            go_ret
            exact ⟨rfl, by (repeat first | exact Below.refl _ _ | assumption | refine Below.drew ?_ | refine below_drewN ?_ _ | refine Below.more_ ?_ _ | refine Below.setCell ?_ (by first | exact Nat.le_refl _ | (simp; done) | (simp; omega)) _)⟩
          · obtain rfl := empty_of hv
            obtain rfl := empty_of ho
            have e : sRight ⟨4, key, ByteArray.empty, ByteArray.empty, n⟩ = false := decide_eq_false (by simp only; omega)
            rw [e]
            clear e
            have tn := tl_nil
            have bn : (n == 0) = false := beq_eq_false_iff_ne.2 hn
            go_enter Tryz.func95, Tryz.ntmps95
            go_wp2_with fail
            go_ret
            exact ⟨rfl, by (repeat first | exact Below.refl _ _ | assumption | refine Below.drew ?_ | refine below_drewN ?_ _ | refine Below.more_ ?_ _ | refine Below.setCell ?_ (by first | exact Nat.le_refl _ | (simp; done) | (simp; omega)) _)⟩
        · rcases hn with rfl | hn
          · obtain rfl := empty_of hv
            have e : sRight ⟨4, key, ByteArray.empty, old, 0⟩ = true := decide_eq_true (show (1 : Int) ≤ 4 ∧ (4 : Int) ≤ 4 ∧ _ ∧ _ ∧ _ ∧ _ ∧ _ ∧ _ from ⟨by decide, by decide, h1, by first | exact h2 | decide, by first | exact h3 | decide, by first | exact .inl rfl | exact .inr rfl, by first | exact .inl rfl | exact .inr (.inl rfl) | exact .inr (.inr rfl), by first | exact .inl rfl | exact .inr rfl⟩)
            rw [e]
            clear e
            have tn := tl_nil
            have on := tl_ne ho
            have ob := tl_neb ho
            go_enter Tryz.func95, Tryz.ntmps95
            go_wp2_with fail
            go_ret
            exact ⟨rfl, by (repeat first | exact Below.refl _ _ | assumption | refine Below.drew ?_ | refine below_drewN ?_ _ | refine Below.more_ ?_ _ | refine Below.setCell ?_ (by first | exact Nat.le_refl _ | (simp; done) | (simp; omega)) _)⟩
          · obtain rfl := empty_of hv
            have e : sRight ⟨4, key, ByteArray.empty, old, n⟩ = false := decide_eq_false (by simp only; omega)
            rw [e]
            clear e
            have tn := tl_nil
            have on := tl_ne ho
            have ob := tl_neb ho
            have bn : (n == 0) = false := beq_eq_false_iff_ne.2 hn
            go_enter Tryz.func95, Tryz.ntmps95
            go_wp2_with fail
            go_ret
            exact ⟨rfl, by (repeat first | exact Below.refl _ _ | assumption | refine Below.drew ?_ | refine below_drewN ?_ _ | refine Below.more_ ?_ _ | refine Below.setCell ?_ (by first | exact Nat.le_refl _ | (simp; done) | (simp; omega)) _)⟩
      · rcases ho with ho | ho
        · rcases hn with rfl | hn
          · obtain rfl := empty_of ho
            have e : sRight ⟨4, key, value, ByteArray.empty, 0⟩ = true := decide_eq_true (show (1 : Int) ≤ 4 ∧ (4 : Int) ≤ 4 ∧ _ ∧ _ ∧ _ ∧ _ ∧ _ ∧ _ from ⟨by decide, by decide, h1, by first | exact h2 | decide, by first | exact h3 | decide, by first | exact .inl rfl | exact .inr rfl, by first | exact .inl rfl | exact .inr (.inl rfl) | exact .inr (.inr rfl), by first | exact .inl rfl | exact .inr rfl⟩)
            rw [e]
            clear e
            have tn := tl_nil
            have vn := tl_ne hv
            have vb := tl_neb hv
            go_enter Tryz.func95, Tryz.ntmps95
            go_wp2_with fail
            go_ret
            exact ⟨rfl, by (repeat first | exact Below.refl _ _ | assumption | refine Below.drew ?_ | refine below_drewN ?_ _ | refine Below.more_ ?_ _ | refine Below.setCell ?_ (by first | exact Nat.le_refl _ | (simp; done) | (simp; omega)) _)⟩
          · obtain rfl := empty_of ho
            have e : sRight ⟨4, key, value, ByteArray.empty, n⟩ = false := decide_eq_false (by simp only; omega)
            rw [e]
            clear e
            have tn := tl_nil
            have vn := tl_ne hv
            have vb := tl_neb hv
            have bn : (n == 0) = false := beq_eq_false_iff_ne.2 hn
            go_enter Tryz.func95, Tryz.ntmps95
            go_wp2_with fail
            go_ret
            exact ⟨rfl, by (repeat first | exact Below.refl _ _ | assumption | refine Below.drew ?_ | refine below_drewN ?_ _ | refine Below.more_ ?_ _ | refine Below.setCell ?_ (by first | exact Nat.le_refl _ | (simp; done) | (simp; omega)) _)⟩
        · rcases hn with rfl | hn
          · have e : sRight ⟨4, key, value, old, 0⟩ = true := decide_eq_true (show (1 : Int) ≤ 4 ∧ (4 : Int) ≤ 4 ∧ _ ∧ _ ∧ _ ∧ _ ∧ _ ∧ _ from ⟨by decide, by decide, h1, by first | exact h2 | decide, by first | exact h3 | decide, by first | exact .inl rfl | exact .inr rfl, by first | exact .inl rfl | exact .inr (.inl rfl) | exact .inr (.inr rfl), by first | exact .inl rfl | exact .inr rfl⟩)
            rw [e]
            clear e
            have tn := tl_nil
            have vn := tl_ne hv
            have vb := tl_neb hv
            have on := tl_ne ho
            have ob := tl_neb ho
            go_enter Tryz.func95, Tryz.ntmps95
            go_wp2_with fail
            go_ret
            exact ⟨rfl, by (repeat first | exact Below.refl _ _ | assumption | refine Below.drew ?_ | refine below_drewN ?_ _ | refine Below.more_ ?_ _ | refine Below.setCell ?_ (by first | exact Nat.le_refl _ | (simp; done) | (simp; omega)) _)⟩
          · have e : sRight ⟨4, key, value, old, n⟩ = false := decide_eq_false (by simp only; omega)
            rw [e]
            clear e
            have tn := tl_nil
            have vn := tl_ne hv
            have vb := tl_neb hv
            have on := tl_ne ho
            have ob := tl_neb ho
            have bn : (n == 0) = false := beq_eq_false_iff_ne.2 hn
            go_enter Tryz.func95, Tryz.ntmps95
            go_wp2_with fail
            go_ret
            exact ⟨rfl, by (repeat first | exact Below.refl _ _ | assumption | refine Below.drew ?_ | refine below_drewN ?_ _ | refine Below.more_ ?_ _ | refine Below.setCell ?_ (by first | exact Nat.le_refl _ | (simp; done) | (simp; omega)) _)⟩
    · clear hv ho hn
      · have e : sRight ⟨k, key, value, old, n⟩ = false := decide_eq_false (by simp only; omega)
        rw [e]
        clear e
        have nk1 : ((k : Int) == 1) = false := beq_eq_false_iff_ne.2 (by omega)
        have nk2 : ((k : Int) == 2) = false := beq_eq_false_iff_ne.2 (by omega)
        have nk3 : ((k : Int) == 3) = false := beq_eq_false_iff_ne.2 (by omega)
        have nk4 : ((k : Int) == 4) = false := beq_eq_false_iff_ne.2 (by omega)
        go_enter Tryz.func95, Tryz.ntmps95
        go_wp2_with fail
        go_ret
        exact ⟨rfl, by (repeat first | exact Below.refl _ _ | assumption | refine Below.drew ?_ | refine below_drewN ?_ _ | refine Below.more_ ?_ _ | refine Below.setCell ?_ (by first | exact Nat.le_refl _ | (simp; done) | (simp; omega)) _)⟩
end Go.Proofs.YtpkkjoiglemlgaaGreatDoor
