/-
  The document's Take; TakeInt, TakeText. No condition.
-/
import Derived.Test.YtmifgjkikbgmiaaDoorSeptet3
import Derived.Test.YtmifgjkikbgmiaaDoorFr
namespace Go.Proofs.YtmifgjkikbgmiaaDoor
set_option linter.unusedVariables false
open Go.RowKit Go.Extern.Stop Go.Stop Go.Extern Go.ChangeShapes

theorem psum_bound (f : Nat → Nat) {k : Nat} (hk : k ≤ 8 ∨ (k = 9 ∧ f 9 ≤ 1)) : psum f (k + 1) < 18446744073709551616 := by
  rcases hk with hk | ⟨rfl, hf⟩
  · exact Nat.lt_of_lt_of_le (psum_lt f (k + 1)) (Nat.le_trans (Nat.pow_le_pow_right (by decide) (show k + 1 ≤ 9 by omega)) (by decide))
  · have h1 := psum_lt f 9
    have h2 : f 9 % 128 * 128 ^ 9 ≤ 1 * 128 ^ 9 := Nat.mul_le_mul_right _ (by omega)
    have h3 : (128 : Nat) ^ 9 = 9223372036854775808 := by decide
    rw [psum]
    omega
end Go.Proofs.YtmifgjkikbgmiaaDoor
