/-
  Tapes that are cut off the answers that came in. No condition.
-/
import Derived.Test.YtmlnhjfdhjachaaGreatTapeD
namespace Go.Proofs.YtmlnhjfdhjachaaGreat
set_option linter.unusedVariables false
open Go.ChangeShapes Go.WideShapes Go.ChangeAt Go.RowKit
open Go.ChangeMaps (setBlock)

theorem gotL_flat (l : List PGot) : gotL l = l.flatMap fun g => [Value.int .u64 g.word, .string g.text] := rfl
theorem gotL_take (l : List PGot) (k : Nat) : gotL (l.take k) = (gotL l).take (k * 2) := by
  induction l generalizing k with
  | nil => simp [gotL]
  | cons x l ih =>
    cases k with
    | zero => simp [gotL]
    | succ k =>
      have := ih k
      simp only [gotL, List.take_succ_cons, List.map_cons, List.flatten_cons] at this ⊢
      rw [this, show (k + 1) * 2 = k * 2 + 2 by omega]
      rfl
theorem reads_take {w : World} {B n k : Nat} {A : Option Addr} {gs : List PGot} (h : Reads w B 2 A n (gotL gs)) (hk : k ≤ n) (hl : gs.length = n) : Reads w B 2 A (gs.take k).length (gotL (gs.take k)) := by
  have e : (gs.take k).length = k := by simp; omega
  rw [e]
  refine ⟨?_, fun hn => ?_⟩
  · have : ∀ l : List PGot, (gotL l).length = l.length * 2 := by
      intro l
      induction l with
      | nil => rfl
      | cons x l ih => simp only [gotL, List.map_cons, List.flatten_cons, List.length_append, List.length_cons] at ih ⊢; rw [ih]; simp; omega
    rw [this, e]
  · obtain ⟨ad, rfl, hb, hc⟩ := h.2 (by omega)
    refine ⟨ad, rfl, hb, fun j u hu => hc j u ?_⟩
    rw [gotL_take, List.getElem?_take] at hu
    split at hu
    · exact hu
    · cases hu
def freshT (gs : List PGot) : PTape := ⟨gs, 0, false, noAct⟩
end Go.Proofs.YtmlnhjfdhjachaaGreat
