/-
  strconv.ErrRange out of a row's list. No condition.
-/
import Derived.Test.YtpkkjoiglemlgaaGreatDoorDFrame
namespace Go.Proofs.YtpkkjoiglemlgaaGreatDoor
set_option linter.unusedVariables false
open Go.ChangeShapes Go.WideShapes Go.ChangeAt Go.RowKit
/-- strconv.ErrRange has a value. -/
def RgV (W : World) : Prop := ∃ a : Addr, W.cell? ⟨23, 0, none⟩ = some (.iface 242 (.pointer (some a)))
theorem RgV.below {w w' : World} (h : RgV w) (hb : Below w.heap.size w w') : RgV w' := by
  obtain ⟨a, h⟩ := h
  exact ⟨a, (hb.cell (p := ⟨23, 0, none⟩) (cell_lt h)).trans h⟩
theorem rgv_of_laid {post : List (String × DataW Unit)} {W : World} (h : laidMet Tryz.prog (("strconv.ErrRange", Rows.laid_strconv_ErrRange) :: post) W) : RgV W := by
  obtain ⟨ps, hv, hnd, hrows⟩ := h
  obtain ⟨A, h1, _, _, h4⟩ := sents_at [(("strconv.ErrRange", [118, 97, 108, 117, 101, 32, 111, 117, 116, 32, 111, 102, 32, 114, 97, 110, 103, 101]), 23)] post W ps (fun x hx => by rw [List.mem_singleton] at hx; subst hx; exact ⟨by kernel_rfl, by kernel_rfl⟩) hv hnd hrows
  match A, h1 with
  | [a], _ => exact ⟨a, h4 0 _ a rfl rfl⟩
end Go.Proofs.YtpkkjoiglemlgaaGreatDoor
