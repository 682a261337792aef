/-
  How more kinds of arguments are opened. No condition.
-/
import Derived.Test.YtgnjjlbdiagklaaDoorFrame
namespace Go.Proofs.YtgnjjlbdiagklaaDoor
set_option linter.unusedVariables false
open Go.ChangeShapes Go.WideShapes Go.ChangeAt Go.RowKit
section
variable {H : Type} {enc : TypeId × Value → H} {P : Program}
/-- An array of two texts, by value. -/
theorem open_arr2s {w : World} {t e : TypeId} {v : Value} {d : DataW H} {ps : List MemPlace} {b0 : Nat} (ht : P.underlying t = some (.array 2 e)) (he : P.underlying e = some .string) (hc : P.cellsOf e = 1) (hc2 : P.cellsOf t = 2)
    (hv : Value.okWide P w .any b0 t v) (h : DataW.Trod enc P w 0 (fun _ => true) true t v d ps) : ∃ a b : ByteArray, v = .agg #[.string a, .string b] := by
  simp only [Value.okWide, ht] at hv
  obtain ⟨cs, rfl, hsz, _⟩ := hv
  obtain ⟨l⟩ := cs
  match l, hsz.trans hc2 with
  | [c0, c1], _ =>
    obtain ⟨fuel, hf⟩ := h
    obtain ⟨xs, m, _, _, _, hlen, hg⟩ := DataW.trod_array ht hf
    match xs, hlen with
    | [y0, y1], _ =>
      have g0 := hg 0 (by omega)
      have g1 := hg 1 (by omega)
      simp [hc, Value.cells] at g0 g1
      obtain ⟨a, e0, _, w0⟩ := DataW.trod_string he g0
      obtain ⟨b, e1, _, w1⟩ := DataW.trod_string he g1
      simp at e0 e1
      subst e0 e1
      exact ⟨a, b, rfl⟩
end
end Go.Proofs.YtgnjjlbdiagklaaDoor
