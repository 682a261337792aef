/-
  How calls and texts among the arguments are opened (layer 17). No condition.
-/
import Derived.Test.YtfelkkbgbgnpaaaOpenC
import Derived.Test.YtfelkkbgbgnpaaaAct
namespace Go.Proofs.Ytfelkkbgbgnpaaa
set_option linter.unusedVariables false
open Go.ChangeShapes Go.WideShapes Go.ChangeAt Go.RowKit
section
variable {H : Type} {enc : TypeId × Value → H}
/-- A slice of texts. -/
theorem open_strings_list {P : Program} {w : World} {t e : TypeId} {v : Value} {d : DataW H} {ps : List MemPlace} {b0 : Nat} (ht : P.underlying t = some (.slice e)) (he : P.underlying e = some .string) (hc : P.cellsOf e = 1)
    (hv : Value.okWide P w .any b0 t v) (h : DataW.Trod enc P w 0 (fun _ => true) true t v d ps) (hlt : ∀ x ∈ ps, x.block < w.heap.size) :
    ∃ (A : Option Addr) (len cap : Nat) (xs : List ByteArray), v = .slice A len cap ∧ len ≤ cap ∧ cap ≤ maxLen ∧ xs.length = len ∧ Reads w w.heap.size 1 A len (xs.map Value.string) := by
  obtain ⟨A, len, cap, xs, h1, h2, h3, h4, h5, _⟩ := open_list (α := ByteArray) (fun x => [.string x]) (fun _ => True) ht hc (by omega) (fun _ => rfl) (fun n cs y hl hy => by
    obtain ⟨b, hb, _⟩ := DataW.trod_string he hy
    exact ⟨b, hb, trivial⟩) hv h hlt
  exact ⟨A, len, cap, xs, h1, h2, h3, h4, by rwa [flat_one] at h5⟩
end
end Go.Proofs.Ytfelkkbgbgnpaaa
