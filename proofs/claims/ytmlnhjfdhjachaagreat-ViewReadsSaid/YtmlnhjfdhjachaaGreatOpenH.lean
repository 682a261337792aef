/-
  How rows of changes among the arguments are opened. No condition.
-/
import Derived.Test.YtmlnhjfdhjachaaGreatOpenC
namespace Go.Proofs.YtmlnhjfdhjachaaGreat
set_option linter.unusedVariables false
open Go.ChangeShapes Go.WideShapes Go.ChangeAt Go.RowKit
section
variable {H : Type} {enc : TypeId × Value → H}
set_option maxRecDepth 100000 in
theorem open_chg {w : World} {base : Nat} {sp : Nat → Bool} {held : Bool} (n : Nat) (cs : List Value) (y : DataW H × List MemPlace) (hl : cs.length = 3) (h : DataW.trod enc Tryz.prog w base sp held n 57 cs = some y) :
    ∃ c : PChange, cs = [.string c.key, .bool c.has, .string c.value] ∧ (c.key.size ≤ maxLen ∧ c.value.size ≤ maxLen) := by
  obtain ⟨_, hf⟩ := rec_fields Tryz.underlying57 h
  match cs, hl with
  | [c0, c1, c2], _ =>
    obtain ⟨n0, y0, h0⟩ := hf 0 _ rfl
    obtain ⟨n1, y1, h1⟩ := hf 1 _ rfl
    obtain ⟨n2, y2, h2⟩ := hf 2 _ rfl
    obtain ⟨a, e0, _, w0⟩ := DataW.trod_string Tryz.underlying9 h0
    obtain ⟨b, e1, _⟩ := DataW.trod_bool Tryz.underlying4 h1
    obtain ⟨c, e2, _, w2⟩ := DataW.trod_string Tryz.underlying9 h2
    have e0' : c0 = .string a := by
      have : [c0] = [Value.string a] := e0
      injection this
    have e1' : c1 = .bool b := by
      have : [c1] = [Value.bool b] := e1
      injection this
    have e2' : c2 = .string c := by
      have : [c2] = [Value.string c] := e2
      injection this
    subst e0' e1' e2'
    exact ⟨⟨a, b, c⟩, rfl, w0, w2⟩
end
end Go.Proofs.YtmlnhjfdhjachaaGreat
