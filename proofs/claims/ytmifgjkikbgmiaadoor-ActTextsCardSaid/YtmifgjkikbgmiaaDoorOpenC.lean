import Derived.Test.YtmifgjkikbgmiaaDoorFrame
import Derived.Test.YtmifgjkikbgmiaaDoorTapeD
import Derived.Test.YtmifgjkikbgmiaaDoorPlan
/-
  How records among the arguments are opened: answers, changes. No condition.
-/
namespace Go.Proofs.YtmifgjkikbgmiaaDoor
set_option linter.unusedVariables false
open Go.ChangeShapes Go.WideShapes Go.ChangeAt Go.RowKit
section
variable {H : Type} {enc : TypeId × Value → H}
theorem rec_fields {P : Program} {w : World} {base : Nat} {sp : Nat → Bool} {held : Bool} {fuel : Nat} {t : TypeId} {fs : Array Field} {cs : List Value} {x : DataW H × List MemPlace} (ht : P.underlying t = some (.struct fs)) (h : DataW.trod enc P w base sp held fuel t cs = some x) :
    cs.length = P.cellsOf t ∧ ∀ (i : Nat) (f : Field), fs[i]? = some f → ∃ n y, DataW.trod enc P w base sp held n f.type ((cs.drop f.offset).take (P.cellsOf f.type)) = some y := by
  obtain ⟨xs, n, _, _, hl, hlen, hf⟩ := DataW.trod_struct ht h
  refine ⟨hl, fun i f hi => ?_⟩
  have h1 := hf i f hi
  have h2 : i < fs.size := (Array.getElem?_eq_some_iff.mp hi).1
  exact ⟨n, xs[i]'(by omega), h1.trans (List.getElem?_eq_getElem (by omega))⟩
set_option maxRecDepth 100000 in
theorem open_got {w : World} {base : Nat} {sp : Nat → Bool} {held : Bool} (n : Nat) (cs : List Value) (y : DataW H × List MemPlace) (hl : cs.length = 2) (h : DataW.trod enc Tryd.prog w base sp held n 33 cs = some y) :
    ∃ g : PGot, cs = [.int .u64 g.word, .string g.text] ∧ g.Ok := by
  obtain ⟨_, hf⟩ := rec_fields Tryd.underlying33 h
  match cs, hl with
  | [c0, c1], _ =>
    obtain ⟨n0, y0, h0⟩ := hf 0 _ rfl
    obtain ⟨n1, y1, h1⟩ := hf 1 _ rfl
    obtain ⟨a, e0, _, w0⟩ := DataW.trod_int Tryd.underlying22 h0
    obtain ⟨b, e1, _, w1⟩ := DataW.trod_string Tryd.underlying9 h1
    have e0' : c0 = .int .u64 a := by
      have : [c0] = [Value.int .u64 a] := e0
      injection this
    have e1' : c1 = .string b := by
      have : [c1] = [Value.string b] := e1
      injection this
    subst e0' e1'
    exact ⟨⟨a, b⟩, rfl, bounds_u64 w0⟩
end
end Go.Proofs.YtmifgjkikbgmiaaDoor

/-
  How a config among the arguments is opened. No condition.
-/
namespace Go.Proofs.YtmifgjkikbgmiaaDoor
set_option linter.unusedVariables false
open Go.ChangeShapes Go.WideShapes Go.ChangeAt Go.RowKit
section
variable {H : Type} {enc : TypeId × Value → H}
end
end Go.Proofs.YtmifgjkikbgmiaaDoor
