import Derived.Test.YtjoaifdjmdihoaaFrame
import Derived.Test.YtjoaifdjmdihoaaTapeD
import Derived.Test.YtjoaifdjmdihoaaPlan
/-
  How records among the arguments are opened: answers, changes. No condition.
-/
namespace Go.Proofs.Ytjoaifdjmdihoaa
set_option linter.unusedVariables false
open Go.ChangeShapes Go.WideShapes Go.ChangeAt Go.RowKit
section
variable {H : Type} {enc : TypeId × Value → H}
theorem rec_fields {P : Program} {w : World} {base : Nat} {sp : Nat → Bool} {held : Bool} {fuel : Nat} {t : TypeId} {fs : Array Field} {cs : List Value} {x : DataW H × List MemPlace} (ht : P.underlying t = some (.struct fs)) (h : DataW.trod enc P w base sp held fuel t cs = some x) :
    cs.length = P.cellsOf t ∧ ∀ (i : Nat) (f : Field), fs[i]? = some f → ∃ n y, DataW.trod enc P w base sp held n f.type ((cs.drop f.offset).take (P.cellsOf f.type)) = some y := by
  obtain ⟨xs, n, _, _, hl, hlen, hf⟩ := DataW.trod_struct ht h
  refine ⟨hl, fun i f hi => ?_⟩
  have h1 := hf i f hi
  have h2 : i < fs.size := (Array.getElem?_eq_some_iff.mp hi).1
  exact ⟨n, xs[i]'(by omega), h1.trans (List.getElem?_eq_getElem (by omega))⟩
set_option maxRecDepth 100000 in
theorem open_got {w : World} {base : Nat} {sp : Nat → Bool} {held : Bool} (n : Nat) (cs : List Value) (y : DataW H × List MemPlace) (hl : cs.length = 2) (h : DataW.trod enc Try.prog w base sp held n 61 cs = some y) :
    ∃ g : PGot, cs = [.int .u64 g.word, .string g.text] ∧ g.Ok := by
  obtain ⟨_, hf⟩ := rec_fields Try.underlying61 h
  match cs, hl with
  | [c0, c1], _ =>
    obtain ⟨n0, y0, h0⟩ := hf 0 _ rfl
    obtain ⟨n1, y1, h1⟩ := hf 1 _ rfl
    obtain ⟨a, e0, _, w0⟩ := DataW.trod_int Try.underlying32 h0
    obtain ⟨b, e1, _, w1⟩ := DataW.trod_string Try.underlying9 h1
    have e0' : c0 = .int .u64 a := by
      have : [c0] = [Value.int .u64 a] := e0
      injection this
    have e1' : c1 = .string b := by
      have : [c1] = [Value.string b] := e1
      injection this
    subst e0' e1'
    exact ⟨⟨a, b⟩, rfl, bounds_u64 w0⟩
set_option maxRecDepth 100000 in
theorem open_change {w : World} {v : Value} {d : DataW H} {ps : List MemPlace} {b0 : Nat} (hv : Value.okWide Try.prog w .any b0 67 v) (h : DataW.Trod enc Try.prog w 0 (fun _ => true) true 67 v d ps) :
    ∃ c : PChange, v = c.val := by
  simp only [Value.okWide, Try.underlying67] at hv
  obtain ⟨cs, rfl, hsz, _⟩ := hv
  obtain ⟨l⟩ := cs
  match l, hsz with
  | [c0, c1, c2], _ =>
    obtain ⟨fuel, hf0⟩ := h
    obtain ⟨_, hf⟩ := rec_fields Try.underlying67 hf0
    obtain ⟨n0, y0, h0⟩ := hf 0 _ rfl
    obtain ⟨n1, y1, h1⟩ := hf 1 _ rfl
    obtain ⟨n2, y2, h2⟩ := hf 2 _ rfl
    obtain ⟨a, e0, _, w0⟩ := DataW.trod_string Try.underlying9 h0
    obtain ⟨b, e1, _⟩ := DataW.trod_bool Try.underlying4 h1
    obtain ⟨c, e2, _, w2⟩ := DataW.trod_string Try.underlying9 h2
    have e0' : c0 = .string a := by
      have : [c0] = [Value.string a] := e0
      injection this
    have e1' : c1 = .bool b := by
      have : [c1] = [Value.bool b] := e1
      injection this
    have e2' : c2 = .string c := by
      have : [c2] = [Value.string c] := e2
      injection this
    subst e0' e1' e2'
    exact ⟨⟨a, b, c⟩, rfl⟩
end
end Go.Proofs.Ytjoaifdjmdihoaa

/-
  How a config among the arguments is opened. No condition.
-/
namespace Go.Proofs.Ytjoaifdjmdihoaa
set_option linter.unusedVariables false
open Go.ChangeShapes Go.WideShapes Go.ChangeAt Go.RowKit
section
variable {H : Type} {enc : TypeId × Value → H}
end
end Go.Proofs.Ytjoaifdjmdihoaa
