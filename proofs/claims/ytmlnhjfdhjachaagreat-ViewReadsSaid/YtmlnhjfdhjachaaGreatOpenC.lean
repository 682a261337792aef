import Derived.Test.YtmlnhjfdhjachaaGreatFrame
import Derived.Test.YtmlnhjfdhjachaaGreatTapeD
import Derived.Test.YtmlnhjfdhjachaaGreatPlan
/-
  How records among the arguments are opened: answers, changes. No condition.
-/
namespace Go.Proofs.YtmlnhjfdhjachaaGreat
set_option linter.unusedVariables false
open Go.ChangeShapes Go.WideShapes Go.ChangeAt Go.RowKit
section
variable {H : Type} {enc : TypeId × Value → H}
theorem rec_fields {P : Program} {w : World} {base : Nat} {sp : Nat → Bool} {held : Bool} {fuel : Nat} {t : TypeId} {fs : Array Field} {cs : List Value} {x : DataW H × List MemPlace} (ht : P.underlying t = some (.struct fs)) (h : DataW.trod enc P w base sp held fuel t cs = some x) :
    cs.length = P.cellsOf t ∧ ∀ (i : Nat) (f : Field), fs[i]? = some f → ∃ n y, DataW.trod enc P w base sp held n f.type ((cs.drop f.offset).take (P.cellsOf f.type)) = some y := by
  obtain ⟨xs, n, _, _, hl, hlen, hf⟩ := DataW.trod_struct ht h
  refine ⟨hl, fun i f hi => ?_⟩
  have h1 := hf i f hi
  have h2 : i < fs.size := (Array.getElem?_eq_some_iff.mp hi).1
  exact ⟨n, xs[i]'(by omega), h1.trans (List.getElem?_eq_getElem (by omega))⟩
set_option maxRecDepth 100000 in
theorem open_got {w : World} {base : Nat} {sp : Nat → Bool} {held : Bool} (n : Nat) (cs : List Value) (y : DataW H × List MemPlace) (hl : cs.length = 2) (h : DataW.trod enc Tryz.prog w base sp held n 52 cs = some y) :
    ∃ g : PGot, cs = [.int .u64 g.word, .string g.text] ∧ g.Ok := by
  obtain ⟨_, hf⟩ := rec_fields Tryz.underlying52 h
  match cs, hl with
  | [c0, c1], _ =>
    obtain ⟨n0, y0, h0⟩ := hf 0 _ rfl
    obtain ⟨n1, y1, h1⟩ := hf 1 _ rfl
    obtain ⟨a, e0, _, w0⟩ := DataW.trod_int Tryz.underlying22 h0
    obtain ⟨b, e1, _, w1⟩ := DataW.trod_string Tryz.underlying9 h1
    have e0' : c0 = .int .u64 a := by
      have : [c0] = [Value.int .u64 a] := e0
      injection this
    have e1' : c1 = .string b := by
      have : [c1] = [Value.string b] := e1
      injection this
    subst e0' e1'
    exact ⟨⟨a, b⟩, rfl, bounds_u64 w0⟩
set_option maxRecDepth 100000 in
theorem open_change {w : World} {v : Value} {d : DataW H} {ps : List MemPlace} {b0 : Nat} (hv : Value.okWide Tryz.prog w .any b0 57 v) (h : DataW.Trod enc Tryz.prog w 0 (fun _ => true) true 57 v d ps) :
    ∃ c : PChange, v = c.val := by
  simp only [Value.okWide, Tryz.underlying57] at hv
  obtain ⟨cs, rfl, hsz, _⟩ := hv
  obtain ⟨l⟩ := cs
  match l, hsz with
  | [c0, c1, c2], _ =>
    obtain ⟨fuel, hf0⟩ := h
    obtain ⟨_, hf⟩ := rec_fields Tryz.underlying57 hf0
    obtain ⟨n0, y0, h0⟩ := hf 0 _ rfl
    obtain ⟨n1, y1, h1⟩ := hf 1 _ rfl
    obtain ⟨n2, y2, h2⟩ := hf 2 _ rfl
    obtain ⟨a, e0, _, w0⟩ := DataW.trod_string Tryz.underlying9 h0
    obtain ⟨b, e1, _⟩ := DataW.trod_bool Tryz.underlying4 h1
    obtain ⟨c, e2, _, w2⟩ := DataW.trod_string Tryz.underlying9 h2
    have e0' : c0 = .string a := by
      have : [c0] = [Value.string a] := e0
      injection this
    have e1' : c1 = .bool b := by
      have : [c1] = [Value.bool b] := e1
      injection this
    have e2' : c2 = .string c := by
      have : [c2] = [Value.string c] := e2
      injection this
    subst e0' e1' e2'
    exact ⟨⟨a, b, c⟩, rfl⟩
end
end Go.Proofs.YtmlnhjfdhjachaaGreat

/-
  How a config among the arguments is opened. No condition.
-/
namespace Go.Proofs.YtmlnhjfdhjachaaGreat
set_option linter.unusedVariables false
open Go.ChangeShapes Go.WideShapes Go.ChangeAt Go.RowKit
section
variable {H : Type} {enc : TypeId × Value → H}
set_option maxRecDepth 100000 in
theorem open_config {w : World} {v : Value} {d : DataW H} {ps : List MemPlace} {b0 : Nat} (hv : Value.okWide Tryz.prog w .any b0 24 v) (h : DataW.Trod enc Tryz.prog w 0 (fun _ => true) true 24 v d ps) :
    ∃ c : PCfg, v = c.val ∧ (-9223372036854775808 ≤ c.cap ∧ c.cap ≤ 9223372036854775807) ∧ (0 ≤ c.seed ∧ c.seed ≤ 18446744073709551615) := by
  simp only [Value.okWide, Tryz.underlying24] at hv
  obtain ⟨cs, rfl, hsz, _⟩ := hv
  obtain ⟨l⟩ := cs
  match l, hsz with
  | [c0, c1, c2, c3, c4, c5], _ =>
    obtain ⟨fuel, hf0⟩ := h
    obtain ⟨_, hf⟩ := rec_fields Tryz.underlying24 hf0
    obtain ⟨n0, y0, h0⟩ := hf 0 _ rfl
    obtain ⟨n1, y1, h1⟩ := hf 1 _ rfl
    obtain ⟨n2, y2, h2⟩ := hf 2 _ rfl
    obtain ⟨n3, y3, h3⟩ := hf 3 _ rfl
    obtain ⟨n4, y4, h4⟩ := hf 4 _ rfl
    obtain ⟨n5, y5, h5⟩ := hf 5 _ rfl
    obtain ⟨a0, e0, _, w0⟩ := DataW.trod_int Tryz.underlying3 h0
    obtain ⟨a1, e1, _, w1⟩ := DataW.trod_int Tryz.underlying3 h1
    obtain ⟨a2, e2, _, w2⟩ := DataW.trod_int Tryz.underlying3 h2
    obtain ⟨a3, e3, _, w3⟩ := DataW.trod_int Tryz.underlying3 h3
    obtain ⟨a4, e4, _, w4⟩ := DataW.trod_int Tryz.underlying3 h4
    obtain ⟨a5, e5, _, w5⟩ := DataW.trod_int Tryz.underlying22 h5
    have e0' : c0 = .int .i64 a0 := by
      have : [c0] = [Value.int .i64 a0] := e0
      injection this
    have e1' : c1 = .int .i64 a1 := by
      have : [c1] = [Value.int .i64 a1] := e1
      injection this
    have e2' : c2 = .int .i64 a2 := by
      have : [c2] = [Value.int .i64 a2] := e2
      injection this
    have e3' : c3 = .int .i64 a3 := by
      have : [c3] = [Value.int .i64 a3] := e3
      injection this
    have e4' : c4 = .int .i64 a4 := by
      have : [c4] = [Value.int .i64 a4] := e4
      injection this
    have e5' : c5 = .int .u64 a5 := by
      have : [c5] = [Value.int .u64 a5] := e5
      injection this
    subst e0' e1' e2' e3' e4' e5'
    exact ⟨⟨a0, a1, a2, a3, a4, a5⟩, rfl, bounds_i64 w0, bounds_u64 w5⟩
end
end Go.Proofs.YtmlnhjfdhjachaaGreat
