/-
  How calls and texts among the arguments are opened (layer 17). No condition.
-/
import Derived.Test.YtmifgjkikbgmiaaDoorOpenC
import Derived.Test.YtmifgjkikbgmiaaDoorAct
namespace Go.Proofs.YtmifgjkikbgmiaaDoor
set_option linter.unusedVariables false
open Go.ChangeShapes Go.WideShapes Go.ChangeAt Go.RowKit
section
variable {H : Type} {enc : TypeId × Value → H}
/-- A slice of texts. -/
theorem open_strings_list {P : Program} {w : World} {t e : TypeId} {v : Value} {d : DataW H} {ps : List MemPlace} {b0 : Nat} (ht : P.underlying t = some (.slice e)) (he : P.underlying e = some .string) (hc : P.cellsOf e = 1)
    (hv : Value.okWide P w .any b0 t v) (h : DataW.Trod enc P w 0 (fun _ => true) true t v d ps) (hlt : ∀ x ∈ ps, x.block < w.heap.size) :
    ∃ (A : Option Addr) (len cap : Nat) (xs : List ByteArray), v = .slice A len cap ∧ len ≤ cap ∧ cap ≤ maxLen ∧ xs.length = len ∧ Reads w w.heap.size 1 A len (xs.map Value.string) := by
  obtain ⟨A, len, cap, xs, h1, h2, h3, h4, h5, _⟩ := open_list (α := ByteArray) (fun x => [.string x]) (fun _ => True) ht hc (by omega) (fun _ => rfl) (fun n cs y hl hy => by
    obtain ⟨b, hb, _⟩ := DataW.trod_string he hy
    exact ⟨b, hb, trivial⟩) hv h hlt
  exact ⟨A, len, cap, xs, h1, h2, h3, h4, by rwa [flat_one] at h5⟩
set_option maxRecDepth 100000 in
theorem open_act {w : World} {base : Nat} {sp : Nat → Bool} {held : Bool} (n : Nat) (cs : List Value) (y : DataW H × List MemPlace) (hl : cs.length = 6) (h : DataW.trod enc Tryd.prog w base sp held n 24 cs = some y) :
    ∃ x : PAct, cs = [.int .i64 x.kind, .int .u64 x.block, .int .i64 x.cell, .int .u64 x.old, .int .u64 x.new, .string x.text] ∧ x.Ok := by
  obtain ⟨_, hf⟩ := rec_fields Tryd.underlying24 h
  match cs, hl with
  | [c0, c1, c2, c3, c4, c5], _ =>
    obtain ⟨n0, y0, h0⟩ := hf 0 _ rfl
    obtain ⟨n1, y1, h1⟩ := hf 1 _ rfl
    obtain ⟨n2, y2, h2⟩ := hf 2 _ rfl
    obtain ⟨n3, y3, h3⟩ := hf 3 _ rfl
    obtain ⟨n4, y4, h4⟩ := hf 4 _ rfl
    obtain ⟨n5, y5, h5⟩ := hf 5 _ rfl
    obtain ⟨a0, e0, _, w0⟩ := DataW.trod_int Tryd.underlying3 h0
    obtain ⟨a1, e1, _, w1⟩ := DataW.trod_int Tryd.underlying22 h1
    obtain ⟨a2, e2, _, w2⟩ := DataW.trod_int Tryd.underlying3 h2
    obtain ⟨a3, e3, _, w3⟩ := DataW.trod_int Tryd.underlying22 h3
    obtain ⟨a4, e4, _, w4⟩ := DataW.trod_int Tryd.underlying22 h4
    obtain ⟨a5, e5, _, w5⟩ := DataW.trod_string Tryd.underlying9 h5
    have e0' : c0 = .int .i64 a0 := by
      have : [c0] = [Value.int .i64 a0] := e0
      injection this
    have e1' : c1 = .int .u64 a1 := by
      have : [c1] = [Value.int .u64 a1] := e1
      injection this
    have e2' : c2 = .int .i64 a2 := by
      have : [c2] = [Value.int .i64 a2] := e2
      injection this
    have e3' : c3 = .int .u64 a3 := by
      have : [c3] = [Value.int .u64 a3] := e3
      injection this
    have e4' : c4 = .int .u64 a4 := by
      have : [c4] = [Value.int .u64 a4] := e4
      injection this
    have e5' : c5 = .string a5 := by
      have : [c5] = [Value.string a5] := e5
      injection this
    subst e0' e1' e2' e3' e4' e5'
    exact ⟨⟨a0, a1, a2, a3, a4, a5⟩, rfl, ⟨bounds_i64 w0, bounds_u64 w1, bounds_i64 w2, bounds_u64 w3, bounds_u64 w4, w5⟩⟩
end
end Go.Proofs.YtmifgjkikbgmiaaDoor
