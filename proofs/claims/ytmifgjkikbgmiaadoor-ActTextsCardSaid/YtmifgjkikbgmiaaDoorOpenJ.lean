/-
  How an act, given by value, is opened (layer 18). No condition.
-/
import Derived.Test.YtmifgjkikbgmiaaDoorOpenK
namespace Go.Proofs.YtmifgjkikbgmiaaDoor
set_option linter.unusedVariables false
open Go.ChangeShapes Go.WideShapes Go.ChangeAt Go.RowKit
section
variable {H : Type} {enc : TypeId × Value → H}
set_option maxRecDepth 100000 in
theorem open_act1 {w : World} {v : Value} {d : DataW H} {ps : List MemPlace} {b0 : Nat} (hv : Value.okWide Tryd.prog w .any b0 24 v) (h : DataW.Trod enc Tryd.prog w 0 (fun _ => true) true 24 v d ps) :
    ∃ x : PAct, v = x.val ∧ x.Ok := by
  simp only [Value.okWide, Tryd.underlying24] at hv
  obtain ⟨cs, rfl, hsz, _⟩ := hv
  obtain ⟨l⟩ := cs
  obtain ⟨fuel, hf0⟩ := h
  obtain ⟨x, e, hok⟩ := open_act fuel l _ hsz hf0
  refine ⟨x, ?_, hok⟩
  rw [show PAct.val x = .agg #[.int .i64 x.kind, .int .u64 x.block, .int .i64 x.cell, .int .u64 x.old, .int .u64 x.new, .string x.text] from rfl]
  have : l = [.int .i64 x.kind, .int .u64 x.block, .int .i64 x.cell, .int .u64 x.old, .int .u64 x.new, .string x.text] := e
  rw [this]
end
end Go.Proofs.YtmifgjkikbgmiaaDoor
