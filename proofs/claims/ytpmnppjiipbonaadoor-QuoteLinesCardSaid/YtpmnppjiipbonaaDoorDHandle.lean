/-
  errors.errorType out of a row's list; a world in which it lies. No condition.
-/
import Derived.Test.YtpmnppjiipbonaaDoorDWorld
import Derived.Test.YtpmnppjiipbonaaDoorAs
import Derived.LaidHandle
namespace Go.Proofs.YtpmnppjiipbonaaDoor
set_option linter.unusedVariables false
open Go.ChangeShapes Go.WideShapes Go.ChangeAt Go.RowKit
theorem etGlobal : Tryd.prog.globalNamed "errors.errorType" = some 8 := by kernel_rfl
theorem etRtype : (Tryd.prog.cutTypes.find? (·.1 == "internal/reflectlite.rtype")).map (·.2) = some 158 := by kernel_rfl
theorem etRow : ((List.range Tryd.prog.types.size).filter fun t => Tryd.prog.rowNamed t [101, 114, 114, 111, 114]) = [24] := by kernel_rfl
theorem ety_of_laid {W : World} (h : handlesMet Tryd.prog [("errors.errorType", .iface "internal/reflectlite.rtype" (.agg [.ptr (.lit (.string [101, 114, 114, 111, 114]))]))] W) : ETy W := by
  obtain ⟨name, u, ty, e1, e2, e3, e4, e5⟩ := h _ (List.mem_singleton.2 rfl)
  have en : name = [101, 114, 114, 111, 114] := (Option.some.inj e1).symm
  subst en
  obtain rfl := Option.some.inj (etRtype.symm.trans e2)
  have hm : ty ∈ (List.range Tryd.prog.types.size).filter fun t => Tryd.prog.rowNamed t [101, 114, 114, 111, 114] := List.mem_filter.2 ⟨List.mem_range.2 e3, e4⟩
  rw [etRow] at hm
  obtain rfl := List.mem_singleton.1 hm
  have hh : typeHandle Tryd.prog 24 = .pointer (some ⟨23, 24, none⟩) := by kernel_rfl
  rw [hh] at e5
  unfold ETy
  simpa using World.var?_cell etGlobal e5 0
noncomputable def laidWorldT (os : Os) : World :=
  let w0 := laidWorld os
  { w0 with heap := putVar w0.heap 8 #[.iface 158 (.agg #[.pointer (some ⟨23, 24, none⟩)])] }
end Go.Proofs.YtpmnppjiipbonaaDoor
