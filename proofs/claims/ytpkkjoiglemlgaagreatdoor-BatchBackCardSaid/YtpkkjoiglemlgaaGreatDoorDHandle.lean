/-
  errors.errorType out of a row's list; a world in which it lies. No condition.
-/
import Derived.Test.YtpkkjoiglemlgaaGreatDoorDWorld
import Derived.Test.YtpkkjoiglemlgaaGreatDoorAs
import Derived.LaidHandle
namespace Go.Proofs.YtpkkjoiglemlgaaGreatDoor
set_option linter.unusedVariables false
open Go.ChangeShapes Go.WideShapes Go.ChangeAt Go.RowKit
theorem etGlobal : Tryz.prog.globalNamed "errors.errorType" = some 8 := by kernel_rfl
theorem etRtype : (Tryz.prog.cutTypes.find? (·.1 == "internal/reflectlite.rtype")).map (·.2) = some 173 := by kernel_rfl
theorem etRow : ((List.range Tryz.prog.types.size).filter fun t => Tryz.prog.rowNamed t [101, 114, 114, 111, 114]) = [26] := by kernel_rfl
theorem ety_of_laid {W : World} (h : handlesMet Tryz.prog [("errors.errorType", .iface "internal/reflectlite.rtype" (.agg [.ptr (.lit (.string [101, 114, 114, 111, 114]))]))] W) : ETy W := by
  obtain ⟨name, u, ty, e1, e2, e3, e4, e5⟩ := h _ (List.mem_singleton.2 rfl)
  have en : name = [101, 114, 114, 111, 114] := (Option.some.inj e1).symm
  subst en
  obtain rfl := Option.some.inj (etRtype.symm.trans e2)
  have hm : ty ∈ (List.range Tryz.prog.types.size).filter fun t => Tryz.prog.rowNamed t [101, 114, 114, 111, 114] := List.mem_filter.2 ⟨List.mem_range.2 e3, e4⟩
  rw [etRow] at hm
  obtain rfl := List.mem_singleton.1 hm
  have hh : typeHandle Tryz.prog 26 = .pointer (some ⟨26, 26, none⟩) := by kernel_rfl
  rw [hh] at e5
  unfold ETy
  simpa using World.var?_cell etGlobal e5 0
noncomputable def laidWorldT (os : Os) : World :=
  let w0 := laidWorld os
  { w0 with heap := putVar w0.heap 8 #[.iface 173 (.agg #[.pointer (some ⟨26, 26, none⟩)])] }
end Go.Proofs.YtpkkjoiglemlgaaGreatDoor
