/-
  A world in which the sentinels lie as their initialisers lay them: for the witnesses. No condition.
-/
import Derived.Test.YtmifgjkikbgmiaaDoorDFrame
namespace Go.Proofs.YtmifgjkikbgmiaaDoor
set_option linter.unusedVariables false
noncomputable def low : Nat := (World.holding Tryd.prog default ⟨#[], #[], []⟩).heap.size
noncomputable def putVar (h : Array Obj) (g : Nat) (cs : Array Value) : Array Obj := h.modify g fun
  | .cells _ t frozen => .cells cs t frozen
  | o => o
end Go.Proofs.YtmifgjkikbgmiaaDoor
