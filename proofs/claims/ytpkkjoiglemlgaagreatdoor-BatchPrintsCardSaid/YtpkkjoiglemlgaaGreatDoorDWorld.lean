/-
  A world in which the sentinels lie as their initialisers lay them: for the witnesses. No condition.
-/
import Derived.Test.YtpkkjoiglemlgaaGreatDoorDFrame
namespace Go.Proofs.YtpkkjoiglemlgaaGreatDoor
set_option linter.unusedVariables false
noncomputable def low : Nat := (World.holding Tryz.prog default ⟨#[], #[], []⟩).heap.size
noncomputable def putVar (h : Array Obj) (g : Nat) (cs : Array Value) : Array Obj := h.modify g fun
  | .cells _ t frozen => .cells cs t frozen
  | o => o
noncomputable def sentBlocks : Array Obj := (sentN.map fun x => Obj.cells #[.string ⟨x.2.toArray⟩] 244).toArray
noncomputable def sentPut (h : Array Obj) : Array Obj := (sentG.zipIdx).foldl (fun h x => putVar h x.1 #[.iface 242 (.pointer (some ⟨low + x.2, 0, none⟩))]) h
/-- The sentinels lie behind what start-up lays. -/
noncomputable def laidWorld (os : Os) : World :=
  let w0 := World.holding Tryz.prog os ⟨sentBlocks, #[], []⟩
  { w0 with heap := sentPut w0.heap }
end Go.Proofs.YtpkkjoiglemlgaaGreatDoor
