/-
  Reserving alone (layer 28): the plain law. No condition.
-/
import Derived.Test.YtmlnhjfdhjachaaGreatReserveR
import Derived.Test.YtmlnhjfdhjachaaGreatCtlO
import Derived.Test.YtmlnhjfdhjachaaGreatAlone
namespace Go.Proofs.YtmlnhjfdhjachaaGreat
set_option linter.unusedVariables false
open Go.ChangeShapes Go.WideShapes Go.ChangeAt Go.RowKit
open Go.ChangeMaps (setBlock)

theorem newRes_act (c : PCfg) (hc : c.Right) : PRes.act (newRes c) = (⟨1, 1, ((1 : Nat) : Int), 0, 0, ByteArray.empty⟩, true) := by
  unfold PRes.act PRes.idle newRes
  simp [(PCfg.right_iff c).2 hc]
theorem seen_act (s : PRes) (h1 : s.made = true) (h2 : s.over = false) (h3 : s.seen = true) : PRes.act s = (⟨3, 1, ((1 : Nat) : Int), s.was, s.next, ByteArray.empty⟩, true) := by
  simp [PRes.act, PRes.idle, h1, h2, h3]
theorem over_act (s : PRes) (h2 : s.over = true) : PRes.act s = (noAct, false) := by
  simp [PRes.act, PRes.idle, h2]
/-- What a thread that reserves alone comes to, from the word on. -/
def resOk (c : PCfg) (x : Int) : PRes := ⟨c, true, true, x, entV x c.cap, 0, true, false, cameOf x⟩
def resFull (c : PCfg) : PRes := ⟨c, true, false, 0, 0, 0, true, true, 0⟩
end Go.Proofs.YtmlnhjfdhjachaaGreat
