/-
  TakeText, and the document's. No condition.
-/
import Derived.Test.YtmifgjkikbgmiaaDoorSeptetP
import Derived.Test.YtmifgjkikbgmiaaDoorPlaces
namespace Go.Proofs.YtmifgjkikbgmiaaDoor
set_option linter.unusedVariables false
open Go.RowKit Go.Extern.Stop Go.Stop Go.Extern Go.ChangeShapes

/-- TakeText's answer. -/
def tkt (s : ByteArray) (p m : Int) : ByteArray × Int × Int :=
  if (tk s p).2.2 ≠ 0 then (ByteArray.empty, 0, (tk s p).2.2)
  else if m < 0 ∨ m < (tk s p).1 then (ByteArray.empty, 0, 3)
  else if (s.size : Int) - (tk s p).2.1 < (tk s p).1 then (ByteArray.empty, 0, 2)
  else (s.extract (tk s p).2.1.toNat ((tk s p).2.1.toNat + (tk s p).1), (tk s p).2.1 + (tk s p).1, 0)
theorem tk_code (s : ByteArray) (p : Int) : (tk s p).2.2 = 0 ∨ (tk s p).2.2 = 1 ∨ (tk s p).2.2 = 2 ∨ (tk s p).2.2 = 3 ∨ (tk s p).2.2 = 4 := by
  unfold tk
  split
  · simp
  · split
    · simp
    · simp only [tkc]
      split
      · simp
      · split
        · simp
        · split
          · simp
          · split <;> simp
end Go.Proofs.YtmifgjkikbgmiaaDoor
