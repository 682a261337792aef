import Derived.Maps.RangeWalk
import Derived.Test.YtmlnhjfdhjachaaGreatProg
import Derived.Sort.WalkA
import Derived.Sort.WalkA6
import Derived.Sort.WalkC4
import Derived.Lib.Strings
import Derived.Lib.Slices
import Derived.Lib.Small
import Derived.Lib.Walk
import Derived.Lib.BitFns
import Derived.Sort.Walk7
import Derived.Sort.WalkB3
import Derived.Sort.WalkD2
import Derived.Sort.Walk11
import Derived.Sort.Walk13
import Derived.Sort.WalkA14
import Derived.Sort.AssemblyPlain
import Derived.Test.YtmlnhjfdhjachaaGreatQll2
/-
  A range over a map of words: whichever order the entries come in. No condition.
-/
namespace Go.Proofs.YtmlnhjfdhjachaaGreat
set_option linter.unusedVariables false
open Go.ChangeShapes Go.WideShapes Go.ChangeAt Go.RowKit
open Go.ChangeMaps (setBlock)

def keyI : Value → Int | .int _ q => q | _ => 0
def entI (e : MapEntry) : Int × Value := (keyI e.key, e.val)
/-- A loop over a map that holds l: what is to come yet. -/
structure Iter (w : World) (m r : Nat) (l left : List (Int × Value)) : Prop where
  ex : ∃ es clock seen, w.heap[m]? = some (.map es clock) ∧ kvs es = kvOf l ∧ MapKept.Stamped es clock ∧ w.heap[r]? = some (.mapIter (some m) clock seen clock) ∧ left = (leftOf es seen).toList.map entI
theorem Iter.keep {w w' : World} {m r : Nat} {l left : List (Int × Value)} (h : Iter w m r l left) (hm : w'.heap[m]? = w.heap[m]?) (hr : w'.heap[r]? = w.heap[r]?) : Iter w' m r l left := by
  obtain ⟨es, c, s, h1, h2, h3, h4, h5⟩ := h.ex
  exact ⟨es, c, s, hm.trans h1, h2, h3, hr.trans h4, h5⟩
theorem Iter.map {w : World} {m r : Nat} {l left : List (Int × Value)} (h : Iter w m r l left) : MapIs w m l := by
  obtain ⟨es, c, s, h1, h2, h3, h4, h5⟩ := h.ex
  exact ⟨es, c, h1, h2, h3⟩
theorem Iter.lt {w : World} {m r : Nat} {l left : List (Int × Value)} (h : Iter w m r l left) : r < w.heap.size ∧ m < w.heap.size ∧ r ≠ m := by
  obtain ⟨es, c, s, h1, h2, h3, h4, h5⟩ := h.ex
  refine ⟨(Array.getElem?_eq_some_iff.1 h4).1, (Array.getElem?_eq_some_iff.1 h1).1, fun e => ?_⟩
  rw [e, h1] at h4
  cases h4
section
variable {P : Program} (w : World) {ops : Array Oper} {rest : List Oper} {o : Oper} {a : Act} {Q : Exit → Act → World → Prop}
end
end Go.Proofs.YtmlnhjfdhjachaaGreat

/-
  The heap's blocks, rising. No condition.
-/
namespace Go.Proofs.YtmlnhjfdhjachaaGreat
set_option linter.unusedVariables false
open Go.ChangeShapes Go.WideShapes Go.ChangeAt Go.RowKit
open Go.ChangeMaps (setBlock)

end Go.Proofs.YtmlnhjfdhjachaaGreat
