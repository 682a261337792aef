/-
  The document's Add (layer 12): a row of names with one more, where it stands by the order. No condition.
-/
import Derived.Test.YtpkkjoiglemlgaaGreatDoorIdD
import Derived.Deep.CutRange
namespace Go.Proofs.YtpkkjoiglemlgaaGreatDoor
set_option linter.unusedVariables false
open Go.ChangeShapes Go.WideShapes Go.ChangeAt Go.RowKit Go.Extern.Stop Go.Stop Go.Extern

def addIn (q : Int × Int) (s : List (Int × Int) × Bool) (p : Int × Int) : List (Int × Int) × Bool := if !s.2 && !idLt p q then (s.1 ++ [q], true) else s
def addStep (q : Int × Int) (s : List (Int × Int) × Bool) (p : Int × Int) : List (Int × Int) × Bool :=
  (if p != q then (addIn q s p).1 ++ [p] else (addIn q s p).1, (addIn q s p).2)
def addFold (q : Int × Int) (l : List (Int × Int)) : List (Int × Int) × Bool := l.foldl (addStep q) ([], false)
def addL (q : Int × Int) (l : List (Int × Int)) : List (Int × Int) := if (addFold q l).2 then (addFold q l).1 else (addFold q l).1 ++ [q]
theorem addFold_snoc (q p : Int × Int) (l : List (Int × Int)) : addFold q (l ++ [p]) = addStep q (addFold q l) p := by simp [addFold]
theorem addIn_len (q p : Int × Int) (s : List (Int × Int) × Bool) : (addIn q s p).1.length + s.2.toNat ≤ s.1.length + (addIn q s p).2.toNat := by
  unfold addIn
  by_cases h : s.2 = true
  · rw [h]; simp [h]
  · have h' : s.2 = false := by simpa using h
    rw [h']
    by_cases h2 : idLt p q = true <;> simp [h2, h']
theorem addStep_len (q p : Int × Int) (s : List (Int × Int) × Bool) : (addStep q s p).1.length + s.2.toNat ≤ s.1.length + 1 + (addStep q s p).2.toNat := by
  have := addIn_len q p s
  unfold addStep
  by_cases h : (p != q) = true
  · simp only [h, if_true, List.length_append, List.length_cons, List.length_nil]; omega
  · simp only [h]; simp only [Bool.false_eq_true, if_false]; omega
theorem own_keepI {w w' : World} {e : TypeId} {size n B : Nat} {v : Value} {xs : List Value} (h : w.ownsRow B e size v n xs) (hb : Below w.heap.size w w') : w'.ownsRow B e size v n xs :=
  ⟨h.1, h.2.imp id fun ⟨g, cap, cur, e1, e2, e3, r⟩ => ⟨g, cap, cur, e1, e2, (hb.block g (World.ownsRow.lt h g (by rw [e1]; rfl)).2).trans e3, r⟩⟩
theorem addFold_len0 (q : Int × Int) (l : List (Int × Int)) : ∀ s : List (Int × Int) × Bool, (l.foldl (addStep q) s).1.length + s.2.toNat ≤ s.1.length + l.length + (l.foldl (addStep q) s).2.toNat := by
  induction l with
  | nil => intro s; simp
  | cons p l ih =>
    intro s
    have h1 := ih (addStep q s p)
    have h2 := addStep_len q p s
    simp only [List.foldl_cons, List.length_cons]
    omega
theorem addFold_len (q : Int × Int) (l : List (Int × Int)) : (addFold q l).1.length ≤ l.length + (addFold q l).2.toNat := by
  have := addFold_len0 q l ([], false)
  simpa [addFold] using this
end Go.Proofs.YtpkkjoiglemlgaaGreatDoor
