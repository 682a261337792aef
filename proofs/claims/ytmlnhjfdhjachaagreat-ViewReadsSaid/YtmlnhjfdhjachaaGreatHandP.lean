/-
  Handing in alone (layer 29): the plain law. No condition.
-/
import Derived.Test.YtmlnhjfdhjachaaGreatHandM
import Derived.Test.YtmlnhjfdhjachaaGreatCtlO
import Derived.Test.YtmlnhjfdhjachaaGreatReserveP
import Derived.Test.YtmlnhjfdhjachaaGreatVerP
namespace Go.Proofs.YtmlnhjfdhjachaaGreat
set_option linter.unusedVariables false
open Go.ChangeShapes Go.WideShapes Go.ChangeAt Go.RowKit
open Go.ChangeMaps (setBlock)

/-- One step of a run. -/
theorem run_one {σ : Type} {Rt : Rout σ} {S S' : PHeap} {s s' : σ} {xs : List (PAct × PGot)} {m : Int} {x : PAct} (ha : Rt.act s = (x, true)) (hr : S.ready x = true) (h : Runs Rt S s xs S' s') (hst : m ≤ (xs.length : Nat) ∨ Rt.can S' s' = false) (hm : 1 ≤ m) :
    ∃ r l, xs = (x, (S.act x r).1) :: l ∧ Runs Rt (S.act x r).2 (Rt.take s (S.act x r).1) l S' s' ∧ (m - 1 ≤ (l.length : Nat) ∨ Rt.can S' s' = false) := by
  match xs, h with
  | [], h =>
    obtain ⟨rfl, rfl⟩ := h
    rcases hst with h1 | h1
    · simp at h1; omega
    · unfold Rout.can at h1
      rw [ha, hr] at h1
      cases h1
  | y :: l, h =>
    obtain ⟨_, r, hy, h⟩ := h
    rw [ha] at hy h
    exact ⟨r, l, by rw [hy], h, hst.imp (fun e => by simp at e; omega) id⟩
/-- A run from where nothing more is done. -/
theorem run_end {σ : Type} {Rt : Rout σ} {S S' : PHeap} {s s' : σ} {xs : List (PAct × PGot)} (ha : (Rt.act s).2 = false) (h : Runs Rt S s xs S' s') : xs = [] ∧ S' = S ∧ s' = s := by
  match xs, h with
  | [], h => exact ⟨rfl, h.1.symm, h.2.symm⟩
  | y :: l, h =>
    have h1 := h.1
    unfold Rout.can at h1
    rw [ha] at h1
    cases h1
/-- A heap with one block more, of n cells. -/
def PHeap.moreN (S : PHeap) (n r : Nat) (t : ByteArray) : PHeap := { S with blocks := S.blocks ++ [⟨S.last + 1, r, List.replicate n 0, t⟩], last := S.last + 1 }
theorem moreN_old {S : PHeap} {b : Int} {x : PBlk} (h : S.find b = some x) (n r : Nat) (t : ByteArray) : (S.moreN n r t).find b = some x := by
  unfold PHeap.find PHeap.moreN at *
  simp only
  rw [List.find?_append, h]
  rfl
theorem CtlAt.moreN {S : PHeap} {i : Nat} {x : Int} (h : CtlAt S i x) (n r : Nat) (t : ByteArray) : CtlAt (S.moreN n r t) i x := by
  obtain ⟨b, h1, h2, h3⟩ := h
  exact ⟨b, moreN_old h1 n r t, h2, h3⟩
theorem right_make (n : Nat) (t : ByteArray) (ht : t.size ≤ 4096) : PAct.right ⟨5, 0, n, 0, 0, t⟩ = true := by simp [PAct.right, PAct.fit, ht]
theorem ready_make (S : PHeap) (n : Nat) (t : ByteArray) (ht : t.size ≤ 4096) : S.ready ⟨5, 0, n, 0, 0, t⟩ = true := by simp [PHeap.ready, right_make n t ht]
theorem act_make (S : PHeap) (n : Nat) (hn : n ≤ 256) (t : ByteArray) (ht : t.size ≤ 4096) (r : Nat) : S.act ⟨5, 0, n, 0, 0, t⟩ r = (⟨S.last + 1, ByteArray.empty⟩, S.moreN n r t) := by
  have h : (0 : Int) ≤ n ∧ (n : Int) ≤ 256 := by omega
  simp [PHeap.act, right_make n t ht, PHeap.make, h, PHeap.moreN]
end Go.Proofs.YtmlnhjfdhjachaaGreat
