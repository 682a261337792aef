/-
  Reserving alone (layer 28): the plain law. No condition.
-/
import Derived.Test.YtfelkkbgbgnpaaaReserveR
import Derived.Test.YtfelkkbgbgnpaaaCtlO
import Derived.Test.YtfelkkbgbgnpaaaAlone
namespace Go.Proofs.Ytfelkkbgbgnpaaa
set_option linter.unusedVariables false
open Go.ChangeShapes Go.WideShapes Go.ChangeAt Go.RowKit
open Go.ChangeMaps (setBlock)

theorem newRes_act (c : PCfg) (hc : c.Right) : PRes.act (newRes c) = (⟨1, 1, ((1 : Nat) : Int), 0, 0, ByteArray.empty⟩, true) := by
  unfold PRes.act PRes.idle newRes
  simp [(PCfg.right_iff c).2 hc]
theorem seen_act (s : PRes) (h1 : s.made = true) (h2 : s.over = false) (h3 : s.seen = true) : PRes.act s = (⟨3, 1, ((1 : Nat) : Int), s.was, s.next, ByteArray.empty⟩, true) := by
  simp [PRes.act, PRes.idle, h1, h2, h3]
theorem over_act (s : PRes) (h2 : s.over = true) : PRes.act s = (noAct, false) := by
  simp [PRes.act, PRes.idle, h2]
theorem can_load (S : PHeap) (s : PRes) (h : PRes.act s = (⟨1, 1, ((1 : Nat) : Int), 0, 0, ByteArray.empty⟩, true)) : resRout.can S s = true := by
  show ((PRes.act s).2 && S.ready (PRes.act s).1) = true
  rw [h]
  exact ready_load S 1
theorem can_swap (S : PHeap) (s : PRes) (o n : Int) (h : PRes.act s = (⟨3, 1, ((1 : Nat) : Int), o, n, ByteArray.empty⟩, true)) : resRout.can S s = true := by
  show ((PRes.act s).2 && S.ready (PRes.act s).1) = true
  rw [h]
  exact ready_swap S 1 o n
theorem can_over (S : PHeap) (s : PRes) (h : s.over = true) : resRout.can S s = false := by
  show ((PRes.act s).2 && S.ready (PRes.act s).1) = false
  rw [over_act s h]
  rfl
/-- What a thread that reserves alone comes to, from the word on. -/
def resOk (c : PCfg) (x : Int) : PRes := ⟨c, true, true, x, entV x c.cap, 0, true, false, cameOf x⟩
def resFull (c : PCfg) : PRes := ⟨c, true, false, 0, 0, 0, true, true, 0⟩
theorem res_alone {S S' : PHeap} {s' : PRes} {xs : List (PAct × PGot)} {x m : Int} (c : PCfg) (hc : c.Right) (hw : CtlAt S 1 x) (h : Runs resRout S (newRes c) xs S' s') (hst : m ≤ (xs.length : Nat) ∨ resRout.can S' s' = false) (hm : 3 ≤ m) :
    (entOk x c.cap = true ∧ xs.length = 2 ∧ S' = S.set 1 1 (entV x c.cap) ∧ s' = resOk c x) ∨ (entOk x c.cap = false ∧ xs.length = 1 ∧ S' = S ∧ s' = resFull c) := by
  have ha := newRes_act c hc
  have hld : ∀ r, S.act (resRout.act (newRes c)).1 r = (⟨x, ByteArray.empty⟩, S) := fun r => by
    show S.act (PRes.act (newRes c)).1 r = _
    rw [ha]
    exact hw.load r
  have htk : resRout.take (newRes c) ⟨x, ByteArray.empty⟩ = (newRes c).look x := by
    show PRes.take (newRes c) ⟨x, ByteArray.empty⟩ = _
    simp [PRes.take, PRes.idle, newRes, (PCfg.right_iff c).2 hc]
  have hlk : (newRes c).look x = if entOk x c.cap then ⟨c, true, true, x, entV x c.cap, 0, false, false, 0⟩ else resFull c := by
    unfold PRes.look newRes resFull
    simp [(PCfg.right_iff c).2 hc]
  match xs, h with
  | [], h =>
    obtain ⟨rfl, rfl⟩ := h
    rcases hst with h1 | h1
    · simp at h1; omega
    · rw [can_load S _ ha] at h1; cases h1
  | y :: l, h =>
    obtain ⟨_, r, _, h⟩ := h
    rw [hld r, htk, hlk] at h
    cases hok : entOk x c.cap with
    | false =>
      right
      rw [hok] at h
      simp only [Bool.false_eq_true, if_false] at h
      match l, h with
      | [], h =>
        obtain ⟨rfl, rfl⟩ := h
        exact ⟨rfl, rfl, rfl, rfl⟩
      | z :: l, h =>
        obtain ⟨h1, _⟩ := h
        rw [can_over S _ rfl] at h1
        cases h1
    | true =>
      left
      rw [hok] at h
      simp only [if_true] at h
      have ha2 := seen_act ⟨c, true, true, x, entV x c.cap, 0, false, false, 0⟩ rfl rfl rfl
      have hsw : ∀ r, S.act (resRout.act ⟨c, true, true, x, entV x c.cap, 0, false, false, 0⟩).1 r = (⟨x, ByteArray.empty⟩, S.set 1 1 (entV x c.cap)) := fun r => by
        show S.act (PRes.act ⟨c, true, true, x, entV x c.cap, 0, false, false, 0⟩).1 r = _
        rw [ha2, hw.swap, if_pos rfl]
      have htk2 : resRout.take ⟨c, true, true, x, entV x c.cap, 0, false, false, 0⟩ ⟨x, ByteArray.empty⟩ = resOk c x := by
        show PRes.take ⟨c, true, true, x, entV x c.cap, 0, false, false, 0⟩ ⟨x, ByteArray.empty⟩ = _
        simp [PRes.take, PRes.idle, resOk]
      match l, h with
      | [], h =>
        obtain ⟨rfl, rfl⟩ := h
        rcases hst with h1 | h1
        · simp at h1; omega
        · rw [can_swap _ _ _ _ ha2] at h1; cases h1
      | z :: l, h =>
        obtain ⟨_, r2, _, h⟩ := h
        rw [hsw r2, htk2] at h
        match l, h with
        | [], h =>
          obtain ⟨rfl, rfl⟩ := h
          exact ⟨rfl, rfl, rfl, rfl⟩
        | z :: l, h =>
          obtain ⟨h1, _⟩ := h
          rw [can_over _ _ rfl] at h1
          cases h1
end Go.Proofs.Ytfelkkbgbgnpaaa
