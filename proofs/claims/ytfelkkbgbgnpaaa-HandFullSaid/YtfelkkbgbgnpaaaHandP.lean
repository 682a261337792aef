/-
  Handing in alone (layer 29): the plain law. No condition.
-/
import Derived.Test.YtfelkkbgbgnpaaaHandM
import Derived.Test.YtfelkkbgbgnpaaaCtlO
import Derived.Test.YtfelkkbgbgnpaaaReserveP
import Derived.Test.YtfelkkbgbgnpaaaVerP
namespace Go.Proofs.Ytfelkkbgbgnpaaa
set_option linter.unusedVariables false
open Go.ChangeShapes Go.WideShapes Go.ChangeAt Go.RowKit
open Go.ChangeMaps (setBlock)

/-- One step of a run. -/
theorem run_one {σ : Type} {Rt : Rout σ} {S S' : PHeap} {s s' : σ} {xs : List (PAct × PGot)} {m : Int} {x : PAct} (ha : Rt.act s = (x, true)) (hr : S.ready x = true) (h : Runs Rt S s xs S' s') (hst : m ≤ (xs.length : Nat) ∨ Rt.can S' s' = false) (hm : 1 ≤ m) :
    ∃ r l, xs = (x, (S.act x r).1) :: l ∧ Runs Rt (S.act x r).2 (Rt.take s (S.act x r).1) l S' s' ∧ (m - 1 ≤ (l.length : Nat) ∨ Rt.can S' s' = false) := by
  match xs, h with
  | [], h =>
    obtain ⟨rfl, rfl⟩ := h
    rcases hst with h1 | h1
    · simp at h1; omega
    · unfold Rout.can at h1
      rw [ha, hr] at h1
      cases h1
  | y :: l, h =>
    obtain ⟨_, r, hy, h⟩ := h
    rw [ha] at hy h
    exact ⟨r, l, by rw [hy], h, hst.imp (fun e => by simp at e; omega) id⟩
/-- A run from where nothing more is done. -/
theorem run_end {σ : Type} {Rt : Rout σ} {S S' : PHeap} {s s' : σ} {xs : List (PAct × PGot)} (ha : (Rt.act s).2 = false) (h : Runs Rt S s xs S' s') : xs = [] ∧ S' = S ∧ s' = s := by
  match xs, h with
  | [], h => exact ⟨rfl, h.1.symm, h.2.symm⟩
  | y :: l, h =>
    have h1 := h.1
    unfold Rout.can at h1
    rw [ha] at h1
    cases h1
/-- A heap with one block more, of n cells. -/
def PHeap.moreN (S : PHeap) (n r : Nat) (t : ByteArray) : PHeap := { S with blocks := S.blocks ++ [⟨S.last + 1, r, List.replicate n 0, t⟩], last := S.last + 1 }
theorem moreN_old {S : PHeap} {b : Int} {x : PBlk} (h : S.find b = some x) (n r : Nat) (t : ByteArray) : (S.moreN n r t).find b = some x := by
  unfold PHeap.find PHeap.moreN at *
  simp only
  rw [List.find?_append, h]
  rfl
theorem CtlAt.moreN {S : PHeap} {i : Nat} {x : Int} (h : CtlAt S i x) (n r : Nat) (t : ByteArray) : CtlAt (S.moreN n r t) i x := by
  obtain ⟨b, h1, h2, h3⟩ := h
  exact ⟨b, moreN_old h1 n r t, h2, h3⟩
theorem right_make (n : Nat) (t : ByteArray) (ht : t.size ≤ 4096) : PAct.right ⟨5, 0, n, 0, 0, t⟩ = true := by simp [PAct.right, PAct.fit, ht]
theorem ready_make (S : PHeap) (n : Nat) (t : ByteArray) (ht : t.size ≤ 4096) : S.ready ⟨5, 0, n, 0, 0, t⟩ = true := by simp [PHeap.ready, right_make n t ht]
theorem act_make (S : PHeap) (n : Nat) (hn : n ≤ 256) (t : ByteArray) (ht : t.size ≤ 4096) (r : Nat) : S.act ⟨5, 0, n, 0, 0, t⟩ r = (⟨S.last + 1, ByteArray.empty⟩, S.moreN n r t) := by
  have h : (0 : Int) ≤ n ∧ (n : Int) ≤ 256 := by omega
  simp [PHeap.act, right_make n t ht, PHeap.make, h, PHeap.moreN]
/-- What handing in alone comes to. -/
theorem hand_alone {S S' : PHeap} {s' : PHand} {xs : List (PAct × PGot)} {x m : Int} (c : PCfg) (hc : c.Right) (text : ByteArray) (ht : text.size ≤ 4096) (hw : CtlAt S 1 x) (hring : ∀ j : Nat, 3 + c.pins ≤ j → (j : Int) < 3 + c.pins + c.cap → ∃ y, CtlAt S j y) (h : Runs handRout S (newHand c text) xs S' s') (hst : m ≤ (xs.length : Nat) ∨ handRout.can S' s' = false) (hm : 5 ≤ m) :
    ∃ r, s'.part = 4 ∧ s'.record = S.last + 1 ∧
      ((entOk x c.cap = true ∧ xs.length = 4 ∧ s'.full = false ∧ s'.ticket = cameOf x ∧ S' = ((S.moreN 2 r text).set 1 1 (entV x c.cap)).set 1 (ringAt c (cameOf x)).toNat (S.last + 1)) ∨
       (entOk x c.cap = false ∧ xs.length = 2 ∧ s'.full = true ∧ s'.ticket = 0 ∧ S' = S.moreN 2 r text)) := by
  have hn : newHand c text = ⟨c, text, 1, newRes c, false, 0, 0⟩ := by unfold newHand; rw [if_pos ((PCfg.right_iff c).2 hc)]
  rw [hn] at h
  have a1 : handRout.act ⟨c, text, 1, newRes c, false, 0, 0⟩ = (⟨5, 0, ((2 : Nat) : Int), 0, 0, text⟩, true) := rfl
  obtain ⟨r, l, rfl, h, hst⟩ := run_one a1 (ready_make S 2 text ht) h hst (by omega)
  rw [act_make S 2 (by decide) text ht r] at h
  have t1 : handRout.take ⟨c, text, 1, newRes c, false, 0, 0⟩ ⟨S.last + 1, ByteArray.empty⟩ = ⟨c, text, 2, newRes c, false, 0, S.last + 1⟩ := rfl
  simp only at h
  rw [t1] at h
  have hw1 := hw.moreN 2 r text
  have a2 : handRout.act ⟨c, text, 2, newRes c, false, 0, S.last + 1⟩ = (⟨1, 1, ((1 : Nat) : Int), 0, 0, ByteArray.empty⟩, true) := newRes_act c hc
  obtain ⟨r2, l2, rfl, h, hst⟩ := run_one a2 (ready_load _ 1) h hst (by omega)
  rw [hw1.load r2] at h
  have htk : PRes.take (newRes c) ⟨x, ByteArray.empty⟩ = (newRes c).look x := by simp [PRes.take, PRes.idle, newRes, (PCfg.right_iff c).2 hc]
  have hlk : (newRes c).look x = if entOk x c.cap then ⟨c, true, true, x, entV x c.cap, 0, false, false, 0⟩ else resFull c := by
    unfold PRes.look newRes resFull
    simp [(PCfg.right_iff c).2 hc]
  have t2 : handRout.take ⟨c, text, 2, newRes c, false, 0, S.last + 1⟩ ⟨x, ByteArray.empty⟩ = PHand.settle ⟨c, text, 2, (newRes c).look x, false, 0, S.last + 1⟩ := by
    show PHand.settle ⟨c, text, 2, PRes.take (newRes c) ⟨x, ByteArray.empty⟩, false, 0, S.last + 1⟩ = _
    rw [htk]
  simp only at h
  rw [t2, hlk] at h
  refine ⟨r, ?_⟩
  cases hok : entOk x c.cap with
  | false =>
    rw [hok] at h
    have hs : PHand.settle ⟨c, text, 2, resFull c, false, 0, S.last + 1⟩ = ⟨c, text, 4, resFull c, true, 0, S.last + 1⟩ := rfl
    simp only [Bool.false_eq_true, if_false] at h
    rw [hs] at h
    obtain ⟨rfl, rfl, rfl⟩ := run_end (Rt := handRout) rfl h
    exact ⟨rfl, rfl, .inr ⟨rfl, rfl, rfl, rfl, rfl⟩⟩
  | true =>
    rw [hok] at h
    simp only [if_true] at h
    have hs : PHand.settle ⟨c, text, 2, ⟨c, true, true, x, entV x c.cap, 0, false, false, 0⟩, false, 0, S.last + 1⟩ = ⟨c, text, 2, ⟨c, true, true, x, entV x c.cap, 0, false, false, 0⟩, false, 0, S.last + 1⟩ := rfl
    rw [hs] at h
    have a3 : handRout.act ⟨c, text, 2, ⟨c, true, true, x, entV x c.cap, 0, false, false, 0⟩, false, 0, S.last + 1⟩ = (⟨3, 1, ((1 : Nat) : Int), x, entV x c.cap, ByteArray.empty⟩, true) := rfl
    obtain ⟨r3, l3, rfl, h, hst⟩ := run_one a3 (ready_swap _ 1 x _) h hst (by omega)
    rw [hw1.swap x _ r3] at h
    simp only [if_true] at h
    have t3 : handRout.take ⟨c, text, 2, ⟨c, true, true, x, entV x c.cap, 0, false, false, 0⟩, false, 0, S.last + 1⟩ ⟨x, ByteArray.empty⟩ = ⟨c, text, 3, ⟨c, true, true, x, entV x c.cap, 0, true, false, cameOf x⟩, false, cameOf x, S.last + 1⟩ := by
      show PHand.settle ⟨c, text, 2, PRes.take _ _, false, 0, S.last + 1⟩ = _
      simp [PRes.take, PRes.idle, PHand.settle]
    rw [t3] at h
    have hra := ringAt_ok hc (cameOf x) (cameOf_le x).1
    have hrn : ((ringAt c (cameOf x)).toNat : Int) = ringAt c (cameOf x) := by omega
    have a4 : handRout.act ⟨c, text, 3, ⟨c, true, true, x, entV x c.cap, 0, true, false, cameOf x⟩, false, cameOf x, S.last + 1⟩ = (⟨2, 1, ((ringAt c (cameOf x)).toNat : Int), 0, S.last + 1, ByteArray.empty⟩, true) := by
      rw [hrn]
      rfl
    obtain ⟨r4, l4, rfl, h, hst⟩ := run_one a4 (ready_store _ _ _) h hst (by omega)
    obtain ⟨y, hy⟩ := hring (ringAt c (cameOf x)).toNat (by omega) (by omega)
    rw [((hy.moreN 2 r text).other (entV x c.cap) (by omega)).store (S.last + 1) r4] at h
    have t4 : handRout.take ⟨c, text, 3, ⟨c, true, true, x, entV x c.cap, 0, true, false, cameOf x⟩, false, cameOf x, S.last + 1⟩ ⟨0, ByteArray.empty⟩ = ⟨c, text, 4, ⟨c, true, true, x, entV x c.cap, 0, true, false, cameOf x⟩, false, cameOf x, S.last + 1⟩ := rfl
    simp only at h
    rw [t4] at h
    obtain ⟨rfl, rfl, rfl⟩ := run_end (Rt := handRout) rfl h
    exact ⟨rfl, rfl, .inl ⟨rfl, rfl, rfl, rfl, rfl⟩⟩
end Go.Proofs.Ytfelkkbgbgnpaaa
