/-
  Pinning an epoch (layer 25): the plain law of its steps. No condition.
-/
import Derived.Test.YtpldnbdcpihjcaaPin
import Derived.Test.YtpldnbdcpihjcaaCtl
import Derived.Test.YtpldnbdcpihjcaaFeed
namespace Go.Proofs.Ytpldnbdcpihjcaa
set_option linter.unusedVariables false
open Go.ChangeShapes Go.WideShapes Go.ChangeAt Go.RowKit
open Go.ChangeMaps (setBlock)

/-- What holds of each routine that was made right, and of what it became. -/
structure PinInv (c : PCfg) (s : PPin) : Prop where
  right : c.Right
  cfg : s.cfg = c
  part : 1 ≤ s.part ∧ s.part ≤ 5
  first : 0 ≤ s.first ∧ s.first < c.pins
  tried : 0 ≤ s.tried ∧ s.tried ≤ c.pins
  one : s.part = 1 → s.tried = 0
  two : s.part = 2 ∨ s.part = 3 ∨ s.part = 4 → s.tried < c.pins
theorem u64_span (n : Int) : 0 ≤ IntKind.u64.wrap n ∧ IntKind.u64.wrap n ≤ 18446744073709551615 := by rw [IntKind.wrap_u64]; omega
theorem PinInv.take {c : PCfg} {s : PPin} (h : PinInv c s) (g : PGot) : PinInv c (s.take g) := by
  obtain ⟨h1, h2, h3, h4, h5, h6, h7⟩ := h
  have hp := h1.pins
  unfold PPin.take
  by_cases p1 : s.part = 1
  · rw [if_pos p1]
    exact ⟨h1, h2, by show (1 : Int) ≤ 2 ∧ (2 : Int) ≤ 5; decide, h4, h5, fun e => (by cases e), fun _ => by show s.tried < c.pins; have := h6 p1; omega⟩
  rw [if_neg p1]
  by_cases p2 : s.part = 2
  · rw [if_pos p2]
    have := h7 (.inl p2)
    by_cases hg : g.word = 0
    · rw [if_pos hg]
      exact ⟨h1, h2, by show (1 : Int) ≤ 3 ∧ (3 : Int) ≤ 5; decide, h4, h5, fun e => (by cases e), fun _ => this⟩
    rw [if_neg hg]
    by_cases ht : s.tried + 1 = s.cfg.pins
    · rw [if_pos ht]
      rw [h2] at ht
      exact ⟨h1, h2, by show (1 : Int) ≤ 5 ∧ (5 : Int) ≤ 5; decide, h4, by show 0 ≤ s.tried + 1 ∧ s.tried + 1 ≤ c.pins; omega, fun e => (by cases e), fun e => (by rcases e with e | e | e <;> cases e)⟩
    rw [if_neg ht]
    rw [h2] at ht
    exact ⟨h1, h2, h3, h4, by show 0 ≤ s.tried + 1 ∧ s.tried + 1 ≤ c.pins; omega, fun e => absurd e p1, fun _ => by show s.tried + 1 < c.pins; omega⟩
  rw [if_neg p2]
  by_cases p4 : s.part = 4
  · rw [if_pos p4]
    exact ⟨h1, h2, by show (1 : Int) ≤ 3 ∧ (3 : Int) ≤ 5; decide, h4, h5, fun e => (by cases e), fun _ => h7 (.inr (.inr p4))⟩
  rw [if_neg p4]
  by_cases p3 : s.part = 3
  · rw [if_pos p3]
    have := h7 (.inr (.inl p3))
    by_cases hg : g.word = s.epoch
    · rw [if_pos hg]
      exact ⟨h1, h2, by show (1 : Int) ≤ 5 ∧ (5 : Int) ≤ 5; decide, h4, h5, fun e => (by cases e), fun e => (by rcases e with e | e | e <;> cases e)⟩
    rw [if_neg hg]
    exact ⟨h1, h2, by show (1 : Int) ≤ 4 ∧ (4 : Int) ≤ 5; decide, h4, h5, fun e => (by cases e), fun _ => this⟩
  rw [if_neg p3]
  exact ⟨h1, h2, h3, h4, h5, h6, h7⟩
theorem PinInv.at_ok {c : PCfg} {s : PPin} (h : PinInv c s) : 0 ≤ s.at_ ∧ s.at_ < c.pins ∧ c.pins ≤ 8 := by
  have := h.right.pins
  unfold PPin.at_
  rw [h.cfg]
  exact ⟨Int.emod_nonneg _ (by omega), Int.emod_lt_of_pos _ (by omega), this.2⟩
theorem PPin.act1 {s : PPin} (h : s.part = 1 ∨ s.part = 3) : s.act = (⟨1, 1, ((0 : Nat) : Int), 0, 0, ByteArray.empty⟩, true) := by unfold PPin.act; rw [if_pos h]; rfl
theorem PPin.act2 {s : PPin} (h : s.part = 2) (k : Nat) (hk : s.at_ = k) : s.act = (⟨3, 1, ((3 + k : Nat) : Int), 0, IntKind.u64.wrap (s.epoch + 1), ByteArray.empty⟩, true) := by
  unfold PPin.act
  rw [if_neg (by omega), if_pos h, hk, show ((3 + k : Nat) : Int) = 3 + (k : Int) by omega]
theorem PPin.act4 {s : PPin} (h : s.part = 4) (k : Nat) (hk : s.at_ = k) : s.act = (⟨2, 1, ((3 + k : Nat) : Int), 0, IntKind.u64.wrap (s.epoch + 1), ByteArray.empty⟩, true) := by
  unfold PPin.act
  rw [if_neg (by omega), if_neg (by omega), if_pos h, hk, show ((3 + k : Nat) : Int) = 3 + (k : Int) by omega]
theorem PPin.act5 {s : PPin} (h : s.part = 5) : s.act = (noAct, false) := by
  unfold PPin.act
  rw [if_neg (by omega), if_neg (by omega), if_neg (by omega)]
theorem PPin.result5 {s : PPin} (h : s.part = 5) : s.result = ((s.pin, s.epoch, s.taken), true) := by unfold PPin.result; rw [if_pos h]
theorem PPin.resultN {s : PPin} (h : s.part ≠ 5) : s.result = ((0, 0, false), false) := by unfold PPin.result; rw [if_neg h]
theorem PPin.take1 {s : PPin} (h : s.part = 1) (g : PGot) : s.take g = { s with epoch := g.word, part := 2 } := by unfold PPin.take; rw [if_pos h]
theorem PPin.take2a {s : PPin} (h : s.part = 2) (g : PGot) (hg : g.word = 0) : s.take g = { s with part := 3 } := by unfold PPin.take; rw [if_neg (by omega), if_pos h, if_pos hg]
theorem PPin.take2b {s : PPin} (h : s.part = 2) (g : PGot) (hg : g.word ≠ 0) (ht : s.tried + 1 = s.cfg.pins) : s.take g = { s with tried := s.tried + 1, pin := 0, epoch := 0, taken := true, part := 5 } := by unfold PPin.take; rw [if_neg (by omega), if_pos h, if_neg hg, if_pos ht]
theorem PPin.take2c {s : PPin} (h : s.part = 2) (g : PGot) (hg : g.word ≠ 0) (ht : s.tried + 1 ≠ s.cfg.pins) : s.take g = { s with tried := s.tried + 1 } := by unfold PPin.take; rw [if_neg (by omega), if_pos h, if_neg hg, if_neg ht]
theorem PPin.take3a {s : PPin} (h : s.part = 3) (g : PGot) (hg : g.word = s.epoch) : s.take g = { s with pin := s.at_, part := 5 } := by unfold PPin.take; rw [if_neg (by omega), if_neg (by omega), if_neg (by omega), if_pos h, if_pos hg]
theorem PPin.take3b {s : PPin} (h : s.part = 3) (g : PGot) (hg : g.word ≠ s.epoch) : s.take g = { s with epoch := g.word, part := 4 } := by unfold PPin.take; rw [if_neg (by omega), if_neg (by omega), if_neg (by omega), if_pos h, if_neg hg]
theorem PPin.take4 {s : PPin} (h : s.part = 4) (g : PGot) : s.take g = { s with part := 3 } := by unfold PPin.take; rw [if_neg (by omega), if_neg (by omega), if_pos h]
theorem PPin.take5 {s : PPin} (h : s.part = 5) (g : PGot) : s.take g = s := by unfold PPin.take; rw [if_neg (by omega), if_neg (by omega), if_neg (by omega), if_neg (by omega)]
theorem PinInv.feed {c : PCfg} {s0 : PPin} (h : PinInv c s0) : ∀ Q : List PGot, PinInv c (feed PPin.take s0 Q)
  | [] => h
  | g :: Q => PinInv.feed (h.take g) Q
theorem PinInv.is {c : PCfg} {s : PPin} (h : PinInv c s) : s.result.2 = !s.act.2 ∧ (s.act.2 = false → s.act.1 = noAct) := by
  obtain ⟨k, hk⟩ : ∃ k : Nat, s.at_ = k := ⟨s.at_.toNat, by have := h.at_ok; omega⟩
  have := h.part
  rcases (by omega : s.part = 1 ∨ s.part = 2 ∨ s.part = 3 ∨ s.part = 4 ∨ s.part = 5) with p | p | p | p | p
  · rw [PPin.act1 (.inl p), PPin.resultN (by omega)]; exact ⟨rfl, fun e => by cases e⟩
  · rw [PPin.act2 p k hk, PPin.resultN (by omega)]; exact ⟨rfl, fun e => by cases e⟩
  · rw [PPin.act1 (.inr p), PPin.resultN (by omega)]; exact ⟨rfl, fun e => by cases e⟩
  · rw [PPin.act4 p k hk, PPin.resultN (by omega)]; exact ⟨rfl, fun e => by cases e⟩
  · rw [PPin.act5 p, PPin.result5 p]; exact ⟨rfl, fun _ => rfl⟩
end Go.Proofs.Ytpldnbdcpihjcaa
