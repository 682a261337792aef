import Derived.Test.YtfelkkbgbgnpaaaPin
import Derived.Test.YtfelkkbgbgnpaaaCtlO
import Derived.Test.YtfelkkbgbgnpaaaTapeD
import Derived.Test.YtfelkkbgbgnpaaaPinA
import Derived.Test.YtfelkkbgbgnpaaaPinN
/-
  Pinning an epoch (layer 25): the plain law of its steps. No condition.
-/
namespace Go.Proofs.Ytfelkkbgbgnpaaa
set_option linter.unusedVariables false
open Go.ChangeShapes Go.WideShapes Go.ChangeAt Go.RowKit
open Go.ChangeMaps (setBlock)

/-- What holds of each routine that was made right, and of what it became. -/
structure PinInv (c : PCfg) (s : PPin) : Prop where
  right : c.Right
  cfg : s.cfg = c
  part : 1 ≤ s.part ∧ s.part ≤ 5
  first : 0 ≤ s.first ∧ s.first < c.pins
  tried : 0 ≤ s.tried ∧ s.tried ≤ c.pins
  one : s.part = 1 → s.tried = 0
  two : s.part = 2 ∨ s.part = 3 ∨ s.part = 4 → s.tried < c.pins
theorem u64_span (n : Int) : 0 ≤ IntKind.u64.wrap n ∧ IntKind.u64.wrap n ≤ 18446744073709551615 := by rw [IntKind.wrap_u64]; omega
theorem PinInv.take {c : PCfg} {s : PPin} (h : PinInv c s) (g : PGot) : PinInv c (s.take g) := by
  obtain ⟨h1, h2, h3, h4, h5, h6, h7⟩ := h
  have hp := h1.pins
  unfold PPin.take
  by_cases p1 : s.part = 1
  · rw [if_pos p1]
    exact ⟨h1, h2, by show (1 : Int) ≤ 2 ∧ (2 : Int) ≤ 5; decide, h4, h5, fun e => (by cases e), fun _ => by show s.tried < c.pins; have := h6 p1; omega⟩
  rw [if_neg p1]
  by_cases p2 : s.part = 2
  · rw [if_pos p2]
    have := h7 (.inl p2)
    by_cases hg : g.word = 0
    · rw [if_pos hg]
      exact ⟨h1, h2, by show (1 : Int) ≤ 3 ∧ (3 : Int) ≤ 5; decide, h4, h5, fun e => (by cases e), fun _ => this⟩
    rw [if_neg hg]
    by_cases ht : s.tried + 1 = s.cfg.pins
    · rw [if_pos ht]
      rw [h2] at ht
      exact ⟨h1, h2, by show (1 : Int) ≤ 5 ∧ (5 : Int) ≤ 5; decide, h4, by show 0 ≤ s.tried + 1 ∧ s.tried + 1 ≤ c.pins; omega, fun e => (by cases e), fun e => (by rcases e with e | e | e <;> cases e)⟩
    rw [if_neg ht]
    rw [h2] at ht
    exact ⟨h1, h2, h3, h4, by show 0 ≤ s.tried + 1 ∧ s.tried + 1 ≤ c.pins; omega, fun e => absurd e p1, fun _ => by show s.tried + 1 < c.pins; omega⟩
  rw [if_neg p2]
  by_cases p4 : s.part = 4
  · rw [if_pos p4]
    exact ⟨h1, h2, by show (1 : Int) ≤ 3 ∧ (3 : Int) ≤ 5; decide, h4, h5, fun e => (by cases e), fun _ => h7 (.inr (.inr p4))⟩
  rw [if_neg p4]
  by_cases p3 : s.part = 3
  · rw [if_pos p3]
    have := h7 (.inr (.inl p3))
    by_cases hg : g.word = s.epoch
    · rw [if_pos hg]
      exact ⟨h1, h2, by show (1 : Int) ≤ 5 ∧ (5 : Int) ≤ 5; decide, h4, h5, fun e => (by cases e), fun e => (by rcases e with e | e | e <;> cases e)⟩
    rw [if_neg hg]
    exact ⟨h1, h2, by show (1 : Int) ≤ 4 ∧ (4 : Int) ≤ 5; decide, h4, h5, fun e => (by cases e), fun _ => this⟩
  rw [if_neg p3]
  exact ⟨h1, h2, h3, h4, h5, h6, h7⟩
theorem PinInv.at_ok {c : PCfg} {s : PPin} (h : PinInv c s) : 0 ≤ s.at_ ∧ s.at_ < c.pins ∧ c.pins ≤ 8 := by
  have := h.right.pins
  unfold PPin.at_
  rw [h.cfg]
  exact ⟨Int.emod_nonneg _ (by omega), Int.emod_lt_of_pos _ (by omega), this.2⟩
theorem PPin.act1 {s : PPin} (h : s.part = 1 ∨ s.part = 3) : s.act = (⟨1, 1, ((0 : Nat) : Int), 0, 0, ByteArray.empty⟩, true) := by unfold PPin.act; rw [if_pos h]; rfl
theorem PPin.act2 {s : PPin} (h : s.part = 2) (k : Nat) (hk : s.at_ = k) : s.act = (⟨3, 1, ((3 + k : Nat) : Int), 0, IntKind.u64.wrap (s.epoch + 1), ByteArray.empty⟩, true) := by
  unfold PPin.act
  rw [if_neg (by omega), if_pos h, hk, show ((3 + k : Nat) : Int) = 3 + (k : Int) by omega]
theorem PPin.act4 {s : PPin} (h : s.part = 4) (k : Nat) (hk : s.at_ = k) : s.act = (⟨2, 1, ((3 + k : Nat) : Int), 0, IntKind.u64.wrap (s.epoch + 1), ByteArray.empty⟩, true) := by
  unfold PPin.act
  rw [if_neg (by omega), if_neg (by omega), if_pos h, hk, show ((3 + k : Nat) : Int) = 3 + (k : Int) by omega]
theorem PPin.act5 {s : PPin} (h : s.part = 5) : s.act = (noAct, false) := by
  unfold PPin.act
  rw [if_neg (by omega), if_neg (by omega), if_neg (by omega)]
theorem PPin.result5 {s : PPin} (h : s.part = 5) : s.result = ((s.pin, s.epoch, s.taken), true) := by unfold PPin.result; rw [if_pos h]
theorem PPin.resultN {s : PPin} (h : s.part ≠ 5) : s.result = ((0, 0, false), false) := by unfold PPin.result; rw [if_neg h]
theorem PPin.take1 {s : PPin} (h : s.part = 1) (g : PGot) : s.take g = { s with epoch := g.word, part := 2 } := by unfold PPin.take; rw [if_pos h]
theorem PPin.take2a {s : PPin} (h : s.part = 2) (g : PGot) (hg : g.word = 0) : s.take g = { s with part := 3 } := by unfold PPin.take; rw [if_neg (by omega), if_pos h, if_pos hg]
theorem PPin.take2b {s : PPin} (h : s.part = 2) (g : PGot) (hg : g.word ≠ 0) (ht : s.tried + 1 = s.cfg.pins) : s.take g = { s with tried := s.tried + 1, pin := 0, epoch := 0, taken := true, part := 5 } := by unfold PPin.take; rw [if_neg (by omega), if_pos h, if_neg hg, if_pos ht]
theorem PPin.take2c {s : PPin} (h : s.part = 2) (g : PGot) (hg : g.word ≠ 0) (ht : s.tried + 1 ≠ s.cfg.pins) : s.take g = { s with tried := s.tried + 1 } := by unfold PPin.take; rw [if_neg (by omega), if_pos h, if_neg hg, if_neg ht]
theorem PPin.take3a {s : PPin} (h : s.part = 3) (g : PGot) (hg : g.word = s.epoch) : s.take g = { s with pin := s.at_, part := 5 } := by unfold PPin.take; rw [if_neg (by omega), if_neg (by omega), if_neg (by omega), if_pos h, if_pos hg]
theorem PPin.take3b {s : PPin} (h : s.part = 3) (g : PGot) (hg : g.word ≠ s.epoch) : s.take g = { s with epoch := g.word, part := 4 } := by unfold PPin.take; rw [if_neg (by omega), if_neg (by omega), if_neg (by omega), if_pos h, if_neg hg]
theorem PPin.take4 {s : PPin} (h : s.part = 4) (g : PGot) : s.take g = { s with part := 3 } := by unfold PPin.take; rw [if_neg (by omega), if_neg (by omega), if_pos h]
theorem PPin.take5 {s : PPin} (h : s.part = 5) (g : PGot) : s.take g = s := by unfold PPin.take; rw [if_neg (by omega), if_neg (by omega), if_neg (by omega), if_neg (by omega)]
theorem PinInv.feed {c : PCfg} {s0 : PPin} (h : PinInv c s0) : ∀ Q : List PGot, PinInv c (feed PPin.take s0 Q)
  | [] => h
  | g :: Q => PinInv.feed (h.take g) Q
theorem PinInv.is {c : PCfg} {s : PPin} (h : PinInv c s) : s.result.2 = !s.act.2 ∧ (s.act.2 = false → s.act.1 = noAct) := by
  obtain ⟨k, hk⟩ : ∃ k : Nat, s.at_ = k := ⟨s.at_.toNat, by have := h.at_ok; omega⟩
  have := h.part
  rcases (by omega : s.part = 1 ∨ s.part = 2 ∨ s.part = 3 ∨ s.part = 4 ∨ s.part = 5) with p | p | p | p | p
  · rw [PPin.act1 (.inl p), PPin.resultN (by omega)]; exact ⟨rfl, fun e => by cases e⟩
  · rw [PPin.act2 p k hk, PPin.resultN (by omega)]; exact ⟨rfl, fun e => by cases e⟩
  · rw [PPin.act1 (.inr p), PPin.resultN (by omega)]; exact ⟨rfl, fun e => by cases e⟩
  · rw [PPin.act4 p k hk, PPin.resultN (by omega)]; exact ⟨rfl, fun e => by cases e⟩
  · rw [PPin.act5 p, PPin.result5 p]; exact ⟨rfl, fun _ => rfl⟩
end Go.Proofs.Ytfelkkbgbgnpaaa

/-
  The routine that pins an epoch (layer 25), as a routine. No condition.
-/
namespace Go.Proofs.Ytfelkkbgbgnpaaa
set_option linter.unusedVariables false
open Go.ChangeShapes Go.WideShapes Go.ChangeAt Go.RowKit
open Go.ChangeMaps (setBlock)

/-- A routine that was made right, where it lies. -/
structure PinOk (c : PCfg) (w : World) (b : Nat) (s : PPin) : Prop where
  lies : PinIn w b s
  inv : PinInv c s
theorem PinOk.keep {c : PCfg} {w w' : World} {b : Nat} {s : PPin} (h : PinOk c w b s) (hb : w'.heap[b]? = w.heap[b]?) : PinOk c w' b s := ⟨h.lies.keep hb, h.inv⟩
theorem PinOk.below {c : PCfg} {w w' : World} {b : Nat} {s : PPin} (h : PinOk c w b s) (hb : Below w.heap.size w w') : PinOk c w' b s := ⟨h.lies.below hb, h.inv⟩
def PinR (c : PCfg) (w : World) (Q : Nat → Prop) (b : Nat) (s : PPin) : Prop := In Q w ∧ Q b ∧ PinOk c w b s
theorem pinR_fresh {c : PCfg} {w : World} {b : Nat} {s : PPin} (h : PinOk c w b s) : PinR c w (fun k => k = b) b s := ⟨fun k hk => by rw [hk]; exact h.lies.blk.lt, rfl, h⟩
theorem newPin_inv (c : PCfg) (hc : c.Right) (th : Int) (hth : 0 ≤ th) : PinInv c (newPin c th) :=
  ⟨hc, rfl, by show (1 : Int) ≤ 1 ∧ (1 : Int) ≤ 5; decide, ⟨Int.emod_nonneg _ (by have := hc.pins; omega), Int.emod_lt_of_pos _ (by have := hc.pins; omega)⟩, by have := hc.pins; show (0 : Int) ≤ 0 ∧ (0 : Int) ≤ c.pins; omega, fun _ => rfl, fun e => by rcases e with e | e | e <;> cases e⟩
theorem pinAct_ok {c : PCfg} {s : PPin} (h : PinInv c s) : (s.act).1.Ok := by
  obtain ⟨k, hk⟩ : ∃ k : Nat, s.at_ = k := ⟨s.at_.toNat, by have := h.at_ok; omega⟩
  have ha := h.at_ok
  have k0 : (-9223372036854775808 : Int) ≤ 0 ∧ (0 : Int) ≤ 9223372036854775807 := by decide
  have k1 : (-9223372036854775808 : Int) ≤ 1 ∧ (1 : Int) ≤ 9223372036854775807 := by decide
  have k2 : (-9223372036854775808 : Int) ≤ 2 ∧ (2 : Int) ≤ 9223372036854775807 := by decide
  have k3 : (-9223372036854775808 : Int) ≤ 3 ∧ (3 : Int) ≤ 9223372036854775807 := by decide
  have kc : (-9223372036854775808 : Int) ≤ ((3 + k : Nat) : Int) ∧ ((3 + k : Nat) : Int) ≤ 9223372036854775807 := by omega
  have z : (0 : Int) ≤ 0 ∧ (0 : Int) ≤ 18446744073709551615 := by decide
  have z1 : (0 : Int) ≤ 1 ∧ (1 : Int) ≤ 18446744073709551615 := by decide
  have hE : ByteArray.empty.size ≤ 9223372036854775807 := by decide
  have := h.part
  rcases (by omega : s.part = 1 ∨ s.part = 2 ∨ s.part = 3 ∨ s.part = 4 ∨ s.part = 5) with p | p | p | p | p
  · rw [PPin.act1 (.inl p)]; exact ⟨k1, z1, k0, z, z, hE⟩
  · rw [PPin.act2 p k hk]; exact ⟨k3, z1, kc, z, u64_span _, hE⟩
  · rw [PPin.act1 (.inr p)]; exact ⟨k1, z1, k0, z, z, hE⟩
  · rw [PPin.act4 p k hk]; exact ⟨k2, z1, kc, z, u64_span _, hE⟩
  · rw [PPin.act5 p]; exact ⟨k0, z, k0, z, z, hE⟩
def pinRout (c : PCfg) : Rout PPin where
  T := 119
  fAct := 61
  fTake := 70
  mAct := fun _ _ => by kernel_rfl
  mTake := fun _ _ => by kernel_rfl
  nAct := fun _ _ => by kernel_rfl
  nTake := fun _ _ => by kernel_rfl
  eAct := fun _ _ => by kernel_rfl
  eTake := fun _ _ => by kernel_rfl
  R := PinR c
  own := fun h => h.1
  hG := fun h => h.2.1
  keep := fun ⟨h1, h2, h3⟩ hs hk => ⟨h1.mono hs, h2, h3.keep (hk _ h2)⟩
  act := PPin.act
  take := PPin.take
  okA := fun h => pinAct_ok h.2.2.inv
  cAct := fun ⟨_, _, h⟩ => pinAct_any h.lies
  cTake := fun {w G b s} g ⟨h1, h2, h3⟩ hg _ => (pinTake_any h3.lies (fun e => by rw [h3.inv.cfg]; exact h3.inv.two (.inl e)) g hg).mono fun e w' ⟨he, hv, hc⟩ => ⟨he, ⟨h1.nw hc.size, .inl h2, hv, h3.inv.take g⟩, hc.mono fun i hi => by rw [hi]; exact h2⟩
theorem pinNew_ok (c : PCfg) (hc : c.Right) (th : Int) (hth : 0 ≤ th ∧ th ≤ 9223372036854775807) (w : World) :
    Calls Try.prog 60 #[c.val, .int .i64 th] w fun e w' => ∃ b, e = .returned (.pointer (some ⟨b, 0, none⟩)) ∧ PinOk c w' b (newPin c th) ∧ w.heap.size ≤ b ∧ Below w.heap.size w w' :=
  (pinNew_any c hc th hth w).mono fun e w' ⟨b, he, h1, h2, h3⟩ => ⟨b, he, ⟨h1, newPin_inv c hc th hth.1⟩, h2, h3⟩
theorem can_pin {c : PCfg} {S : PHeap} {s : PPin} (h : PinInv c s) : (pinRout c).can S s = !(decide (s.part = 5)) := by
  show ((PPin.act s).2 && S.ready (PPin.act s).1) = _
  obtain ⟨k, hk⟩ : ∃ k : Nat, s.at_ = k := ⟨s.at_.toNat, by have := h.at_ok; omega⟩
  have := h.part
  rcases (by omega : s.part = 1 ∨ s.part = 2 ∨ s.part = 3 ∨ s.part = 4 ∨ s.part = 5) with p | p | p | p | p
  · rw [PPin.act1 (.inl p), ready_load, p]; rfl
  · rw [PPin.act2 p k hk, ready_swap, p]; rfl
  · rw [PPin.act1 (.inr p), ready_load, p]; rfl
  · rw [PPin.act4 p k hk, ready_store, p]; rfl
  · rw [PPin.act5 p, p]; rfl
end Go.Proofs.Ytfelkkbgbgnpaaa
