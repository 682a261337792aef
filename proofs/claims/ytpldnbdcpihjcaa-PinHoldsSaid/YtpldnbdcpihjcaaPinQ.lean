/-
  Pinning alone (layer 25): the plain law. No condition.
-/
import Derived.Test.YtpldnbdcpihjcaaPinR
import Derived.Test.YtpldnbdcpihjcaaAlone
namespace Go.Proofs.Ytpldnbdcpihjcaa
set_option linter.unusedVariables false
open Go.ChangeShapes Go.WideShapes Go.ChangeAt Go.RowKit
open Go.ChangeMaps (setBlock)

/-- The pins' cells hold what a row says. -/
def PinsAt (S : PHeap) (x : Nat → Int) (n : Int) : Prop := ∀ j : Nat, (j : Int) < n → CtlAt S (3 + j) (x j)
def PinGot (c : PCfg) (S : PHeap) (x : Nat → Int) (e : Int) (first t : Int) (S' : PHeap) (s' : PPin) (n : Nat) : Prop :=
  ∃ (j : Nat) (i : Int), (t ≤ i ∧ i < c.pins ∧ (first + i) % c.pins = j ∧ ∀ i', t ≤ i' → i' < i → x ((first + i') % c.pins).toNat ≠ 0) ∧ (j : Int) < c.pins ∧ x j = 0 ∧ s'.part = 5 ∧ s'.taken = false ∧ s'.pin = j ∧ s'.epoch = e ∧ S' = S.set 1 (3 + j) (IntKind.u64.wrap (e + 1)) ∧ (n : Int) = i - t + 2
def PinNone (c : PCfg) (S : PHeap) (x : Nat → Int) (first t : Int) (S' : PHeap) (s' : PPin) (n : Nat) : Prop :=
  (∀ i, t ≤ i → i < c.pins → x ((first + i) % c.pins).toNat ≠ 0) ∧ s'.part = 5 ∧ s'.taken = true ∧ S' = S ∧ (n : Int) = c.pins - t
theorem runs_stop {c : PCfg} {S S' : PHeap} {s s' : PPin} {xs : List (PAct × PGot)} (hi : PinInv c s) (hp : s.part = 5) (h : Runs (pinRout c) S s xs S' s') : xs = [] ∧ S' = S ∧ s' = s := by
  match xs, h with
  | [], h => exact ⟨rfl, h.1.symm, h.2.symm⟩
  | y :: l, h =>
    obtain ⟨h1, _⟩ := h
    rw [can_pin hi, hp] at h1
    cases h1
theorem pin_tries {c : PCfg} {S : PHeap} {x : Nat → Int} {e : Int} (he : CtlAt S 0 e) (hx : PinsAt S x c.pins) : ∀ (d : Nat) (s : PPin) {S' : PHeap} {s' : PPin} {xs : List (PAct × PGot)} {m : Int}, PinInv c s → s.part = 2 → s.taken = false → s.epoch = e → (d : Int) = c.pins - s.tried →
    Runs (pinRout c) S s xs S' s' → (m ≤ (xs.length : Nat) ∨ (pinRout c).can S' s' = false) → (d : Int) + 2 ≤ m → PinGot c S x e s.first s.tried S' s' xs.length ∨ PinNone c S x s.first s.tried S' s' xs.length
  | 0, s, S', s', xs, m, hi, hp, htk, hep, hd, h, hst, hm => by have := hi.two (.inl hp); omega
  | d + 1, s, S', s', xs, m, hi, hp, htk, hep, hd, h, hst, hm => by
    have hat := hi.at_ok
    obtain ⟨k, hk⟩ : ∃ k : Nat, s.at_ = k := ⟨s.at_.toNat, by omega⟩
    have hat2 : (s.first + s.tried) % c.pins = k := by rw [← hk, ← hi.cfg]; rfl
    have ha := PPin.act2 hp k hk
    have hC := hx k (by omega)
    match xs, h with
    | [], h =>
      obtain ⟨rfl, rfl⟩ := h
      rcases hst with h1 | h1
      · simp at h1; omega
      · rw [can_pin hi, hp] at h1; cases h1
    | y :: l, h =>
      obtain ⟨_, r, _, h⟩ := h
      have hsw : S.act ((pinRout c).act s).1 r = (⟨x k, ByteArray.empty⟩, if x k = 0 then S.set 1 (3 + k) (IntKind.u64.wrap (s.epoch + 1)) else S) := by
        show S.act (PPin.act s).1 r = _
        rw [ha]
        exact hC.swap 0 _ r
      rw [hsw] at h
      have hi2 := hi.take ⟨x k, ByteArray.empty⟩
      by_cases hx0 : x k = 0
      · rw [if_pos hx0] at h
        have hT : (pinRout c).take s ⟨x k, ByteArray.empty⟩ = { s with part := 3 } := PPin.take2a hp _ hx0
        rw [hT] at h
        rw [show s.take ⟨x k, ByteArray.empty⟩ = { s with part := 3 } from hT] at hi2
        have he2 : CtlAt (S.set 1 (3 + k) (IntKind.u64.wrap (s.epoch + 1))) 0 e := he.other _ (by omega)
        have ha3 : PPin.act { s with part := 3 } = (⟨1, 1, ((0 : Nat) : Int), 0, 0, ByteArray.empty⟩, true) := PPin.act1 (.inr rfl)
        match l, h with
        | [], h =>
          obtain ⟨rfl, rfl⟩ := h
          rcases hst with h1 | h1
          · simp at h1; omega
          · rw [can_pin hi2] at h1; cases h1
        | z :: l, h =>
          obtain ⟨_, r2, _, h⟩ := h
          have hld : (S.set 1 (3 + k) (IntKind.u64.wrap (s.epoch + 1))).act ((pinRout c).act { s with part := 3 }).1 r2 = (⟨e, ByteArray.empty⟩, S.set 1 (3 + k) (IntKind.u64.wrap (s.epoch + 1))) := by
            show PHeap.act _ (PPin.act { s with part := 3 }).1 r2 = _
            rw [ha3]
            exact he2.load r2
          rw [hld] at h
          have hT3 : (pinRout c).take { s with part := 3 } ⟨e, ByteArray.empty⟩ = { s with pin := s.at_, part := 5 } := PPin.take3a (s := { s with part := 3 }) rfl ⟨e, ByteArray.empty⟩ hep.symm
          rw [hT3] at h
          have hi3 := hi2.take ⟨e, ByteArray.empty⟩
          rw [show PPin.take { s with part := 3 } ⟨e, ByteArray.empty⟩ = { s with pin := s.at_, part := 5 } from hT3] at hi3
          obtain ⟨rfl, rfl, rfl⟩ := runs_stop hi3 rfl h
          left
          have h2 := hi.two (.inl hp)
          refine ⟨k, s.tried, ⟨Int.le_refl _, h2, hat2, fun i' g1 g2 => by omega⟩, by omega, hx0, rfl, htk, hk, hep, by rw [hep], ?_⟩
          show ((2 : Nat) : Int) = _
          omega
      · rw [if_neg hx0] at h
        by_cases ht : s.tried + 1 = s.cfg.pins
        · have hT : (pinRout c).take s ⟨x k, ByteArray.empty⟩ = { s with tried := s.tried + 1, pin := 0, epoch := 0, taken := true, part := 5 } := PPin.take2b hp _ hx0 ht
          rw [hT] at h
          rw [show s.take ⟨x k, ByteArray.empty⟩ = { s with tried := s.tried + 1, pin := 0, epoch := 0, taken := true, part := 5 } from hT] at hi2
          obtain ⟨rfl, rfl, rfl⟩ := runs_stop hi2 rfl h
          rw [hi.cfg] at ht
          right
          refine ⟨fun i h1 h2 => ?_, rfl, rfl, rfl, ?_⟩
          · have : i = s.tried := by omega
            rw [this, hat2]
            exact hx0
          · show ((1 : Nat) : Int) = _
            omega
        · have hT : (pinRout c).take s ⟨x k, ByteArray.empty⟩ = { s with tried := s.tried + 1 } := PPin.take2c hp _ hx0 ht
          rw [hT] at h
          rw [show s.take ⟨x k, ByteArray.empty⟩ = { s with tried := s.tried + 1 } from hT] at hi2
          have hst2 : m - 1 ≤ (l.length : Nat) ∨ (pinRout c).can S' s' = false := by
            rcases hst with h1 | h1
            · left; simp only [List.length_cons] at h1; omega
            · exact .inr h1
          have := pin_tries he hx d { s with tried := s.tried + 1 } hi2 hp htk hep (by show (d : Int) = c.pins - (s.tried + 1); omega) h hst2 (by omega)
          rcases this with ⟨j, i, ⟨i1, i2, i3, i4⟩, j1, j2, j3, j4, j5, j6, j7, j8⟩ | ⟨j1, j2, j3, j4, j5⟩
          · left
            have i1' : s.tried + 1 ≤ i := i1
            refine ⟨j, i, ⟨by omega, i2, i3, fun i' g1 g2 => ?_⟩, j1, j2, j3, j4, j5, j6, j7, ?_⟩
            · by_cases hi0 : i' = s.tried
              · rw [hi0, hat2]
                exact hx0
              · exact i4 i' (by show s.tried + 1 ≤ i'; omega) g2
            · simp only [List.length_cons]
              have : (l.length : Int) = i - (s.tried + 1) + 2 := j8
              omega
          · right
            refine ⟨fun i h1 h2 => ?_, j2, j3, j4, ?_⟩
            · by_cases hi0 : i = s.tried
              · rw [hi0, hat2]
                exact hx0
              · exact j1 i (by show s.tried + 1 ≤ i; omega) h2
            · simp only [List.length_cons]
              have : (l.length : Int) = c.pins - (s.tried + 1) := j5
              omega
/-- A thread that pins alone. -/
theorem pin_alone {c : PCfg} {S S' : PHeap} {x : Nat → Int} {e th m : Int} {s' : PPin} {xs : List (PAct × PGot)} (hc : c.Right) (hth : 0 ≤ th) (he : CtlAt S 0 e) (hx : PinsAt S x c.pins) (h : Runs (pinRout c) S (newPin c th) xs S' s')
    (hst : m ≤ (xs.length : Nat) ∨ (pinRout c).can S' s' = false) (hm : c.pins + 3 ≤ m) :
    (∃ (j : Nat) (i : Int), (0 ≤ i ∧ i < c.pins ∧ (th % c.pins + i) % c.pins = j ∧ ∀ i', 0 ≤ i' → i' < i → x ((th % c.pins + i') % c.pins).toNat ≠ 0) ∧ (j : Int) < c.pins ∧ x j = 0 ∧ s'.part = 5 ∧ s'.taken = false ∧ s'.pin = j ∧ s'.epoch = e ∧ S' = S.set 1 (3 + j) (IntKind.u64.wrap (e + 1)) ∧ (xs.length : Int) = i + 3) ∨
    ((∀ j : Nat, (j : Int) < c.pins → x j ≠ 0) ∧ s'.part = 5 ∧ s'.taken = true ∧ S' = S ∧ (xs.length : Int) = c.pins + 1) := by
  have hi := newPin_inv c hc th hth
  have hp := hc.pins
  match xs, h with
  | [], h =>
    obtain ⟨rfl, rfl⟩ := h
    rcases hst with h1 | h1
    · simp at h1; omega
    · rw [can_pin hi] at h1; cases h1
  | y :: l, h =>
    obtain ⟨_, r, _, h⟩ := h
    have ha : PPin.act (newPin c th) = (⟨1, 1, ((0 : Nat) : Int), 0, 0, ByteArray.empty⟩, true) := PPin.act1 (.inl rfl)
    have hld : S.act ((pinRout c).act (newPin c th)).1 r = (⟨e, ByteArray.empty⟩, S) := by
      show PHeap.act _ (PPin.act (newPin c th)).1 r = _
      rw [ha]
      exact he.load r
    rw [hld] at h
    have hT : (pinRout c).take (newPin c th) ⟨e, ByteArray.empty⟩ = { newPin c th with epoch := e, part := 2 } := PPin.take1 (s := newPin c th) rfl ⟨e, ByteArray.empty⟩
    rw [hT] at h
    have hi2 := hi.take ⟨e, ByteArray.empty⟩
    rw [show PPin.take (newPin c th) ⟨e, ByteArray.empty⟩ = { newPin c th with epoch := e, part := 2 } from hT] at hi2
    have hst2 : m - 1 ≤ (l.length : Nat) ∨ (pinRout c).can S' s' = false := by
      rcases hst with h1 | h1
      · left; simp only [List.length_cons] at h1; omega
      · exact .inr h1
    have := pin_tries he hx c.pins.toNat { newPin c th with epoch := e, part := 2 } hi2 rfl rfl rfl (by show ((c.pins.toNat : Nat) : Int) = c.pins - 0; omega) h hst2 (by omega)
    rcases this with ⟨j, i, i0, j1, j2, j3, j4, j5, j6, j7, j8⟩ | ⟨j1, j2, j3, j4, j5⟩
    · left
      refine ⟨j, i, i0, j1, j2, j3, j4, j5, j6, j7, ?_⟩
      simp only [List.length_cons]
      have : (l.length : Int) = i - 0 + 2 := j8
      omega
    · right
      refine ⟨fun j hj => ?_, j2, j3, j4, ?_⟩
      · have hf := hi2.first
        have hfe : PPin.first { newPin c th with epoch := e, part := 2 } = th % c.pins := rfl
        rw [hfe] at hf
        have k1 := Int.emod_nonneg ((j : Int) - th % c.pins) (b := c.pins) (by omega)
        have k2 := Int.emod_lt_of_pos ((j : Int) - th % c.pins) (b := c.pins) (by omega)
        have := j1 (((j : Int) - th % c.pins) % c.pins) k1 k2
        rw [hfe] at this
        have e1 : (th % c.pins + ((j : Int) - th % c.pins) % c.pins) % c.pins = j := by
          rw [Int.add_emod_emod, show th % c.pins + ((j : Int) - th % c.pins) = (j : Int) by omega]
          exact Int.emod_eq_of_lt (by omega) hj
        rw [e1] at this
        exact this
      · simp only [List.length_cons]
        have : (l.length : Int) = c.pins - 0 := j5
        omega
end Go.Proofs.Ytpldnbdcpihjcaa
