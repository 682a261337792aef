/-
  Several threads that pin (layer 25): the plain law. No condition.
-/
import Derived.Test.YtpldnbdcpihjcaaPinB
import Derived.Test.YtpldnbdcpihjcaaCrowd
namespace Go.Proofs.Ytpldnbdcpihjcaa
set_option linter.unusedVariables false
open Go.ChangeShapes Go.WideShapes Go.ChangeAt Go.RowKit
open Go.ChangeMaps (setBlock)

def pinLie (c : PCfg) : Lie PPin := ⟨73, PinOk c, fun h => h.lies.blk.lt, fun h k => h.keep k⟩
theorem pin_RL (c : PCfg) : ∀ w D b s, (pinRout c).R w D b s → D b ∧ (pinLie c).L w b s := fun _ _ _ _ h => ⟨h.2.1, h.2.2⟩
def PPin.Held (s : PPin) : Prop := s.part = 3 ∨ s.part = 4 ∨ (s.part = 5 ∧ s.taken = false)
def PPin.atN (s : PPin) : Nat := s.at_.toNat
theorem atN_eq {c : PCfg} {s : PPin} (h : PinInv c s) : s.at_ = (s.atN : Int) ∧ (s.atN : Int) < c.pins := by
  have := h.at_ok
  unfold PPin.atN
  omega
/-- What a thread that holds a pin has in its cell. -/
def HasPin (S : PHeap) (s : PPin) : Prop := ∃ v, CtlAt S (3 + s.atN) v ∧ 1 ≤ v ∧ (s.part ≠ 4 → v = s.epoch + 1) ∧ (s.part = 5 → s.pin = (s.atN : Int))
structure HoldInv (c : PCfg) (S : PHeap) (e : Int) (n : Nat) (ss : Nat → PPin) : Prop where
  ep : CtlAt S 0 e
  cells : ∃ x, PinsAt S x c.pins
  inv : ∀ j, j < n → PinInv c (ss j)
  epoch : ∀ j, j < n → 0 ≤ (ss j).epoch ∧ (ss j).epoch ≤ e
  nt : ∀ j, j < n → (ss j).part ≠ 5 → (ss j).taken = false
  held : ∀ j, j < n → (ss j).Held → HasPin S (ss j)
  apart : ∀ i j, i < n → j < n → i ≠ j → (ss i).Held → (ss j).Held → (ss i).atN ≠ (ss j).atN
theorem HoldInv.upd {c : PCfg} {S S' : PHeap} {e : Int} {n : Nat} {ss : Nat → PPin} (h : HoldInv c S e n ss) {j0 : Nat} (hj0 : j0 < n) {s' : PPin} (hep : CtlAt S' 0 e) (hx : ∃ x, PinsAt S' x c.pins)
    (ho : ∀ j, j < n → j ≠ j0 → (ss j).Held → HasPin S (ss j) → HasPin S' (ss j)) (hi : PinInv c s') (he : 0 ≤ s'.epoch ∧ s'.epoch ≤ e) (hnt : s'.part ≠ 5 → s'.taken = false)
    (hh : s'.Held → HasPin S' s') (ha : s'.Held → ∀ j, j < n → j ≠ j0 → (ss j).Held → (ss j).atN ≠ s'.atN) : HoldInv c S' e n (fun j => if j = j0 then s' else ss j) := by
  refine ⟨hep, hx, fun j hj => ?_, fun j hj => ?_, fun j hj => ?_, fun j hj => ?_, fun i j hi' hj hij => ?_⟩
  · by_cases hjj : j = j0
    · simp only [hjj, if_true]; exact hi
    · simp only [hjj, if_false]; exact h.inv j hj
  · by_cases hjj : j = j0
    · simp only [hjj, if_true]; exact he
    · simp only [hjj, if_false]; exact h.epoch j hj
  · by_cases hjj : j = j0
    · simp only [hjj, if_true]; exact hnt
    · simp only [hjj, if_false]; exact h.nt j hj
  · by_cases hjj : j = j0
    · simp only [hjj, if_true]; exact hh
    · simp only [hjj, if_false]; exact fun hd => ho j hj hjj hd (h.held j hj hd)
  · by_cases hii : i = j0
    · have hjj : j ≠ j0 := fun e => hij (hii.trans e.symm)
      simp only [hii, if_true, hjj, if_false]
      exact fun h1 h2 e => ha h1 j hj hjj h2 e.symm
    · by_cases hjj : j = j0
      · simp only [hii, if_false, hjj, if_true]
        exact fun h1 h2 => ha h2 i hi' hii h1
      · simp only [hii, hjj, if_false]
        exact h.apart i j hi' hj hij
theorem u64_small {x : Int} (h : 0 ≤ x ∧ x ≤ 1000) : IntKind.u64.wrap (x + 1) = x + 1 := IntWalk.u64_in _ (by omega)
theorem HoldInv.bump {c : PCfg} {S : PHeap} {e : Int} {n : Nat} {ss : Nat → PPin} (h : HoldInv c S e n ss) : HoldInv c (S.set 1 0 (e + 1)) (e + 1) n ss := by
  obtain ⟨x, hx⟩ := h.cells
  refine ⟨h.ep.same _, ⟨x, hx.other _⟩, h.inv, fun j hj => ?_, h.nt, fun j hj hd => ?_, h.apart⟩
  · have := h.epoch j hj; omega
  · obtain ⟨v, h1, h2⟩ := h.held j hj hd
    exact ⟨v, h1.other _ (by omega), h2⟩
structure HStep (c : PCfg) (S : PHeap) (s : PPin) (e : Int) (n : Nat) (ss : Nat → PPin) (j0 : Nat) (S' : PHeap) (s' : PPin) : Prop where
  inv : HoldInv c S' e n (fun j => if j = j0 then s' else ss j)
  faults : S'.faults = S.faults
  last : S'.last = S.last
  new : s.part ≠ 5 → s'.part = 5 → s'.taken = false → s'.epoch = e
theorem hold_step {c : PCfg} {S : PHeap} {e : Int} {n : Nat} {ss : Nat → PPin} (h : HoldInv c S e n ss) (he1 : 0 ≤ e ∧ e ≤ 1000) {j0 : Nat} (hj0 : j0 < n) (hc : (pinRout c).can S (ss j0) = true) (r : Nat) :
    HStep c S (ss j0) e n ss j0 (S.act (ss j0).act.1 r).2 ((ss j0).take (S.act (ss j0).act.1 r).1) := by
  have hi := h.inv j0 hj0
  have hep := h.epoch j0 hj0
  have hnt := h.nt j0 hj0
  have hhd := h.held j0 hj0
  have hap := fun j hj hne => h.apart j j0 hj hj0 hne
  obtain ⟨x, hx⟩ := h.cells
  generalize hs : ss j0 = s at *
  rw [can_pin hi] at hc
  have hp5 : s.part ≠ 5 := fun e => by rw [e] at hc; cases hc
  obtain ⟨hat, hatl⟩ := atN_eq hi
  have hpp := hi.part
  have hw := u64_small (x := s.epoch) (by omega)
  rcases (by omega : s.part = 1 ∨ s.part = 2 ∨ s.part = 3 ∨ s.part = 4) with p | p | p | p
  · rw [PPin.act1 (.inl p), h.ep.load r]
    have ht := PPin.take1 p ⟨e, ByteArray.empty⟩
    have hi2 := hi.take ⟨e, ByteArray.empty⟩
    rw [ht] at hi2 ⊢
    have nh : ¬ PPin.Held { s with epoch := e, part := 2 } := fun k => by rcases k with k | k | k <;> first | (cases k; done) | (cases k.1; done)
    exact ⟨h.upd hj0 h.ep ⟨x, hx⟩ (fun _ _ _ _ k => k) hi2 ⟨he1.1, Int.le_refl _⟩ (fun _ => hnt hp5) (fun k => absurd k nh) (fun k => absurd k nh), rfl, rfl, fun _ k => by cases k⟩
  · have hC := hx s.atN hatl
    rw [PPin.act2 p s.atN hat, hC.swap, hw]
    by_cases hx0 : x s.atN = 0
    · rw [if_pos hx0]
      have ht := PPin.take2a p ⟨x s.atN, ByteArray.empty⟩ hx0
      have hi2 := hi.take ⟨x s.atN, ByteArray.empty⟩
      rw [ht] at hi2 ⊢
      have hne : ∀ j, j < n → j ≠ j0 → (ss j).Held → HasPin S (ss j) → (ss j).atN ≠ s.atN := fun j _ _ _ k e => by
        obtain ⟨v, k1, k2, _⟩ := k
        rw [e] at k1
        have := k1.uniq hC
        omega
      refine ⟨h.upd hj0 (h.ep.other _ (by omega)) ⟨_, hx.put _ _⟩ (fun j hj hjj hd k => ?_) hi2 hep (fun _ => hnt hp5) (fun _ => ⟨s.epoch + 1, hC.same _, by omega, fun _ => rfl, fun k => by cases k⟩) (fun _ j hj hjj hd => hne j hj hjj hd (h.held j hj hd)), rfl, rfl, fun _ k => by cases k⟩
      have k0 := hne j hj hjj hd k
      obtain ⟨v, k1, k2⟩ := k
      exact ⟨v, k1.other _ (by omega), k2⟩
    · rw [if_neg hx0]
      by_cases htr : s.tried + 1 = s.cfg.pins
      · have ht := PPin.take2b p ⟨x s.atN, ByteArray.empty⟩ hx0 htr
        have hi2 := hi.take ⟨x s.atN, ByteArray.empty⟩
        rw [ht] at hi2 ⊢
        have nh : ¬ PPin.Held { s with tried := s.tried + 1, pin := 0, epoch := 0, taken := true, part := 5 } := fun k => by rcases k with k | k | k <;> first | (cases k; done) | (cases k.2; done)
        exact ⟨h.upd hj0 h.ep ⟨x, hx⟩ (fun _ _ _ _ k => k) hi2 ⟨Int.le_refl _, he1.1⟩ (fun k => absurd rfl k) (fun k => absurd k nh) (fun k => absurd k nh), rfl, rfl, fun _ _ k => by cases k⟩
      · have ht := PPin.take2c p ⟨x s.atN, ByteArray.empty⟩ hx0 htr
        have hi2 := hi.take ⟨x s.atN, ByteArray.empty⟩
        rw [ht] at hi2 ⊢
        have nh : ¬ PPin.Held { s with tried := s.tried + 1 } := fun k => by
          rcases k with k | k | k
          · have : s.part = 3 := k
            omega
          · have : s.part = 4 := k
            omega
          · have : s.part = 5 := k.1
            omega
        exact ⟨h.upd hj0 h.ep ⟨x, hx⟩ (fun _ _ _ _ k => k) hi2 hep (fun _ => hnt hp5) (fun k => absurd k nh) (fun k => absurd k nh), rfl, rfl, fun _ k => absurd k hp5⟩
  · rw [PPin.act1 (.inr p), h.ep.load r]
    have hd : s.Held := .inl p
    obtain ⟨v, k1, k2, k3, k4⟩ := hhd hd
    by_cases hee : e = s.epoch
    · have ht := PPin.take3a p ⟨e, ByteArray.empty⟩ hee
      have hi2 := hi.take ⟨e, ByteArray.empty⟩
      rw [ht] at hi2 ⊢
      exact ⟨h.upd hj0 h.ep ⟨x, hx⟩ (fun _ _ _ _ k => k) hi2 hep (fun k => absurd rfl k) (fun _ => ⟨v, k1, k2, fun _ => k3 (by omega), fun _ => hat⟩) (fun _ j hj hjj hdj => hap j hj hjj hdj hd), rfl, rfl, fun _ _ _ => hee.symm⟩
    · have ht := PPin.take3b p ⟨e, ByteArray.empty⟩ hee
      have hi2 := hi.take ⟨e, ByteArray.empty⟩
      rw [ht] at hi2 ⊢
      exact ⟨h.upd hj0 h.ep ⟨x, hx⟩ (fun _ _ _ _ k => k) hi2 ⟨he1.1, Int.le_refl _⟩ (fun _ => hnt hp5) (fun _ => ⟨v, k1, k2, fun k => absurd rfl k, fun k => by cases k⟩) (fun _ j hj hjj hdj => hap j hj hjj hdj hd), rfl, rfl, fun _ k => by cases k⟩
  · have hC := hx s.atN hatl
    rw [PPin.act4 p s.atN hat, hC.store, hw]
    have hd : s.Held := .inr (.inl p)
    have ht := PPin.take4 p ⟨0, ByteArray.empty⟩
    have hi2 := hi.take ⟨0, ByteArray.empty⟩
    rw [ht] at hi2 ⊢
    refine ⟨h.upd hj0 (h.ep.other _ (by omega)) ⟨_, hx.put _ _⟩ (fun j hj hjj hdj k => ?_) hi2 hep (fun _ => hnt hp5) (fun _ => ⟨s.epoch + 1, hC.same _, by omega, fun _ => rfl, fun k => by cases k⟩) (fun _ j hj hjj hdj => hap j hj hjj hdj hd), rfl, rfl, fun _ k => by cases k⟩
    have k0 := hap j hj hjj hdj hd
    obtain ⟨v, k1, k2⟩ := k
    exact ⟨v, k1.other _ (by omega), k2⟩
theorem hold_start (c : PCfg) (hc : c.Right) (r n : Nat) : HoldInv c (fieldS c r) 0 n (fun j => newPin c j) := by
  have nh : ∀ j : Nat, ¬ (newPin c j).Held := fun j k => by rcases k with k | k | k <;> first | (cases k; done) | (cases k.1; done)
  exact ⟨field_ctl c r 0 (by have := (ctlSize_eq hc).2.1; omega), ⟨_, field_pins c hc r⟩, fun j _ => newPin_inv c hc j (by omega), fun j _ => ⟨Int.le_refl _, Int.le_refl _⟩, fun j _ _ => rfl, fun j _ k => absurd k (nh j), fun i j _ _ _ k => absurd k (nh i)⟩
end Go.Proofs.Ytpldnbdcpihjcaa
