/-
  The routine that pins an epoch (layer 25), as a routine. No condition.
-/
import Derived.Test.YtpldnbdcpihjcaaPinA
import Derived.Test.YtpldnbdcpihjcaaPinT
import Derived.Test.YtpldnbdcpihjcaaPinN
import Derived.Test.YtpldnbdcpihjcaaPinP
import Derived.Test.YtpldnbdcpihjcaaTapeD
namespace Go.Proofs.Ytpldnbdcpihjcaa
set_option linter.unusedVariables false
open Go.ChangeShapes Go.WideShapes Go.ChangeAt Go.RowKit
open Go.ChangeMaps (setBlock)

/-- A routine that was made right, where it lies. -/
structure PinOk (c : PCfg) (w : World) (b : Nat) (s : PPin) : Prop where
  lies : PinIn w b s
  inv : PinInv c s
theorem PinOk.keep {c : PCfg} {w w' : World} {b : Nat} {s : PPin} (h : PinOk c w b s) (hb : w'.heap[b]? = w.heap[b]?) : PinOk c w' b s := ⟨h.lies.keep hb, h.inv⟩
theorem PinOk.below {c : PCfg} {w w' : World} {b : Nat} {s : PPin} (h : PinOk c w b s) (hb : Below w.heap.size w w') : PinOk c w' b s := ⟨h.lies.below hb, h.inv⟩
def PinR (c : PCfg) (w : World) (Q : Nat → Prop) (b : Nat) (s : PPin) : Prop := In Q w ∧ Q b ∧ PinOk c w b s
theorem pinR_fresh {c : PCfg} {w : World} {b : Nat} {s : PPin} (h : PinOk c w b s) : PinR c w (fun k => k = b) b s := ⟨fun k hk => by rw [hk]; exact h.lies.blk.lt, rfl, h⟩
theorem newPin_inv (c : PCfg) (hc : c.Right) (th : Int) (hth : 0 ≤ th) : PinInv c (newPin c th) :=
  ⟨hc, rfl, by show (1 : Int) ≤ 1 ∧ (1 : Int) ≤ 5; decide, ⟨Int.emod_nonneg _ (by have := hc.pins; omega), Int.emod_lt_of_pos _ (by have := hc.pins; omega)⟩, by have := hc.pins; show (0 : Int) ≤ 0 ∧ (0 : Int) ≤ c.pins; omega, fun _ => rfl, fun e => by rcases e with e | e | e <;> cases e⟩
theorem pinAct_ok {c : PCfg} {s : PPin} (h : PinInv c s) : (s.act).1.Ok := by
  obtain ⟨k, hk⟩ : ∃ k : Nat, s.at_ = k := ⟨s.at_.toNat, by have := h.at_ok; omega⟩
  have ha := h.at_ok
  have k0 : (-9223372036854775808 : Int) ≤ 0 ∧ (0 : Int) ≤ 9223372036854775807 := by decide
  have k1 : (-9223372036854775808 : Int) ≤ 1 ∧ (1 : Int) ≤ 9223372036854775807 := by decide
  have k2 : (-9223372036854775808 : Int) ≤ 2 ∧ (2 : Int) ≤ 9223372036854775807 := by decide
  have k3 : (-9223372036854775808 : Int) ≤ 3 ∧ (3 : Int) ≤ 9223372036854775807 := by decide
  have kc : (-9223372036854775808 : Int) ≤ ((3 + k : Nat) : Int) ∧ ((3 + k : Nat) : Int) ≤ 9223372036854775807 := by omega
  have z : (0 : Int) ≤ 0 ∧ (0 : Int) ≤ 18446744073709551615 := by decide
  have z1 : (0 : Int) ≤ 1 ∧ (1 : Int) ≤ 18446744073709551615 := by decide
  have hE : ByteArray.empty.size ≤ 9223372036854775807 := by decide
  have := h.part
  rcases (by omega : s.part = 1 ∨ s.part = 2 ∨ s.part = 3 ∨ s.part = 4 ∨ s.part = 5) with p | p | p | p | p
  · rw [PPin.act1 (.inl p)]; exact ⟨k1, z1, k0, z, z, hE⟩
  · rw [PPin.act2 p k hk]; exact ⟨k3, z1, kc, z, u64_span _, hE⟩
  · rw [PPin.act1 (.inr p)]; exact ⟨k1, z1, k0, z, z, hE⟩
  · rw [PPin.act4 p k hk]; exact ⟨k2, z1, kc, z, u64_span _, hE⟩
  · rw [PPin.act5 p]; exact ⟨k0, z, k0, z, z, hE⟩
def pinRout (c : PCfg) : Rout PPin where
  T := 73
  fAct := 34
  fTake := 37
  mAct := fun _ _ => by kernel_rfl
  mTake := fun _ _ => by kernel_rfl
  nAct := fun _ _ => by kernel_rfl
  nTake := fun _ _ => by kernel_rfl
  eAct := fun _ _ => by kernel_rfl
  eTake := fun _ _ => by kernel_rfl
  R := PinR c
  own := fun h => h.1
  hG := fun h => h.2.1
  keep := fun ⟨h1, h2, h3⟩ hs hk => ⟨h1.mono hs, h2, h3.keep (hk _ h2)⟩
  act := PPin.act
  take := PPin.take
  okA := fun h => pinAct_ok h.2.2.inv
  cAct := fun ⟨_, _, h⟩ => pinAct_any h.lies
  cTake := fun {w G b s} g ⟨h1, h2, h3⟩ hg => (pinTake_any h3.lies (fun e => by rw [h3.inv.cfg]; exact h3.inv.two (.inl e)) g hg).mono fun e w' ⟨he, hv, hc⟩ => ⟨he, ⟨h1.nw hc.size, .inl h2, hv, h3.inv.take g⟩, hc.mono fun i hi => by rw [hi]; exact h2⟩
theorem pinNew_ok (c : PCfg) (hc : c.Right) (th : Int) (hth : 0 ≤ th ∧ th ≤ 9223372036854775807) (w : World) :
    Calls Try.prog 33 #[c.val, .int .i64 th] w fun e w' => ∃ b, e = .returned (.pointer (some ⟨b, 0, none⟩)) ∧ PinOk c w' b (newPin c th) ∧ w.heap.size ≤ b ∧ Below w.heap.size w w' :=
  (pinNew_any c hc th hth w).mono fun e w' ⟨b, he, h1, h2, h3⟩ => ⟨b, he, ⟨h1, newPin_inv c hc th hth.1⟩, h2, h3⟩
theorem can_pin {c : PCfg} {S : PHeap} {s : PPin} (h : PinInv c s) : (pinRout c).can S s = !(decide (s.part = 5)) := by
  show ((PPin.act s).2 && S.ready (PPin.act s).1) = _
  obtain ⟨k, hk⟩ : ∃ k : Nat, s.at_ = k := ⟨s.at_.toNat, by have := h.at_ok; omega⟩
  have := h.part
  rcases (by omega : s.part = 1 ∨ s.part = 2 ∨ s.part = 3 ∨ s.part = 4 ∨ s.part = 5) with p | p | p | p | p
  · rw [PPin.act1 (.inl p), ready_load, p]; rfl
  · rw [PPin.act2 p k hk, ready_swap, p]; rfl
  · rw [PPin.act1 (.inr p), ready_load, p]; rfl
  · rw [PPin.act4 p k hk, ready_store, p]; rfl
  · rw [PPin.act5 p, p]; rfl
end Go.Proofs.Ytpldnbdcpihjcaa
