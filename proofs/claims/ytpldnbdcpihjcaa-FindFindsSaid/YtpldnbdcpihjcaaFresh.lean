/-
  A heap of the call's own, its memory told; a routine that was made behind it goes alone. No condition.
-/
import Derived.Test.YtpldnbdcpihjcaaAlone
import Derived.Test.YtpldnbdcpihjcaaSess
namespace Go.Proofs.Ytpldnbdcpihjcaa
set_option linter.unusedVariables false
open Go.ChangeShapes Go.WideShapes Go.ChangeAt Go.RowKit
open Go.ChangeMaps (setBlock)

structure Own (w0 : World) (hb : Nat) (S : PHeap) (F : Nat → Prop) (w : World) : Prop where
  heap : HeapIn w hb S F
  new : ∀ k, F k → w0.heap.size ≤ k
  below : Below w0.heap.size w0 w
theorem Own.of_sess {w0 w : World} {hb : Nat} {S : PHeap} (s : Sess w0 hb S w) : ∃ F, Own w0 hb S F w := by
  obtain ⟨F, h1, h2, h3⟩ := s
  exact ⟨F, h1, h2, h3⟩
theorem Own.keep {w0 w w' : World} {hb : Nat} {S : PHeap} {F : Nat → Prop} (s : Own w0 hb S F w) (hb1 : Below w.heap.size w w') : Own w0 hb S F w' := ⟨s.heap.below hb1, s.new, Below.next_ s.below hb1⟩
theorem Own.alloc {w0 w : World} {hb : Nat} {S : PHeap} {F : Nat → Prop} (s : Own w0 hb S F w) (o : Obj) : Own w0 hb S F (w.alloc o) := s.keep (Below.more_ (Below.refl _ _) o)
theorem Own.sess {w0 w : World} {hb : Nat} {S : PHeap} {F : Nat → Prop} (s : Own w0 hb S F w) : Sess w0 hb S w := ⟨F, s.heap, s.new, s.below⟩
theorem Own.off {w0 w w' : World} {hb : Nat} {S : PHeap} {F D : Nat → Prop} (s : Own w0 hb S F w) (hc : Chg D w w') (hD : Off D F) (hw : ∀ k, D k → w0.heap.size ≤ k) : Own w0 hb S F w' :=
  ⟨s.heap.off hc hD, s.new, s.below.trans (hc.below hw s.below.size)⟩
theorem Own.turned {w0 w w' : World} {hb : Nat} {S S' : PHeap} {F : Nat → Prop} (s : Own w0 hb S F w) (t : Turned F hb S' w w') : Own w0 hb S' (nw F w w') w' :=
  ⟨t.1, fun k hk => by
    rcases hk with hk | hk
    · exact s.new k hk
    · exact Nat.le_trans s.below.size hk.1, s.below.trans (t.2.below s.new s.below.size)⟩
def OwnPost {σ : Type} (Rt : Rout σ) (w0 w2 : World) (F D : Nat → Prop) (hb b : Nat) (most : Int) (S : PHeap) (s : σ) (e : Ending) (w' : World) : Prop :=
  ∃ xs S' s' F' D', Runs Rt S s xs S' s' ∧ (most ≤ (xs.length : Nat) ∨ Rt.can S' s' = false) ∧ (((xs.length : Nat) : Int) ≤ most ∨ xs = []) ∧
    e = .returned (.tuple #[.int .i64 (xs.length : Nat), .bool (!(Rt.act s').2)]) ∧ Own w0 hb S' F' w' ∧ Rt.R w' D' b s' ∧ (∀ k, F' k ∨ D' k → F k ∨ D k ∨ w2.heap.size ≤ k) ∧ Chg (fun k => F k ∨ D k) w2 w' ∧ Off F' D'
theorem alone_own {σ : Type} (Rt : Rout σ) {w0 w2 : World} {hb b : Nat} {S : PHeap} {s : σ} {F D : Nat → Prop} (s1 : Own w0 hb S F w2) (hR : Rt.R w2 D b s) (off : Off F D) (hD : ∀ k, D k → w0.heap.size ≤ k)
    (hf : S.faults ≤ 1000000000) (hla : S.last ≤ 1000000000) (most : Int) (hm : most ≤ 1000000) :
    Calls Try.prog 22 #[.pointer (some ⟨hb, 0, none⟩), .iface Rt.T (.pointer (some ⟨b, 0, none⟩)), .int .i64 most] w2 (OwnPost Rt w0 w2 F D hb b most S s) := by
  refine (alone_any Rt s1.heap hR off hf hla most hm).mono fun e w' ⟨xs, S', s', h1, h2, h3, h4, h5⟩ => ?_
  obtain ⟨⟨F', D', k1, k2, k3, k4⟩, k5⟩ := h5
  refine ⟨xs, S', s', F', D', h1, h2, h3, h4, ⟨k1, fun k hk => ?_, s1.below.trans (k5.below (fun k hk => ?_) s1.below.size)⟩, k2, fun k hk => ?_, k5, k3⟩
  · rcases k4 k (.inl hk) with (hk | hk) | hk
    · exact s1.new k hk
    · exact hD k hk
    · have := s1.below.size; omega
  · rcases hk with hk | hk
    · exact s1.new k hk
    · exact hD k hk
  · rcases k4 k hk with (hk | hk) | hk
    · exact .inl hk
    · exact .inr (.inl hk)
    · exact .inr (.inr hk)
end Go.Proofs.Ytpldnbdcpihjcaa
