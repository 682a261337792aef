/-
  drive.Next on a heap of the call's own. No condition.
-/
import Derived.Test.YtmlnhjfdhjachaaGreatCtlO
namespace Go.Proofs.YtmlnhjfdhjachaaGreat
set_option linter.unusedVariables false
open Go.ChangeShapes Go.WideShapes Go.ChangeAt Go.RowKit
open Go.ChangeMaps (setBlock)

structure NextP {σ : Type} (Rt : Rout σ) (w0 w : World) (F D : Nat → Prop) (hb b : Nat) (S : PHeap) (s : σ) (S' : PHeap) (s' : σ) (F' D' : Nat → Prop) (is : Bool) (w' : World) : Prop where
  own : Own w0 hb S' F' w'
  rt : Rt.R w' D' b s'
  off : Off F' D'
  sub : ∀ k, F' k ∨ D' k → F k ∨ D k ∨ w.heap.size ≤ k
  chg : Chg (fun k => F k ∨ D k) w w'
  did : (is = false ∧ Rt.can S s = false ∧ S' = S ∧ s' = s) ∨ (is = true ∧ Rt.can S s = true ∧ ∃ r, S' = (S.act (Rt.act s).1 r).2 ∧ s' = Rt.take s (S.act (Rt.act s).1 r).1)
theorem next_own {σ : Type} (Rt : Rout σ) {w0 w : World} {hb b : Nat} {S : PHeap} {s : σ} {F D : Nat → Prop} (o : Own w0 hb S F w) (hR : Rt.R w D b s) (off : Off F D) (hD : ∀ k, D k → w0.heap.size ≤ k)
    (hf : S.faults < 9223372036854775807) (hla : S.last < 9223372036854775807) :
    Calls Tryz.prog 26 #[.pointer (some ⟨hb, 0, none⟩), .iface Rt.T (.pointer (some ⟨b, 0, none⟩))] w fun e w' => ∃ a g is, e = .returned (.tuple #[stepV 0 a g, .bool is]) ∧ ∃ S' s' F' D', NextP Rt w0 w F D hb b S s S' s' F' D' is w' := by
  have went : ∀ {S' : PHeap} {s' : σ} {w' : World}, Went Rt F D hb b S' s' w w' → ∃ F' D', Own w0 hb S' F' w' ∧ Rt.R w' D' b s' ∧ Off F' D' ∧ (∀ k, F' k ∨ D' k → F k ∨ D k ∨ w.heap.size ≤ k) ∧ Chg (fun k => F k ∨ D k) w w' := by
    intro S' s' w' ⟨⟨F', D', k1, k2, k3, k4⟩, k5⟩
    have sub : ∀ k, F' k ∨ D' k → F k ∨ D k ∨ w.heap.size ≤ k := fun k hk => by
      rcases k4 k hk with (hk | hk) | hk
      · exact .inl hk
      · exact .inr (.inl hk)
      · exact .inr (.inr hk)
    refine ⟨F', D', ⟨k1, fun k hk => ?_, o.below.trans (k5.below (fun k hk => ?_) o.below.size)⟩, k2, k3, sub, k5⟩
    · rcases sub k (.inl hk) with hk | hk | hk
      · exact o.new k hk
      · exact hD k hk
      · have := o.below.size; omega
    · rcases hk with hk | hk
      · exact o.new k hk
      · exact hD k hk
  cases hy : (Rt.act s).2 with
  | false =>
    refine (next_stop Rt o.heap hR hy).mono fun e w' ⟨he, hb1⟩ => ⟨noAct, noGot, false, he, S, s, F, D, ⟨o.keep hb1, Rt.below hR hb1, off, fun k hk => by rcases hk with hk | hk; exact .inl hk; exact .inr (.inl hk), Chg.of_below hb1 _, .inl ⟨rfl, by unfold Rout.can; rw [hy]; rfl, rfl, rfl⟩⟩⟩
  | true =>
    cases hr : S.ready (Rt.act s).1 with
    | false =>
      refine (next_wait Rt o.heap hR off hf hy hr).mono fun e w' ⟨he, hw⟩ => ?_
      obtain ⟨F', D', k1, k2, k3, k4, k5⟩ := went hw
      exact ⟨noAct, noGot, false, he, S, s, F', D', ⟨k1, k2, k3, k4, k5, .inl ⟨rfl, by unfold Rout.can; rw [hr, Bool.and_false], rfl, rfl⟩⟩⟩
    | true =>
      refine (next_go Rt o.heap hR off hf hy hla hr).mono fun e w' ⟨r, he, hw⟩ => ?_
      obtain ⟨F', D', k1, k2, k3, k4, k5⟩ := went hw
      exact ⟨_, _, true, he, _, _, F', D', ⟨k1, k2, k3, k4, k5, .inr ⟨rfl, by unfold Rout.can; rw [hy, hr]; rfl, r, rfl, rfl⟩⟩⟩
end Go.Proofs.YtmlnhjfdhjachaaGreat
