/-
  Two routines beside a heap of the call's own, and blocks that all leave alone. No condition.
-/
import Derived.Test.YtmlnhjfdhjachaaGreatFindL
import Derived.Test.YtmlnhjfdhjachaaGreatCrew
namespace Go.Proofs.YtmlnhjfdhjachaaGreat
set_option linter.unusedVariables false
open Go.ChangeShapes Go.WideShapes Go.ChangeAt Go.RowKit
open Go.ChangeMaps (setBlock)

structure Two {σ τ : Type} (R1 : Rout σ) (R2 : Rout τ) (w0 : World) (hb : Nat) (S : PHeap) (F : Nat → Prop) (K : List (Nat × Obj)) (b1 : Nat) (s1 : σ) (b2 : Nat) (s2 : τ) (w : World) : Prop where
  own : OwnK w0 hb S F K w
  rt : ∃ D1 D2, R1.R w D1 b1 s1 ∧ R2.R w D2 b2 s2 ∧ Off F D1 ∧ Off F D2 ∧ (∀ k, D1 k → ¬ D2 k) ∧ (∀ k, D1 k ∨ D2 k → w0.heap.size ≤ k) ∧ ∀ x ∈ K, ¬ D1 x.1 ∧ ¬ D2 x.1
section
variable {σ τ : Type} {R1 : Rout σ} {R2 : Rout τ} {w0 w w' : World} {hb b1 b2 : Nat} {S : PHeap} {F : Nat → Prop} {K : List (Nat × Obj)} {s1 : σ} {s2 : τ}
theorem Two.swap (h : Two R1 R2 w0 hb S F K b1 s1 b2 s2 w) : Two R2 R1 w0 hb S F K b2 s2 b1 s1 w := by
  obtain ⟨D1, D2, h1, h2, h3, h4, h5, h6, h7⟩ := h.rt
  exact ⟨h.own, D2, D1, h2, h1, h4, h3, fun k hk hk1 => h5 k hk1 hk, fun k hk => h6 k hk.symm, fun x hx => (h7 x hx).symm⟩
theorem Two.below (h : Two R1 R2 w0 hb S F K b1 s1 b2 s2 w) (hb' : Below w.heap.size w w') : Two R1 R2 w0 hb S F K b1 s1 b2 s2 w' := by
  obtain ⟨D1, D2, h1, h2, h3, h4, h5, h6, h7⟩ := h.rt
  exact ⟨h.own.below hb', D1, D2, R1.below h1 hb', R2.below h2 hb', h3, h4, h5, h6, h7⟩
theorem Two.add (h : Two R1 R2 w0 hb S F K b1 s1 b2 s2 w) (o : Obj) : Two R1 R2 w0 hb S F ((w.heap.size, o) :: K) b1 s1 b2 s2 (w.alloc o) := by
  obtain ⟨D1, D2, h1, h2, h3, h4, h5, h6, h7⟩ := h.rt
  refine ⟨h.own.add o, D1, D2, R1.below h1 (Below.more_ (Below.refl _ _) o), R2.below h2 (Below.more_ (Below.refl _ _) o), h3, h4, h5, h6, fun x hx => ?_⟩
  rcases List.mem_cons.1 hx with rfl | hx
  · exact ⟨fun hD => by have := R1.own h1 _ hD; simp only at this; omega, fun hD => by have := R2.own h2 _ hD; simp only at this; omega⟩
  · exact h7 x hx
/-- The second one was made behind the first one. -/
theorem Two.start {B : Nat} {w5 : World} (o : OwnK w0 hb S F K w) (hFB : ∀ k, F k → k < B) (hKB : ∀ x ∈ K, x.1 < B) (hB : w0.heap.size ≤ B) (h1 : RAt R1 B w5 b1 s1) (h5 : B ≤ w5.heap.size) (hbl : Below w5.heap.size w5 w) (h2 : RAt R2 w5.heap.size w b2 s2) : Two R1 R2 w0 hb S F K b1 s1 b2 s2 w := by
  obtain ⟨D1, k1, k2⟩ := h1
  obtain ⟨D2, j1, j2⟩ := h2
  refine ⟨o, D1, D2, R1.below k1 hbl, j1, fun k hF hD => by have := hFB k hF; have := k2 k hD; omega, fun k hF hD => by have := hFB k hF; have := j2 k hD; omega, fun k h1 h2 => by have := R1.own k1 k h1; have := j2 k h2; omega, fun k hk => ?_, fun x hx => ⟨fun hD => by have := hKB x hx; have := k2 _ hD; omega, fun hD => by have := hKB x hx; have := j2 _ hD; omega⟩⟩
  rcases hk with hk | hk
  · have := k2 k hk; omega
  · have := j2 k hk; omega
/-- The first one goes on alone. -/
theorem Two.alone (h : Two R1 R2 w0 hb S F K b1 s1 b2 s2 w) (hf : S.faults ≤ 1000000000) (hla : S.last ≤ 1000000000) (most : Int) (hm : most ≤ 1000000) :
    Calls Tryz.prog 20 #[.pointer (some ⟨hb, 0, none⟩), .iface R1.T (.pointer (some ⟨b1, 0, none⟩)), .int .i64 most] w fun e w' => ∃ xs S' s' F', Runs R1 S s1 xs S' s' ∧ (most ≤ (xs.length : Nat) ∨ R1.can S' s' = false) ∧
      e = .returned (.tuple #[.int .i64 (xs.length : Nat), .bool (!(R1.act s').2)]) ∧ Two R1 R2 w0 hb S' F' K b1 s' b2 s2 w' := by
  obtain ⟨D1, D2, h1, h2, h3, h4, h5, h6, h7⟩ := h.rt
  refine (alone_own R1 h.own.own h1 h3 (fun k hk => h6 k (.inl hk)) hf hla most hm).mono ?_
  rintro e w' ⟨xs, S', s', F', D', k1, k2, _, k3, o', k4, k5, k6, k7⟩
  have hnot : ∀ x ∈ K, ¬ F' x.1 ∧ ¬ D' x.1 := fun x hx => by
    have hk := h.own.keep x hx
    have hl := h.own.lt hx
    have h6 : ¬ (F' x.1 ∨ D' x.1) := fun hh => by
      rcases k5 _ hh with h5 | h5 | h5
      · exact hk.2 h5
      · exact (h7 x hx).1 h5
      · omega
    exact ⟨fun hh => h6 (.inl hh), fun hh => h6 (.inr hh)⟩
  have hno2 : ∀ k, D2 k → ¬ (F' k ∨ D' k) := fun k hk hh => by
    rcases k5 _ hh with j5 | j5 | j5
    · exact h4 k j5 hk
    · exact h5 k j5 hk
    · have := R2.own h2 k hk; omega
  refine ⟨xs, S', s', F', k1, k2, k3, ⟨o', fun x hx => ⟨?_, (hnot x hx).1⟩⟩, D', D2, k4, ?_, k7, fun k hF hD => hno2 k hD (.inl hF), fun k hk hD => hno2 k hD (.inr hk), fun k hk => ?_, fun x hx => ⟨(hnot x hx).2, (h7 x hx).2⟩⟩
  · have hk := h.own.keep x hx
    exact (k6.block _ (h.own.lt hx) fun hh => by rcases hh with hh | hh; exact hk.2 hh; exact (h7 x hx).1 hh).trans hk.1
  · refine R2.keep h2 k6.size fun k hk => k6.block k (R2.own h2 k hk) fun hh => ?_
    rcases hh with hh | hh
    · exact h4 k hh hk
    · exact h5 k hh hk
  · rcases hk with hk | hk
    · rcases k5 k (.inr hk) with j5 | j5 | j5
      · exact h.own.own.new k j5
      · exact h6 k (.inl j5)
      · have := h.own.own.below.size; omega
    · exact h6 k (.inr hk)
end
end Go.Proofs.YtmlnhjfdhjachaaGreat
