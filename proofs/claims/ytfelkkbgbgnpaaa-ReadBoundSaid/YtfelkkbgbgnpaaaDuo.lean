/-
  A routine beside a heap of the call's own, and blocks that both leave alone. No condition.
-/
import Derived.Test.YtfelkkbgbgnpaaaFindL
import Derived.Test.YtfelkkbgbgnpaaaNextO
import Derived.Test.YtfelkkbgbgnpaaaRAt
namespace Go.Proofs.Ytfelkkbgbgnpaaa
set_option linter.unusedVariables false
open Go.ChangeShapes Go.WideShapes Go.ChangeAt Go.RowKit
open Go.ChangeMaps (setBlock)

structure Duo {σ : Type} (Rt : Rout σ) (w0 : World) (hb : Nat) (S : PHeap) (F : Nat → Prop) (K : List (Nat × Obj)) (b : Nat) (s : σ) (w : World) : Prop where
  own : OwnK w0 hb S F K w
  rt : ∃ D, Rt.R w D b s ∧ Off F D ∧ (∀ k, D k → w0.heap.size ≤ k) ∧ ∀ x ∈ K, ¬ D x.1
section
variable {σ : Type} {Rt : Rout σ} {w0 w w' : World} {hb b : Nat} {S : PHeap} {F : Nat → Prop} {K : List (Nat × Obj)} {s : σ}
theorem Duo.below (h : Duo Rt w0 hb S F K b s w) (hb' : Below w.heap.size w w') : Duo Rt w0 hb S F K b s w' := by
  obtain ⟨D, h1, h2, h3, h4⟩ := h.rt
  exact ⟨h.own.below hb', D, Rt.below h1 hb', h2, h3, h4⟩
theorem Duo.drew (h : Duo Rt w0 hb S F K b s w) : Duo Rt w0 hb S F K b s w.drew := h.below (Below.refl _ _).drew
theorem Duo.drewN (h : Duo Rt w0 hb S F K b s w) (n : Nat) : Duo Rt w0 hb S F K b s (w.drewN n) := h.below (below_drewN (Below.refl _ _) n)
theorem Duo.add (h : Duo Rt w0 hb S F K b s w) (o : Obj) : Duo Rt w0 hb S F ((w.heap.size, o) :: K) b s (w.alloc o) := by
  obtain ⟨D, h1, h2, h3, h4⟩ := (h.below (Below.more_ (Below.refl _ _) o)).rt
  obtain ⟨D, h1, h2, h3, h4⟩ := h.rt
  refine ⟨h.own.add o, D, Rt.below h1 (Below.more_ (Below.refl _ _) o), h2, h3, fun x hx => ?_⟩
  rcases List.mem_cons.1 hx with rfl | hx
  · exact fun hD => by have := Rt.own h1 _ hD; simp only at this; omega
  · exact h4 x hx
theorem Duo.less {x : Nat × Obj} (h : Duo Rt w0 hb S F (x :: K) b s w) : Duo Rt w0 hb S F K b s w := by
  obtain ⟨D, h1, h2, h3, h4⟩ := h.rt
  exact ⟨h.own.less, D, h1, h2, h3, fun y hy => h4 y (List.mem_cons_of_mem _ hy)⟩
/-- The first one: a routine of the call's own, behind the heap and the blocks. -/
theorem Duo.start {B : Nat} (o : OwnK w0 hb S F K w) (hR : RAt Rt B w b s) (hFB : ∀ k, F k → k < B) (hKB : ∀ x ∈ K, x.1 < B) (hB : w0.heap.size ≤ B) : Duo Rt w0 hb S F K b s w := by
  obtain ⟨D, h1, h2⟩ := hR
  exact ⟨o, D, h1, fun k hF hD => by have := hFB k hF; have := h2 k hD; omega, fun k hD => Nat.le_trans hB (h2 k hD), fun x hx hD => by have := hKB x hx; have := h2 _ hD; omega⟩
/-- The blocks of a set, each with what lies there. -/
theorem blocks_of (w : World) (D : Nat → Prop) : ∃ G : List (Nat × Obj), (∀ x ∈ G, D x.1 ∧ w.heap[x.1]? = some x.2) ∧ ∀ k, D k → k < w.heap.size → ∃ o, (k, o) ∈ G := by
  classical
  refine ⟨(List.range w.heap.size).filterMap fun k => if D k then (w.heap[k]?).map fun o => (k, o) else none, fun x hx => ?_, fun k hk hl => ?_⟩
  · obtain ⟨k, _, h⟩ := List.mem_filterMap.1 hx
    split at h
    · rename_i hD
      obtain ⟨o, h1, rfl⟩ := Option.map_eq_some_iff.1 h
      exact ⟨hD, h1⟩
    · cases h
  · refine ⟨w.heap[k], List.mem_filterMap.2 ⟨k, List.mem_range.2 hl, ?_⟩⟩
    rw [if_pos hk, Array.getElem?_eq_getElem hl]
    rfl
/-- A call that leaves alone whatever blocks it is told of leaves the routine alone. -/
theorem Duo.call (h : Duo Rt w0 hb S F K b s w) {f : FuncId} {args : Array Value} {P : Ending → PHeap → Prop}
    (hC : ∀ K', OwnK w0 hb S F K' w → Calls Try.prog f args w fun e w' => ∃ S' F', P e S' ∧ OwnK w0 hb S' F' K' w' ∧ w.heap.size ≤ w'.heap.size) :
    Calls Try.prog f args w fun e w' => ∃ S' F', P e S' ∧ Duo Rt w0 hb S' F' K b s w' := by
  obtain ⟨D, h1, h2, h3, h4⟩ := h.rt
  obtain ⟨G, hG1, hG2⟩ := blocks_of w D
  have o : OwnK w0 hb S F (K ++ G) w := ⟨h.own.own, fun x hx => by
    rcases List.mem_append.1 hx with hx | hx
    · exact h.own.keep x hx
    · exact ⟨(hG1 x hx).2, fun hF => h2 _ hF (hG1 x hx).1⟩⟩
  refine (hC _ o).mono ?_
  rintro e w' ⟨S', F', hP, o', hs⟩
  have hD : ∀ k, D k → w'.heap[k]? = w.heap[k]? ∧ ¬ F' k := fun k hk => by
    obtain ⟨ob, hm⟩ := hG2 k hk (Rt.own h1 k hk)
    have h5 := o'.keep _ (List.mem_append_right _ hm)
    exact ⟨h5.1.trans (hG1 _ hm).2.symm, h5.2⟩
  exact ⟨S', F', hP, ⟨o'.own, fun x hx => o'.keep x (List.mem_append_left _ hx)⟩, D, Rt.keep h1 hs fun k hk => (hD k hk).1, fun k hF hk => (hD k hk).2 hF, h3, h4⟩
theorem Duo.turn (h : Duo Rt w0 hb S F K b s w) {f : FuncId} {args : Array Value} {P : Ending → PHeap → Prop}
    (hC : Calls Try.prog f args w fun e w' => ∃ S', P e S' ∧ Turned F hb S' w w') :
    Calls Try.prog f args w fun e w' => ∃ S' F', P e S' ∧ Duo Rt w0 hb S' F' K b s w' :=
  h.call fun K' o => hC.mono fun e w' ⟨S', hP, ht⟩ => ⟨S', _, hP, o.turned ht, ht.2.size⟩
/-- One step of it. -/
theorem Duo.next (h : Duo Rt w0 hb S F K b s w) (hf : S.faults < 9223372036854775807) (hla : S.last < 9223372036854775807) :
    Calls Try.prog 32 #[.pointer (some ⟨hb, 0, none⟩), .iface Rt.T (.pointer (some ⟨b, 0, none⟩))] w fun e w' => ∃ a g is S' F' s', e = .returned (.tuple #[stepV 0 a g, .bool is]) ∧ Duo Rt w0 hb S' F' K b s' w' ∧
      ((is = false ∧ Rt.can S s = false ∧ S' = S ∧ s' = s) ∨ (is = true ∧ Rt.can S s = true ∧ ∃ r, S' = (S.act (Rt.act s).1 r).2 ∧ s' = Rt.take s (S.act (Rt.act s).1 r).1)) := by
  obtain ⟨D, h1, h2, h3, h4⟩ := h.rt
  refine (next_own Rt h.own.own h1 h2 h3 hf hla).mono ?_
  rintro e w' ⟨a, g, is, he, S', s', F', D', hN⟩
  have hnot : ∀ x ∈ K, ¬ F' x.1 ∧ ¬ D' x.1 := fun x hx => by
    have hk := h.own.keep x hx
    have hl := h.own.lt hx
    have h6 : ¬ (F' x.1 ∨ D' x.1) := fun hh => by
      rcases hN.sub _ hh with h5 | h5 | h5
      · exact hk.2 h5
      · exact h4 x hx h5
      · omega
    exact ⟨fun hh => h6 (.inl hh), fun hh => h6 (.inr hh)⟩
  refine ⟨a, g, is, S', F', s', he, ⟨⟨hN.own, fun x hx => ⟨?_, (hnot x hx).1⟩⟩, D', hN.rt, hN.off, fun k hk => ?_, fun x hx => (hnot x hx).2⟩, hN.did⟩
  · have hk := h.own.keep x hx
    exact (hN.chg.block _ (h.own.lt hx) fun hh => by rcases hh with hh | hh; exact hk.2 hh; exact h4 x hx hh).trans hk.1
  · rcases hN.sub k (.inr hk) with h5 | h5 | h5
    · exact h.own.own.new k h5
    · exact h3 k h5
    · have := h.own.own.below.size; omega
/-- It goes on alone. -/
theorem Duo.alone (h : Duo Rt w0 hb S F K b s w) (hf : S.faults ≤ 1000000000) (hla : S.last ≤ 1000000000) (most : Int) (hm : most ≤ 1000000) :
    Calls Try.prog 27 #[.pointer (some ⟨hb, 0, none⟩), .iface Rt.T (.pointer (some ⟨b, 0, none⟩)), .int .i64 most] w fun e w' => ∃ xs S' s' F', Runs Rt S s xs S' s' ∧ (most ≤ (xs.length : Nat) ∨ Rt.can S' s' = false) ∧
      e = .returned (.tuple #[.int .i64 (xs.length : Nat), .bool (!(Rt.act s').2)]) ∧ Duo Rt w0 hb S' F' K b s' w' := by
  obtain ⟨D, h1, h2, h3, h4⟩ := h.rt
  refine (alone_own Rt h.own.own h1 h2 h3 hf hla most hm).mono ?_
  rintro e w' ⟨xs, S', s', F', D', k1, k2, _, k3, o', k4, k5, k6, k7⟩
  have hnot : ∀ x ∈ K, ¬ F' x.1 ∧ ¬ D' x.1 := fun x hx => by
    have hk := h.own.keep x hx
    have hl := h.own.lt hx
    have h6 : ¬ (F' x.1 ∨ D' x.1) := fun hh => by
      rcases k5 _ hh with h5 | h5 | h5
      · exact hk.2 h5
      · exact h4 x hx h5
      · omega
    exact ⟨fun hh => h6 (.inl hh), fun hh => h6 (.inr hh)⟩
  refine ⟨xs, S', s', F', k1, k2, k3, ⟨o', fun x hx => ⟨?_, (hnot x hx).1⟩⟩, D', k4, k7, fun k hk => ?_, fun x hx => (hnot x hx).2⟩
  · have hk := h.own.keep x hx
    exact (k6.block _ (h.own.lt hx) fun hh => by rcases hh with hh | hh; exact hk.2 hh; exact h4 x hx hh).trans hk.1
  · rcases k5 k (.inr hk) with h5 | h5 | h5
    · exact h.own.own.new k h5
    · exact h3 k h5
    · have := h.own.own.below.size; omega
end
end Go.Proofs.Ytfelkkbgbgnpaaa
