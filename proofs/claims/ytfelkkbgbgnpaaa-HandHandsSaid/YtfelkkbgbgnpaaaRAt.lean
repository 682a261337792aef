/-
  A routine that lies in memory of the call's own. No condition.
-/
import Derived.Test.YtfelkkbgbgnpaaaDrive
namespace Go.Proofs.Ytfelkkbgbgnpaaa
set_option linter.unusedVariables false
open Go.ChangeShapes Go.WideShapes Go.ChangeAt Go.RowKit
open Go.ChangeMaps (setBlock)

section
variable {σ : Type} {Rt : Rout σ} {B b : Nat} {W W' : World} {s : σ}
def RAt (Rt : Rout σ) (B : Nat) (W : World) (b : Nat) (s : σ) : Prop := ∃ Q, Rt.R W Q b s ∧ ∀ k, Q k → B ≤ k
theorem RAt.far (h : RAt Rt B W b s) (hs : W.heap.size ≤ W'.heap.size) (hk : ∀ k, k < W.heap.size → W'.heap[k]? = W.heap[k]?) : RAt Rt B W' b s := by
  obtain ⟨Q, h1, h2⟩ := h
  exact ⟨Q, Rt.keep h1 hs fun k hk' => hk k (Rt.own h1 k hk'), h2⟩
theorem RAt.below (h : RAt Rt B W b s) (hb : Below W.heap.size W W') : RAt Rt B W' b s := h.far hb.size fun k hk => hb.block k hk
theorem RAt.lt (h : RAt Rt B W b s) : b < W.heap.size ∧ B ≤ b := by
  obtain ⟨Q, h1, h2⟩ := h
  exact ⟨Rt.own h1 _ (Rt.hG h1), h2 _ (Rt.hG h1)⟩
theorem RAt.act (h : RAt Rt B W b s) : Calls Try.prog Rt.fAct #[.pointer (some ⟨b, 0, none⟩)] W fun e w' => e = .returned (.tuple #[(Rt.act s).1.val, .bool (Rt.act s).2]) ∧ Below W.heap.size W w' := by
  obtain ⟨Q, h1, _⟩ := h
  exact Rt.cAct h1
theorem RAt.take (h : RAt Rt B W b s) (hB : B ≤ W.heap.size) (g : PGot) (hg : g.Ok) (hm : (Rt.act s).2 = true) : Calls Try.prog Rt.fTake #[.pointer (some ⟨b, 0, none⟩), g.val] W fun e w' => e = .returned (.tuple #[]) ∧ RAt Rt B w' b (Rt.take s g) ∧ Chg (fun k => B ≤ k) W w' := by
  obtain ⟨Q, h1, h2⟩ := h
  refine (Rt.cTake g h1 hg hm).mono ?_
  rintro e w' ⟨he, h3, h4⟩
  refine ⟨he, ⟨_, h3, fun k hk => ?_⟩, h4.mono h2⟩
  rcases hk with hk | hk
  · exact h2 k hk
  · omega
end
end Go.Proofs.Ytfelkkbgbgnpaaa
