/-
  Rows of acts, just made; the chapter's example (layer 19). No condition.
-/
import Derived.Test.YtjoaifdjmdihoaaRow
import Derived.Test.YtjoaifdjmdihoaaCtlO
import Derived.Test.YtjoaifdjmdihoaaAlone
namespace Go.Proofs.Ytjoaifdjmdihoaa
set_option linter.unusedVariables false
open Go.ChangeShapes Go.WideShapes Go.ChangeAt Go.RowKit
open Go.ChangeMaps (setBlock)

/-- One step of a run. -/
theorem run19_one {σ : Type} {Rt : Rout σ} {S S' : PHeap} {s s' : σ} {xs : List (PAct × PGot)} {m : Int} {x : PAct} (ha : Rt.act s = (x, true)) (hr : S.ready x = true) (h : Runs Rt S s xs S' s') (hst : m ≤ (xs.length : Nat) ∨ Rt.can S' s' = false) (hm : 1 ≤ m) :
    ∃ r l, xs = (x, (S.act x r).1) :: l ∧ Runs Rt (S.act x r).2 (Rt.take s (S.act x r).1) l S' s' ∧ (m - 1 ≤ (l.length : Nat) ∨ Rt.can S' s' = false) := by
  match xs, h with
  | [], h =>
    obtain ⟨rfl, rfl⟩ := h
    rcases hst with h1 | h1
    · simp at h1; omega
    · unfold Rout.can at h1
      rw [ha, hr] at h1
      cases h1
  | y :: l, h =>
    obtain ⟨_, r, hy, h⟩ := h
    rw [ha] at hy h
    exact ⟨r, l, by rw [hy], h, hst.imp (fun e => by simp at e; omega) id⟩
theorem run19_end {σ : Type} {Rt : Rout σ} {S S' : PHeap} {s s' : σ} {xs : List (PAct × PGot)} (ha : Rt.can S s = false) (h : Runs Rt S s xs S' s') : xs = [] ∧ S' = S ∧ s' = s := by
  match xs, h with
  | [], h => exact ⟨rfl, h.1.symm, h.2.symm⟩
  | y :: l, h =>
    have h1 := h.1
    rw [ha] at h1
    cases h1
/-- What lies where a row's acts lie. -/
def rowObj (A : Option Addr) (W : World) : Option Obj := match A with
  | some ad => W.heap[ad.block]?
  | none => none
def rowG (A : Option Addr) (n b : Nat) : Nat → Prop := fun k => k = b ∨ ∃ ad, A = some ad ∧ 0 < n ∧ k = ad.block
theorem row_new {W : World} {B b cap : Nat} {A : Option Addr} {l : List PAct} (hB : Blk W b 50 #[.slice A l.length cap, .int .i64 0, .slice none 0 0]) (hr : Reads W B 6 A l.length (l.flatMap actC)) (hBW : B ≤ W.heap.size)
    (hb : B ≤ b) (hl : l.length ≤ 1000) (hok : ∀ a ∈ l, a.Ok) : RowR A cap (rowObj A W) W (rowG A l.length b) b ⟨l, 0, []⟩ := by
  refine ⟨fun k hk => ?_, .inl rfl, _, ⟨hB, hl, Nat.zero_le _, rfl, hok, fun h0 => ?_, ⟨rfl, .inl ⟨rfl, rfl⟩⟩, fun g hg => by cases hg⟩⟩
  · rcases hk with rfl | ⟨ad, e, h0, rfl⟩
    · exact hB.lt
    · obtain ⟨ad', e', h1, _⟩ := hr.2 h0
      rw [e] at e'
      cases e'
      omega
  · obtain ⟨ad, e, h1, h2⟩ := hr.2 h0
    exact ⟨ad, e, .inr ⟨ad, e, h0, rfl⟩, by omega, by rw [e]; rfl, h2⟩
theorem alone_none (hb : Nat) (m : Int) (w : World) : Calls Try.prog 26 #[.pointer (some ⟨hb, 0, none⟩), .nilIface, .int .i64 m] w fun e w' => e = .returned (.tuple #[.int .i64 0, .bool false]) ∧ Below w.heap.size w w' := by
  go_enter Try.func26, Try.ntmps26
  go_wp2_with fail
  first
    | (go_ret2; exact ⟨rfl, by (repeat first | exact Below.refl _ _ | assumption | refine Below.drew ?_ | refine below_drewN ?_ _ | refine Below.more_ ?_ _ | refine Below.setCell ?_ (by first | exact Nat.le_refl _ | (simp; done) | (simp; omega)) _)⟩)
    | (refine bodyPost_ret (v := .tuple #[.int .i64 0, .bool false]) (by simp [results, Try.results26, go_sem]) rfl ⟨rfl, ?_⟩; (repeat first | exact Below.refl _ _ | assumption | refine Below.drew ?_ | refine below_drewN ?_ _ | refine Below.more_ ?_ _ | refine Below.setCell ?_ (by first | exact Nat.le_refl _ | (simp; done) | (simp; omega)) _))
theorem next_none (hb : Nat) (w : World) : Calls Try.prog 48 #[.pointer (some ⟨hb, 0, none⟩), .nilIface] w fun e w' => e = .returned (.tuple #[stepV 0 noAct noGot, .bool false]) ∧ Below w.heap.size w w' := by
  go_enter Try.func48, Try.ntmps48
  go_wp2_with fail
  refine bodyPost_ret (v := .tuple #[stepV 0 noAct noGot, .bool false]) (by simp [results, Try.results48, go_sem]; rfl) rfl ⟨rfl, ?_⟩
  (repeat first | exact Below.refl _ _ | assumption | refine Below.drew ?_ | refine below_drewN ?_ _ | refine Below.more_ ?_ _ | refine Below.setCell ?_ (by first | exact Nat.le_refl _ | (simp; done) | (simp; omega)) _)
end Go.Proofs.Ytjoaifdjmdihoaa
