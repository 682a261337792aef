/-
  A routine that is answered from a tape, and the document's program on that tape: how both go on side by side. No condition.
-/
import Derived.Test.YtpldnbdcpihjcaaTape
namespace Go.Proofs.Ytpldnbdcpihjcaa
set_option linter.unusedVariables false
open Go.ChangeShapes Go.WideShapes Go.ChangeAt Go.RowKit
open Go.ChangeMaps (setBlock)

section
variable {σ : Type} (act : σ → PAct × Bool) (take : σ → PGot → σ)
/-- The routine behind some answers. -/
def feed (s0 : σ) (gs : List PGot) : σ := gs.foldl take s0
/-- The tape isn't over, and the routine stands where the tape does. -/
structure Fed (s0 : σ) (Q : List PGot) (T : PTape) (s : σ) : Prop where
  over : T.over = false
  got : T.got = Q
  at_ : T.at_ ≤ Q.length
  act : T.act = noAct
  st : s = feed take s0 (Q.take T.at_)
/-- The tape is over: the act that is next is the routine's. -/
structure Ended (s0 : σ) (Q : List PGot) (T : PTape) : Prop where
  over : T.over = true
  got : T.got = Q
  at_ : T.at_ ≤ Q.length
  act : act (feed take s0 Q) = (T.act, true)
variable {act take}
theorem feed_snoc (s0 : σ) (Q : List PGot) (k : Nat) (g : PGot) (h : Q[k]? = some g) : feed take s0 (Q.take (k + 1)) = take (feed take s0 (Q.take k)) g := by
  rw [List.take_add_one, h]
  simp [feed, List.foldl_append]
theorem Fed.go {s0 s : σ} {Q : List PGot} {T : PTape} (h : Fed take s0 Q T s) {x : PAct} (hx : act s = (x, true)) :
    (∃ g, Q[T.at_]? = some g ∧ T.doAct x = (g, { T with at_ := T.at_ + 1 }) ∧ Fed take s0 Q { T with at_ := T.at_ + 1 } (take s g)) ∨
    (T.doAct x = (noGot, { T with over := true, act := x }) ∧ Ended act take s0 Q { T with over := true, act := x }) := by
  have ho := h.over
  cases hg : Q[T.at_]? with
  | some g =>
    left
    refine ⟨g, rfl, ?_, h.over, h.got, ?_, h.act, ?_⟩
    · simp [PTape.doAct, ho, h.got, hg]
    · have := (List.getElem?_eq_some_iff.mp hg).1
      exact this
    · show take s g = feed take s0 (Q.take (T.at_ + 1))
      rw [feed_snoc s0 Q T.at_ g hg, h.st]
  | none =>
    right
    have hl := List.getElem?_eq_none_iff.mp hg
    have e : T.at_ = Q.length := by have := h.at_; omega
    refine ⟨by simp [PTape.doAct, ho, h.got, hg], rfl, h.got, h.at_, ?_⟩
    have h1 : feed take s0 Q = s := by rw [h.st, e, List.take_length]
    rw [h1, hx]
theorem Ended.go {s0 : σ} {Q : List PGot} {T : PTape} (h : Ended act take s0 Q T) (x : PAct) : T.doAct x = (noGot, T) := by
  simp [PTape.doAct, h.over]
/-- Where a routine is done it stays. -/
theorem feed_done {s : σ} (hd : ∀ g, take s g = s) : ∀ Q : List PGot, feed take s Q = s
  | [] => rfl
  | g :: Q => by
    show feed take (take s g) Q = s
    rw [hd g]
    exact feed_done hd Q
theorem Fed.done {s0 s : σ} {Q : List PGot} {T : PTape} (h : Fed take s0 Q T s) (hd : ∀ g, take s g = s) : feed take s0 Q = s := by
  have e : feed take s0 Q = feed take (feed take s0 (Q.take T.at_)) (Q.drop T.at_) := by
    conv => lhs; rw [← List.take_append_drop T.at_ Q]
    exact List.foldl_append
  rw [e, ← h.st]
  exact feed_done hd _
theorem Fed.start (s0 : σ) (Q : List PGot) (T : PTape) (h1 : T.over = false) (h2 : T.at_ = 0) (h3 : T.act = noAct) (h4 : T.got = Q) : Fed take s0 Q T s0 :=
  ⟨h1, h4, by omega, h3, by rw [h2]; rfl⟩
end
end Go.Proofs.Ytpldnbdcpihjcaa
