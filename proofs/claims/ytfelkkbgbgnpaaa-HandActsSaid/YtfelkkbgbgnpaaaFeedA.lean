/-
  A routine within another one, answered from a tape from some place on: how both go on side by side. No condition.
-/
import Derived.Test.YtfelkkbgbgnpaaaTapeD
namespace Go.Proofs.Ytfelkkbgbgnpaaa
set_option linter.unusedVariables false
open Go.ChangeShapes Go.WideShapes Go.ChangeAt Go.RowKit
open Go.ChangeMaps (setBlock)

section
variable {σ : Type}
/-- The tape isn't over; a routine began at the place a, and stands where the tape does; it had an act at each place before. -/
structure FedA (a : Nat) (act : σ → PAct × Bool) (take : σ → PGot → σ) (s0 : σ) (Q : List PGot) (T : PTape) (s : σ) : Prop where
  over : T.over = false
  got : T.got = Q
  low : a ≤ T.at_
  at_ : T.at_ ≤ Q.length
  idle : T.act = noAct
  st : s = feed take s0 ((Q.drop a).take (T.at_ - a))
  live : ∀ i, i < T.at_ - a → (act (feed take s0 ((Q.drop a).take i))).2 = true
/-- The tape is over: the act that is next is the routine's. -/
structure EndedA (a : Nat) (act : σ → PAct × Bool) (take : σ → PGot → σ) (s0 : σ) (Q : List PGot) (T : PTape) : Prop where
  over : T.over = true
  got : T.got = Q
  low : a ≤ Q.length
  at_ : T.at_ ≤ Q.length
  next : act (feed take s0 (Q.drop a)) = (T.act, true)
  live : ∀ i, i < Q.length - a → (act (feed take s0 ((Q.drop a).take i))).2 = true
/-- What is known of a tape that is over. -/
structure Ends (a : Nat) (act : σ → PAct × Bool) (take : σ → PGot → σ) (s0 : σ) (Q : List PGot) (E : PTape → Prop) : Prop where
  over : ∀ T, E T → T.over = true
  got : ∀ T, E T → T.got = Q
  of : ∀ T, EndedA a act take s0 Q T → E T
variable {act : σ → PAct × Bool} {take : σ → PGot → σ}
theorem Ends.ended (a : Nat) (s0 : σ) (Q : List PGot) : Ends a act take s0 Q (EndedA a act take s0 Q) := ⟨fun _ h => h.over, fun _ h => h.got, fun _ h => h⟩
/-- A tape that is over at the start stays as it is. -/
theorem Ends.same (s0 : σ) {Q : List PGot} {T0 : PTape} (h : T0.over = true) (hq : T0.got = Q) : Ends (Q.length + 1) act take s0 Q (fun T => T = T0) :=
  ⟨fun _ e => by rw [e]; exact h, fun _ e => by rw [e]; exact hq, fun T e => absurd e.low (by omega)⟩
theorem FedA.not_far {s0 s : σ} {Q : List PGot} {T : PTape} (h : FedA (Q.length + 1) act take s0 Q T s) : False := by
  have := h.low
  have := h.at_
  omega
theorem FedA.start (s0 : σ) (Q : List PGot) (T : PTape) (h1 : T.over = false) (h2 : T.at_ ≤ Q.length) (h3 : T.act = noAct) (h4 : T.got = Q) : FedA T.at_ act take s0 Q T s0 :=
  ⟨h1, h4, Nat.le_refl _, h2, h3, by rw [Nat.sub_self]; rfl, fun i hi => absurd hi (by omega)⟩
theorem FedA.go2 {a : Nat} {s0 s : σ} {Q : List PGot} {T : PTape} (h : FedA a act take s0 Q T s) {x : PAct} (hx : act s = (x, true)) :
    (∃ g, Q[T.at_]? = some g ∧ T.doAct x = (g, { T with at_ := T.at_ + 1 }) ∧ FedA a act take s0 Q { T with at_ := T.at_ + 1 } (take s g)) ∨
    (T.doAct x = (noGot, { T with over := true, act := x }) ∧ EndedA a act take s0 Q { T with over := true, act := x } ∧ feed take s0 (Q.drop a) = s) := by
  have ho := h.over
  have hl := h.low
  cases hg : Q[T.at_]? with
  | some g =>
    left
    have hlt := (List.getElem?_eq_some_iff.mp hg).1
    have hg2 : (Q.drop a)[T.at_ - a]? = some g := by rw [List.getElem?_drop, show a + (T.at_ - a) = T.at_ by omega]; exact hg
    refine ⟨g, rfl, by simp [PTape.doAct, ho, h.got, hg], ho, h.got, by show a ≤ T.at_ + 1; omega, hlt, h.idle, ?_, ?_⟩
    · show take s g = feed take s0 ((Q.drop a).take (T.at_ + 1 - a))
      rw [show T.at_ + 1 - a = T.at_ - a + 1 by omega, feed_snoc s0 (Q.drop a) (T.at_ - a) g hg2, h.st]
    · intro i hi
      have hi' : i < T.at_ + 1 - a := hi
      rcases Nat.lt_or_ge i (T.at_ - a) with hlt2 | hge
      · exact h.live i hlt2
      · rw [show i = T.at_ - a by omega, ← h.st, hx]
  | none =>
    right
    have hlen := List.getElem?_eq_none_iff.mp hg
    have e : T.at_ = Q.length := by have := h.at_; omega
    have h1 : feed take s0 (Q.drop a) = s := by rw [h.st, List.take_of_length_le (by rw [List.length_drop]; omega)]
    refine ⟨by simp [PTape.doAct, ho, h.got, hg], ⟨rfl, h.got, by omega, h.at_, by rw [h1, hx], fun i hi => h.live i (by omega)⟩, h1⟩
theorem over_do {T : PTape} (h : T.over = true) (x : PAct) : T.doAct x = (noGot, T) := by simp [PTape.doAct, h]
/-- A routine within another one: while it has acts, the other one goes as it goes. -/
structure Within {τ : Type} (act : σ → PAct × Bool) (take : σ → PGot → σ) (actC : τ → PAct × Bool) (takeC : τ → PGot → τ) (emb : Nat → σ → τ) : Prop where
  hact : ∀ k s, (act s).2 = true → actC (emb k s) = act s
  htake : ∀ k s g, (act s).2 = true → takeC (emb k s) g = emb (k + 1) (take s g)
variable {τ : Type} {actC : τ → PAct × Bool} {takeC : τ → PGot → τ} {emb : Nat → σ → τ}
theorem within_feed (W : Within act take actC takeC emb) : ∀ (gs : List PGot) (k : Nat) (s : σ), (∀ i, i < gs.length → (act (feed take s (gs.take i))).2 = true) → feed takeC (emb k s) gs = emb (k + gs.length) (feed take s gs)
  | [], k, s, _ => rfl
  | g :: gs, k, s, h => by
    have h0 : (act s).2 = true := h 0 (by simp)
    show feed takeC (takeC (emb k s) g) gs = _
    rw [W.htake k s g h0, within_feed W gs (k + 1) (take s g) fun i hi => h (i + 1) (by simpa using hi)]
    rw [show k + (g :: gs).length = k + 1 + gs.length by simp; omega]
    rfl
theorem feed_append (s0 : σ) (xs ys : List PGot) : feed take s0 (xs ++ ys) = feed take (feed take s0 xs) ys := List.foldl_append
theorem drop_split (Q : List PGot) (d a k : Nat) (h1 : d ≤ a) (h2 : a ≤ Q.length) : (Q.drop d).take (a - d + k) = (Q.drop d).take (a - d) ++ (Q.drop a).take k := by
  rw [List.take_add, List.drop_drop, show d + (a - d) = a by omega]
theorem FedA.at_feed {d : Nat} {c0 : τ} {Q : List PGot} {T0 : PTape} {s0 : σ} (W : Within act take actC takeC emb) (h0 : FedA d actC takeC c0 Q T0 (emb T0.at_ s0)) (k : Nat) (hk : T0.at_ + k ≤ Q.length) (hl : ∀ i, i < k → (act (feed take s0 ((Q.drop T0.at_).take i))).2 = true) :
    feed takeC c0 ((Q.drop d).take (T0.at_ - d + k)) = emb (T0.at_ + k) (feed take s0 ((Q.drop T0.at_).take k)) := by
  have hlen : ((Q.drop T0.at_).take k).length = k := by simp; omega
  rw [drop_split Q d T0.at_ k h0.low h0.at_, feed_append, ← h0.st, within_feed W _ _ _ fun i hi => by
    rw [hlen] at hi
    rw [List.take_take, Nat.min_eq_left (by omega)]
    exact hl i hi, hlen]
theorem FedA.lift {d : Nat} {c0 : τ} {Q : List PGot} {T0 T : PTape} {s0 s : σ} (W : Within act take actC takeC emb) (h0 : FedA d actC takeC c0 Q T0 (emb T0.at_ s0)) (h : FedA T0.at_ act take s0 Q T s) : FedA d actC takeC c0 Q T (emb T.at_ s) := by
  have hl := h.low
  have hl0 := h0.low
  have hat := h.at_
  refine ⟨h.over, h.got, by omega, h.at_, h.idle, ?_, fun i hi => ?_⟩
  · have := FedA.at_feed W h0 (T.at_ - T0.at_) (by omega) h.live
    rw [show T0.at_ - d + (T.at_ - T0.at_) = T.at_ - d by omega, show T0.at_ + (T.at_ - T0.at_) = T.at_ by omega, ← h.st] at this
    exact this.symm
  · rcases Nat.lt_or_ge i (T0.at_ - d) with hlt | hge
    · exact h0.live i hlt
    · have := FedA.at_feed W h0 (i - (T0.at_ - d)) (by omega) fun j hj => h.live j (by omega)
      rw [show T0.at_ - d + (i - (T0.at_ - d)) = i by omega] at this
      have hv := h.live (i - (T0.at_ - d)) (by omega)
      rw [this, W.hact _ _ hv]
      exact hv
theorem EndedA.lift {d : Nat} {c0 : τ} {Q : List PGot} {T0 T : PTape} {s0 : σ} (W : Within act take actC takeC emb) (h0 : FedA d actC takeC c0 Q T0 (emb T0.at_ s0)) (h : EndedA T0.at_ act take s0 Q T) : EndedA d actC takeC c0 Q T := by
  have hl0 := h0.low
  have hat := h0.at_
  have hfull : (Q.drop T0.at_).take (Q.length - T0.at_) = Q.drop T0.at_ := List.take_of_length_le (by simp)
  have hv : (act (feed take s0 (Q.drop T0.at_))).2 = true := by rw [h.next]
  refine ⟨h.over, h.got, by omega, h.at_, ?_, fun i hi => ?_⟩
  · have := FedA.at_feed W h0 (Q.length - T0.at_) (by omega) h.live
    rw [show T0.at_ - d + (Q.length - T0.at_) = Q.length - d by omega, hfull, List.take_of_length_le (by simp)] at this
    rw [this, W.hact _ _ hv, h.next]
  · rcases Nat.lt_or_ge i (T0.at_ - d) with hlt | hge
    · exact h0.live i hlt
    · have := FedA.at_feed W h0 (i - (T0.at_ - d)) (by omega) fun j hj => h.live j (by omega)
      rw [show T0.at_ - d + (i - (T0.at_ - d)) = i by omega] at this
      have hv := h.live (i - (T0.at_ - d)) (by omega)
      rw [this, W.hact _ _ hv]
      exact hv
theorem FedA.eq {a : Nat} {s0 s s' : σ} {Q : List PGot} {T : PTape} (h : FedA a act take s0 Q T s) (e : s = s') : FedA a act take s0 Q T s' := e ▸ h
/-- Behind the tape's own end: where the routine is done it stays. -/
theorem FedA.done {s0 s : σ} {Q : List PGot} {T : PTape} (h : FedA 0 act take s0 Q T s) (hd : ∀ g, take s g = s) : feed take s0 Q = s := by
  have e : feed take s0 Q = feed take (feed take s0 (Q.take T.at_)) (Q.drop T.at_) := by
    conv => lhs; rw [← List.take_append_drop T.at_ Q]
    exact List.foldl_append
  have h1 : s = feed take s0 (Q.take T.at_) := by have := h.st; simpa using this
  rw [e, ← h1]
  exact feed_done hd _
end
end Go.Proofs.Ytfelkkbgbgnpaaa
