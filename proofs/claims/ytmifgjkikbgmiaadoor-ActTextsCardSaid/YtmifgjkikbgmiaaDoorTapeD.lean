import Derived.Test.YtmifgjkikbgmiaaDoorDrive
import Derived.StillTailTactics
import Derived.Laws.Tables
/-
  The tape by which the references say what a routine does next. No condition.
-/
namespace Go.Proofs.YtmifgjkikbgmiaaDoor
set_option linter.unusedVariables false
open Go.ChangeShapes Go.WideShapes Go.ChangeAt Go.RowKit
open Go.ChangeMaps (setBlock)

/-- A tape: the answers, how many were taken, whether it is over, and the act that is next. -/
structure PTape where
  got : List PGot
  at_ : Nat
  over : Bool
  act : PAct
/-- An act on a tape: its answer, and the tape behind it. -/
def PTape.doAct (T : PTape) (x : PAct) : PGot × PTape :=
  if T.over then (noGot, T)
  else match T.got[T.at_]? with
    | none => (noGot, { T with over := true, act := x })
    | some g => (g, { T with at_ := T.at_ + 1 })
/-- Answers, as cells. -/
def gotL (l : List PGot) : List Value := (l.map fun g => [Value.int .u64 g.word, .string g.text]).flatten
theorem gotL_at : ∀ (l : List PGot) (k : Nat) (g : PGot), l[k]? = some g → (gotL l)[k * 2]? = some (.int .u64 g.word) ∧ (gotL l)[k * 2 + 1]? = some (.string g.text)
  | [], k, g, h => by simp at h
  | x :: l, 0, g, h => by
    simp at h
    subst h
    simp [gotL]
  | x :: l, k + 1, g, h => by
    have := gotL_at l k g (by simpa using h)
    simp only [gotL, List.map_cons, List.flatten_cons] at this ⊢
    rw [show (k + 1) * 2 = k * 2 + 2 by omega]
    simpa using this
def PTape.cells (T : PTape) (A : Option Addr) (c : Nat) : Array Value := #[.slice A T.got.length c, .int .i64 (T.at_ : Nat), .bool T.over, .int .i64 T.act.kind, .int .u64 T.act.block, .int .i64 T.act.cell, .int .u64 T.act.old, .int .u64 T.act.new, .string T.act.text]
theorem zeroGot : noGot.val = .agg #[.int .u64 0, .string ⟨#[]⟩] := rfl
theorem PTape.over_or {T : PTape} {g : PGot} (h : T.got[T.at_]? = some g) (ho : T.over = false) (x : PAct) : T.doAct x = (g, { T with at_ := T.at_ + 1 }) := by
  simp [PTape.doAct, ho, h]
end Go.Proofs.YtmifgjkikbgmiaaDoor

/-
  The tape's acts by name; the document's version (layer 22) on a tape. No condition.
-/
namespace Go.Proofs.YtmifgjkikbgmiaaDoor
set_option linter.unusedVariables false
open Go.ChangeShapes Go.WideShapes Go.ChangeAt Go.RowKit
open Go.ChangeMaps (setBlock)

theorem gotFld0 (x : Int) (s : ByteArray) (w : World) : (Instr.field 33 (.agg #[.int .u64 x, .string s]) 0).run Tryd.prog w = .ok (.int .u64 x) w := by kernel_rfl
/-- A change, as a value. -/
structure PChange where
  key : ByteArray
  has : Bool
  value : ByteArray
def PChange.val (c : PChange) : Value := .agg #[.string c.key, .bool c.has, .string c.value]
/-- The document's version. -/
def PTape.version (T : PTape) (epoch next : Int) (c : PChange) : Int × PTape :=
  let m := T.doAct ⟨5, 0, 3, 0, 0, if c.has then c.value else ByteArray.empty⟩
  if m.1.word = 0 then (0, m.2)
  else
    let t1 := (m.2.doAct ⟨2, m.1.word, 0, 0, epoch, ByteArray.empty⟩).2
    let t2 := if next = 0 then t1 else (t1.doAct ⟨2, m.1.word, 1, 0, next, ByteArray.empty⟩).2
    let t3 := if c.has then (t2.doAct ⟨2, m.1.word, 2, 0, 1, ByteArray.empty⟩).2 else t2
    (m.1.word, t3)
end Go.Proofs.YtmifgjkikbgmiaaDoor

/-
  A routine that is answered from a tape, and the document's program on that tape: how both go on side by side. No condition.
-/
namespace Go.Proofs.YtmifgjkikbgmiaaDoor
set_option linter.unusedVariables false
open Go.ChangeShapes Go.WideShapes Go.ChangeAt Go.RowKit
open Go.ChangeMaps (setBlock)

section
variable {σ : Type} (act : σ → PAct × Bool) (take : σ → PGot → σ)
/-- The routine behind some answers. -/
def feed (s0 : σ) (gs : List PGot) : σ := gs.foldl take s0
/-- The tape isn't over, and the routine stands where the tape does. -/
structure Fed (s0 : σ) (Q : List PGot) (T : PTape) (s : σ) : Prop where
  over : T.over = false
  got : T.got = Q
  at_ : T.at_ ≤ Q.length
  act : T.act = noAct
  st : s = feed take s0 (Q.take T.at_)
/-- The tape is over: the act that is next is the routine's. -/
structure Ended (s0 : σ) (Q : List PGot) (T : PTape) : Prop where
  over : T.over = true
  got : T.got = Q
  at_ : T.at_ ≤ Q.length
  act : act (feed take s0 Q) = (T.act, true)
variable {act take}
theorem feed_snoc (s0 : σ) (Q : List PGot) (k : Nat) (g : PGot) (h : Q[k]? = some g) : feed take s0 (Q.take (k + 1)) = take (feed take s0 (Q.take k)) g := by
  rw [List.take_add_one, h]
  simp [feed, List.foldl_append]
theorem Fed.go {s0 s : σ} {Q : List PGot} {T : PTape} (h : Fed take s0 Q T s) {x : PAct} (hx : act s = (x, true)) :
    (∃ g, Q[T.at_]? = some g ∧ T.doAct x = (g, { T with at_ := T.at_ + 1 }) ∧ Fed take s0 Q { T with at_ := T.at_ + 1 } (take s g)) ∨
    (T.doAct x = (noGot, { T with over := true, act := x }) ∧ Ended act take s0 Q { T with over := true, act := x }) := by
  have ho := h.over
  cases hg : Q[T.at_]? with
  | some g =>
    left
    refine ⟨g, rfl, ?_, h.over, h.got, ?_, h.act, ?_⟩
    · simp [PTape.doAct, ho, h.got, hg]
    · have := (List.getElem?_eq_some_iff.mp hg).1
      exact this
    · show take s g = feed take s0 (Q.take (T.at_ + 1))
      rw [feed_snoc s0 Q T.at_ g hg, h.st]
  | none =>
    right
    have hl := List.getElem?_eq_none_iff.mp hg
    have e : T.at_ = Q.length := by have := h.at_; omega
    refine ⟨by simp [PTape.doAct, ho, h.got, hg], rfl, h.got, h.at_, ?_⟩
    have h1 : feed take s0 Q = s := by rw [h.st, e, List.take_length]
    rw [h1, hx]
theorem Ended.go {s0 : σ} {Q : List PGot} {T : PTape} (h : Ended act take s0 Q T) (x : PAct) : T.doAct x = (noGot, T) := by
  simp [PTape.doAct, h.over]
/-- Where a routine is done it stays. -/
theorem feed_done {s : σ} (hd : ∀ g, take s g = s) : ∀ Q : List PGot, feed take s Q = s
  | [] => rfl
  | g :: Q => by
    show feed take (take s g) Q = s
    rw [hd g]
    exact feed_done hd Q
theorem Fed.done {s0 s : σ} {Q : List PGot} {T : PTape} (h : Fed take s0 Q T s) (hd : ∀ g, take s g = s) : feed take s0 Q = s := by
  have e : feed take s0 Q = feed take (feed take s0 (Q.take T.at_)) (Q.drop T.at_) := by
    conv => lhs; rw [← List.take_append_drop T.at_ Q]
    exact List.foldl_append
  rw [e, ← h.st]
  exact feed_done hd _
theorem Fed.start (s0 : σ) (Q : List PGot) (T : PTape) (h1 : T.over = false) (h2 : T.at_ = 0) (h3 : T.act = noAct) (h4 : T.got = Q) : Fed take s0 Q T s0 :=
  ⟨h1, h4, by omega, h3, by rw [h2]; rfl⟩
end
end Go.Proofs.YtmifgjkikbgmiaaDoor

/-
  More of the tape's acts by name. No condition.
-/
namespace Go.Proofs.YtmifgjkikbgmiaaDoor
set_option linter.unusedVariables false
open Go.ChangeShapes Go.WideShapes Go.ChangeAt Go.RowKit
open Go.ChangeMaps (setBlock)

theorem gotFld1 (x : Int) (s : ByteArray) (w : World) : (Instr.field 33 (.agg #[.int .u64 x, .string s]) 1).run Tryd.prog w = .ok (.string s) w := by kernel_rfl
theorem Fed.go2 {σ : Type} {act : σ → PAct × Bool} {take : σ → PGot → σ} {s0 s : σ} {Q : List PGot} {T : PTape} (h : Fed take s0 Q T s) {x : PAct} (hx : act s = (x, true)) :
    (∃ g, Q[T.at_]? = some g ∧ T.doAct x = (g, { T with at_ := T.at_ + 1 }) ∧ Fed take s0 Q { T with at_ := T.at_ + 1 } (take s g)) ∨
    (T.doAct x = (noGot, { T with over := true, act := x }) ∧ Ended act take s0 Q { T with over := true, act := x } ∧ feed take s0 Q = s) := by
  rcases h.go hx with h1 | ⟨h1, h2⟩
  · exact .inl h1
  · refine .inr ⟨h1, h2, ?_⟩
    have e : T.at_ = Q.length := by
      have h3 := h.at_
      rcases Nat.lt_or_ge T.at_ Q.length with h4 | h4
      · have h5 : T.doAct x = (Q[T.at_], { T with at_ := T.at_ + 1 }) := by simp [PTape.doAct, h.over, h.got, h4]
        rw [h1] at h5
        injection h5 with _ h5
        have := congrArg PTape.over h5
        rw [h.over] at this
        cases this
      · omega
    rw [h.st, e, List.take_length]
/-- How much is left of a tape, read in the world. -/
def tapeM (tb len : Nat) (W : World) : Nat := match W.cell? ⟨tb, 1, none⟩, W.cell? ⟨tb, 2, none⟩ with
  | some (.int _ a), some (.bool o) => 2 * (len - a.toNat) + (if o then 0 else 1)
  | _, _ => 0
end Go.Proofs.YtmifgjkikbgmiaaDoor
