import Derived.Test.YtmlnhjfdhjachaaGreatPlan
import Derived.Test.YtmlnhjfdhjachaaGreatWord
import Derived.Test.YtmlnhjfdhjachaaGreatDrive
import Derived.BigQuiet
import Derived.WalkMore
import Derived.Test.YtmlnhjfdhjachaaGreatTapeD
/-
  The routine that reserves a place (layer 28): what each of its functions does. No condition.
-/
namespace Go.Proofs.YtmlnhjfdhjachaaGreat
set_option linter.unusedVariables false
open Go.ChangeShapes Go.WideShapes Go.ChangeAt Go.RowKit
open Go.ChangeMaps (setBlock)

structure PRes where
  cfg : PCfg
  made : Bool
  seen : Bool
  was : Int
  next : Int
  tries : Int
  over : Bool
  full : Bool
  ticket : Int
def PRes.cells (s : PRes) : Array Value := #[.int .i64 s.cfg.cap, .int .i64 s.cfg.pins, .int .i64 s.cfg.shelves, .int .i64 s.cfg.queue, .int .i64 s.cfg.watchers, .int .u64 s.cfg.seed, .bool s.made, .bool s.seen, .int .u64 s.was, .int .u64 s.next, .int .i64 s.tries, .bool s.over, .bool s.full, .int .i64 s.ticket]
def PRes.idle (s : PRes) : Bool := !s.made || s.over
def PRes.act (s : PRes) : PAct × Bool :=
  if s.idle then (noAct, false) else if s.seen then (⟨3, 1, 1, s.was, s.next, ByteArray.empty⟩, true) else (⟨1, 1, 1, 0, 0, ByteArray.empty⟩, true)
def PRes.look (s : PRes) (x : Int) : PRes :=
  if entOk x s.cfg.cap then { s with seen := true, was := x, next := entV x s.cfg.cap } else { s with over := true, full := true, ticket := 0 }
def PRes.take (s : PRes) (g : PGot) : PRes :=
  if s.idle then s else if s.seen = false then s.look g.word else if g.word = s.was then { s with over := true, full := false, ticket := cameOf s.was } else PRes.look { s with tries := IntKind.i64.wrap (s.tries + 1) } g.word
def PRes.result (s : PRes) : (Bool × Int) × Bool := if s.over then ((s.full, s.ticket), true) else ((false, 0), false)
end Go.Proofs.YtmlnhjfdhjachaaGreat

/-
  The routine that reserves a place (layer 28): what it takes; how it is made; as a routine. No condition.
-/
namespace Go.Proofs.YtmlnhjfdhjachaaGreat
set_option linter.unusedVariables false
open Go.ChangeShapes Go.WideShapes Go.ChangeAt Go.RowKit
open Go.ChangeMaps (setBlock)

theorem entV_ok (a m : Int) : 0 ≤ entV a m ∧ entV a m ≤ 18446744073709551615 := by
  unfold entV
  split
  · have := cameOf_le a
    have := inOf_le a
    omega
  · decide
end Go.Proofs.YtmlnhjfdhjachaaGreat

/-
  The routine that reserves a place (layer 28), as a routine; how it is made; the document's one on a tape. No condition.
-/
namespace Go.Proofs.YtmlnhjfdhjachaaGreat
set_option linter.unusedVariables false
open Go.ChangeShapes Go.WideShapes Go.ChangeAt Go.RowKit
open Go.ChangeMaps (setBlock)

theorem look_cfg (s : PRes) (x : Int) : (s.look x).cfg = s.cfg ∧ (s.look x).made = s.made ∧ (s.look x).tries = s.tries := by
  unfold PRes.look
  split <;> exact ⟨rfl, rfl, rfl⟩
theorem PRes.take_cfg (s : PRes) (g : PGot) : (s.take g).cfg = s.cfg ∧ (s.take g).made = s.made := by
  unfold PRes.take
  split
  · exact ⟨rfl, rfl⟩
  · split
    · exact ⟨(look_cfg _ _).1, (look_cfg _ _).2.1⟩
    · split
      · exact ⟨rfl, rfl⟩
      · exact ⟨(look_cfg _ _).1, (look_cfg _ _).2.1⟩
theorem PRes.take_idle (s : PRes) (h : s.idle = true) (g : PGot) : s.take g = s := by simp [PRes.take, h]
def newRes (c : PCfg) : PRes := ⟨c, c.right, false, 0, 0, 0, false, false, 0⟩
end Go.Proofs.YtmlnhjfdhjachaaGreat
