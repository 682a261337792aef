import Derived.Test.YtmlnhjfdhjachaaGreatRing
import Derived.Test.YtmlnhjfdhjachaaGreatReserveR
/-
  The routine that hands an operation in (layer 29): what each of its functions does; as a routine. No condition.
-/
namespace Go.Proofs.YtmlnhjfdhjachaaGreat
set_option linter.unusedVariables false
open Go.ChangeShapes Go.WideShapes Go.ChangeAt Go.RowKit
open Go.ChangeMaps (setBlock)

structure PHand where
  cfg : PCfg
  text : ByteArray
  part : Int
  res : PRes
  full : Bool
  ticket : Int
  record : Int
def PHand.cells (s : PHand) (pv : Value) : Array Value := #[.int .i64 s.cfg.cap, .int .i64 s.cfg.pins, .int .i64 s.cfg.shelves, .int .i64 s.cfg.queue, .int .i64 s.cfg.watchers, .int .u64 s.cfg.seed, .string s.text, .int .i64 s.part, pv, .bool s.full, .int .i64 s.ticket, .int .u64 s.record]
def PHand.settle (s : PHand) : PHand := if s.res.over then (if s.res.full then { s with full := true, part := 4 } else { s with ticket := s.res.ticket, part := 3 }) else s
/-- What it does next. -/
def PHand.act (s : PHand) : PAct × Bool :=
  if s.part = 1 then (⟨5, 0, 2, 0, 0, s.text⟩, true)
  else if s.part = 2 then s.res.act
  else if s.part = 3 then (⟨2, 1, ringAt s.cfg s.ticket, 0, s.record, ByteArray.empty⟩, true)
  else (noAct, false)
/-- What it takes. -/
def PHand.take (s : PHand) (g : PGot) : PHand :=
  if s.part = 1 then { s with record := g.word, part := 2 }
  else if s.part = 2 then PHand.settle { s with res := s.res.take g }
  else if s.part = 3 then { s with part := 4 }
  else s
def PHand.result (s : PHand) : (Bool × Int × Int) × Bool := if s.part = 4 then ((s.full, s.ticket, s.record), true) else ((false, 0, 0), false)
def noCfgH : PCfg := ⟨0, 0, 0, 0, 0, 0⟩
def newHand (c : PCfg) (text : ByteArray) : PHand := if c.right then ⟨c, text, 1, newRes c, false, 0, 0⟩ else ⟨noCfgH, ByteArray.empty, 0, newRes noCfgH, false, 0, 0⟩
/-- What holds of one that goes. -/
structure PHand.Inv (s : PHand) : Prop where
  part : 1 ≤ s.part ∧ s.part ≤ 4
  right : s.cfg.Right
  rcfg : s.res.cfg = s.cfg ∧ s.res.made = true
  ahead : s.part = 1 → s.res = newRes s.cfg ∧ s.full = false ∧ s.ticket = 0
  goes : s.part = 2 → s.res.over = false ∧ s.full = false ∧ s.ticket = 0
theorem res_ticket {s : PRes} (h : s.over = false) (g : PGot) (h2 : (s.take g).over = true) : 0 ≤ (s.take g).ticket ∧ (s.take g).ticket ≤ 1099511627775 := by
  have hlook : ∀ (t : PRes) (x : Int), t.over = false → (t.look x).over = true → (t.look x).ticket = 0 := fun t x h3 h4 => by
    unfold PRes.look at h4 ⊢
    split at h4
    · simp [h3] at h4
    · rename_i hc
      rw [if_neg hc]
  unfold PRes.take at h2 ⊢
  split
  · rename_i hc
    rw [if_pos hc, h] at h2
    cases h2
  · rename_i hc
    rw [if_neg hc] at h2
    split
    · rename_i hd
      rw [if_pos hd] at h2
      rw [hlook _ _ h h2]
      omega
    · rename_i hd
      rw [if_neg hd] at h2
      split
      · exact cameOf_le _
      · rename_i he
        rw [if_neg he] at h2
        have h5 := hlook { s with tries := IntKind.i64.wrap (s.tries + 1) } g.word h h2
        rw [h5]
        omega
/-- What it takes keeps what holds. -/
theorem PHand.Inv.take {s : PHand} (h : s.Inv) (g : PGot) : (s.take g).Inv ∧ ((0 ≤ s.ticket ∧ s.ticket ≤ 9223372036854775807) → 0 ≤ (s.take g).ticket ∧ (s.take g).ticket ≤ 9223372036854775807) ∧ (s.take g).text = s.text := by
  obtain ⟨⟨p1, p4⟩, hr, hc, ha, hg⟩ := h
  have hcase : s.part = 1 ∨ s.part = 2 ∨ s.part = 3 ∨ s.part = 4 := by omega
  unfold PHand.take
  rcases hcase with e | e | e | e
  · rw [if_pos e]
    have h1 := ha e
    refine ⟨⟨by simp, hr, hc, fun e2 => by simp at e2, fun _ => ⟨?_, h1.2.1, h1.2.2⟩⟩, fun h2 => h2, rfl⟩
    show s.res.over = false
    rw [h1.1]
    rfl
  · rw [if_neg (by omega), if_pos e]
    have h1 := hg e
    have hk := PRes.take_cfg s.res g
    have ht := res_ticket h1.1 g
    show (PHand.settle _).Inv ∧ _
    unfold PHand.settle
    simp only
    split
    · rename_i hov
      split
      · exact ⟨⟨by simp, hr, ⟨hk.1.trans hc.1, hk.2.trans hc.2⟩, fun e2 => by simp at e2, fun e2 => by simp at e2⟩, fun h2 => h2, rfl⟩
      · refine ⟨⟨by simp, hr, ⟨hk.1.trans hc.1, hk.2.trans hc.2⟩, fun e2 => by simp at e2, fun e2 => by simp at e2⟩, fun h2 => ?_, rfl⟩
        have := ht hov
        show 0 ≤ (s.res.take g).ticket ∧ (s.res.take g).ticket ≤ _
        omega
    · rename_i hov
      exact ⟨⟨by simp [e], hr, ⟨hk.1.trans hc.1, hk.2.trans hc.2⟩, fun e2 => by simp [e] at e2, fun _ => ⟨by simpa using hov, h1.2⟩⟩, fun h2 => h2, rfl⟩
  · rw [if_neg (by omega), if_neg (by omega), if_pos e]
    exact ⟨⟨by simp, hr, hc, fun e2 => by simp at e2, fun e2 => by simp at e2⟩, fun h2 => h2, rfl⟩
  · rw [if_neg (by omega), if_neg (by omega), if_neg (by omega)]
    exact ⟨⟨⟨p1, p4⟩, hr, hc, ha, hg⟩, fun h2 => h2, rfl⟩
end Go.Proofs.YtmlnhjfdhjachaaGreat

/-
  The routine that hands an operation in (layer 29): its next act, of the last part. No condition.
-/
namespace Go.Proofs.YtmlnhjfdhjachaaGreat
set_option linter.unusedVariables false
open Go.ChangeShapes Go.WideShapes Go.ChangeAt Go.RowKit
open Go.ChangeMaps (setBlock)

end Go.Proofs.YtmlnhjfdhjachaaGreat

/-
  The routine that hands an operation in (layer 29): its next act. No condition.
-/
namespace Go.Proofs.YtmlnhjfdhjachaaGreat
set_option linter.unusedVariables false
open Go.ChangeShapes Go.WideShapes Go.ChangeAt Go.RowKit
open Go.ChangeMaps (setBlock)

end Go.Proofs.YtmlnhjfdhjachaaGreat
