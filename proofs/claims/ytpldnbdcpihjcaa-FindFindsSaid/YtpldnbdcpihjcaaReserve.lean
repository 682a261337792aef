/-
  The routine that reserves a place (layer 28): what each of its functions does. No condition.
-/
import Derived.Test.YtpldnbdcpihjcaaPlan
import Derived.Test.YtpldnbdcpihjcaaWord
import Derived.Test.YtpldnbdcpihjcaaDrive
import Derived.BigQuiet
namespace Go.Proofs.Ytpldnbdcpihjcaa
set_option linter.unusedVariables false
open Go.ChangeShapes Go.WideShapes Go.ChangeAt Go.RowKit
open Go.ChangeMaps (setBlock)

structure PRes where
  cfg : PCfg
  made : Bool
  seen : Bool
  was : Int
  next : Int
  tries : Int
  over : Bool
  full : Bool
  ticket : Int
def PRes.cells (s : PRes) : Array Value := #[.int .i64 s.cfg.cap, .int .i64 s.cfg.pins, .int .i64 s.cfg.shelves, .int .i64 s.cfg.queue, .int .i64 s.cfg.watchers, .int .u64 s.cfg.seed, .bool s.made, .bool s.seen, .int .u64 s.was, .int .u64 s.next, .int .i64 s.tries, .bool s.over, .bool s.full, .int .i64 s.ticket]
def PRes.idle (s : PRes) : Bool := !s.made || s.over
def PRes.act (s : PRes) : PAct × Bool :=
  if s.idle then (noAct, false) else if s.seen then (⟨3, 1, 1, s.was, s.next, ByteArray.empty⟩, true) else (⟨1, 1, 1, 0, 0, ByteArray.empty⟩, true)
def PRes.look (s : PRes) (x : Int) : PRes :=
  if entOk x s.cfg.cap then { s with seen := true, was := x, next := entV x s.cfg.cap } else { s with over := true, full := true, ticket := 0 }
def PRes.take (s : PRes) (g : PGot) : PRes :=
  if s.idle then s else if s.seen = false then s.look g.word else if g.word = s.was then { s with over := true, full := false, ticket := cameOf s.was } else PRes.look { s with tries := IntKind.i64.wrap (s.tries + 1) } g.word
def PRes.result (s : PRes) : (Bool × Int) × Bool := if s.over then ((s.full, s.ticket), true) else ((false, 0), false)
structure ResIn (w : World) (b : Nat) (s : PRes) : Prop where
  blk : Blk w b 152 s.cells
  was : 0 ≤ s.was ∧ s.was ≤ 18446744073709551615
  next : 0 ≤ s.next ∧ s.next ≤ 18446744073709551615
theorem ResIn.keep {w w' : World} {b : Nat} {s : PRes} (h : ResIn w b s) (hb : w'.heap[b]? = w.heap[b]?) : ResIn w' b s := ⟨h.blk.keep hb, h.was, h.next⟩
theorem ResIn.below {w w' : World} {b : Nat} {s : PRes} (h : ResIn w b s) (hb : Below w.heap.size w w') : ResIn w' b s := h.keep (hb.block _ h.blk.lt)
set_option maxHeartbeats 1000000 in
theorem idle_any {w : World} {b : Nat} {s : PRes} (h : ResIn w b s) : Calls Try.prog 86 #[.pointer (some ⟨b, 0, none⟩)] w fun e w' => e = .returned (.bool s.idle) ∧ w = w' := by
  obtain ⟨cfg, made, seen, was, next, tries, over, full, ticket⟩ := s
  have c6 : w.cell? ⟨b, 6, none⟩ = some (.bool made) := h.blk.cell 6
  have c11 : w.cell? ⟨b, 11, none⟩ = some (.bool over) := h.blk.cell 11
  replace h := Lib.hid h
  cases made <;> cases over <;>
  · go_enter Try.func86, Try.ntmps86
    go_wp2
    go_ret
    exact ⟨rfl, rfl⟩
theorem idle_nil (w : World) : Calls Try.prog 86 #[.pointer none] w fun e w' => e = .returned (.bool true) ∧ w = w' := by
  go_enter Try.func86, Try.ntmps86
  go_wp2
  go_ret
  exact ⟨rfl, rfl⟩
set_option maxHeartbeats 1000000 in
theorem resResult_any {w : World} {b : Nat} {s : PRes} (h : ResIn w b s) : Calls Try.prog 46 #[.pointer (some ⟨b, 0, none⟩)] w fun e w' => e = .returned (.tuple #[.agg #[.bool s.result.1.1, .int .i64 s.result.1.2], .bool s.result.2]) ∧ Below w.heap.size w w' := by
  obtain ⟨cfg, made, seen, was, next, tries, over, full, ticket⟩ := s
  have c11 : w.cell? ⟨b, 11, none⟩ = some (.bool over) := h.blk.cell 11
  have c12 : w.cell? ⟨b, 12, none⟩ = some (.bool full) := h.blk.cell 12
  have c13 : w.cell? ⟨b, 13, none⟩ = some (.int .i64 ticket) := h.blk.cell 13
  have hlt := h.blk.lt
  replace h := Lib.hid h
  cases over
  · go_enter Try.func46, Try.ntmps46
    go_wp2_with fail
    refine bodyPost_ret (v := .tuple #[.agg #[.bool false, .int .i64 0], .bool false]) (by simp [results, Try.results46, go_sem]) rfl ⟨rfl, ?_⟩
    (repeat first | exact Below.refl _ _ | assumption | refine Below.drew ?_ | refine below_drewN ?_ _ | refine Below.more_ ?_ _ | refine Below.setCell ?_ (by first | exact Nat.le_refl _ | (simp; done) | (simp; omega)) _)
  · go_enter Try.func46, Try.ntmps46
    go_wp2_with fail
    refine bodyPost_ret (v := .tuple #[.agg #[.bool full, .int .i64 ticket], .bool true]) (by simp [results, Try.results46, go_sem]) rfl ⟨rfl, ?_⟩
    (repeat first | exact Below.refl _ _ | assumption | refine Below.drew ?_ | refine below_drewN ?_ _ | refine Below.more_ ?_ _ | refine Below.setCell ?_ (by first | exact Nat.le_refl _ | (simp; done) | (simp; omega)) _)
theorem tries_any {w : World} {b : Nat} {s : PRes} (h : ResIn w b s) : Calls Try.prog 48 #[.pointer (some ⟨b, 0, none⟩)] w fun e w' => e = .returned (.int .i64 s.tries) ∧ w = w' := by
  obtain ⟨cfg, made, seen, was, next, tries, over, full, ticket⟩ := s
  have c10 : w.cell? ⟨b, 10, none⟩ = some (.int .i64 tries) := h.blk.cell 10
  replace h := Lib.hid h
  go_enter Try.func48, Try.ntmps48
  go_wp2
  go_ret
  exact ⟨rfl, rfl⟩
theorem tries_nil (w : World) : Calls Try.prog 48 #[.pointer none] w fun e w' => e = .returned (.int .i64 0) ∧ w = w' := by
  go_enter Try.func48, Try.ntmps48
  go_wp2
  go_ret
  exact ⟨rfl, rfl⟩
set_option maxHeartbeats 1000000 in
theorem resAct_nil (w : World) : Calls Try.prog 45 #[.pointer none] w fun e w' => e = .returned (.tuple #[noAct.val, .bool false]) ∧ Below w.heap.size w w' := by
  rw [show noAct.val = .agg #[.int .i64 0, .int .u64 0, .int .i64 0, .int .u64 0, .int .u64 0, .string ⟨#[]⟩] from rfl]
  go_enter Try.func45, Try.ntmps45
  go_wp2_with fail
  refine (idle_nil _).mono ?_; rintro e w1 ⟨rfl, rfl⟩
  go_wp2_with fail
  refine bodyPost_ret (v := .tuple #[.agg #[.int .i64 0, .int .u64 0, .int .i64 0, .int .u64 0, .int .u64 0, .string ⟨#[]⟩], .bool false]) (by simp [results, Try.results45, go_sem]) rfl ⟨rfl, ?_⟩
  (repeat first | exact Below.refl _ _ | assumption | refine Below.drew ?_ | refine below_drewN ?_ _ | refine Below.more_ ?_ _ | refine Below.setCell ?_ (by first | exact Nat.le_refl _ | (simp; done) | (simp; omega)) _)
set_option maxHeartbeats 1000000 in
theorem resAct_any {w : World} {b : Nat} {s : PRes} (h : ResIn w b s) : Calls Try.prog 45 #[.pointer (some ⟨b, 0, none⟩)] w fun e w' => e = .returned (.tuple #[s.act.1.val, .bool s.act.2]) ∧ Below w.heap.size w w' := by
  have hI := fun W (hb : Below w.heap.size w W) => idle_any (h.below hb)
  have hA : s.act = if s.idle then (noAct, false) else if s.seen then (⟨3, 1, 1, s.was, s.next, ByteArray.empty⟩, true) else (⟨1, 1, 1, 0, 0, ByteArray.empty⟩, true) := rfl
  rw [hA]
  clear hA
  generalize s.idle = id at *
  obtain ⟨cfg, made, seen, was, next, tries, over, full, ticket⟩ := s
  have c7 : w.cell? ⟨b, 7, none⟩ = some (.bool seen) := h.blk.cell 7
  have c8 : w.cell? ⟨b, 8, none⟩ = some (.int .u64 was) := h.blk.cell 8
  have c9 : w.cell? ⟨b, 9, none⟩ = some (.int .u64 next) := h.blk.cell 9
  have hlt := h.blk.lt
  have hz : Below w.heap.size w (w.alloc (.cells #[.int .i64 0, .int .u64 0, .int .i64 0, .int .u64 0, .int .u64 0, .string ⟨#[]⟩] 31)) := (Below.refl _ _).alloc (Nat.le_refl _) _
  replace h := Lib.hid h
  replace hI := Lib.hid hI
  replace hz := Lib.hid hz
  cases id
  · cases seen
    · simp only [Bool.false_eq_true, if_false]
      rw [show PAct.val ⟨1, 1, 1, 0, 0, ByteArray.empty⟩ = .agg #[.int .i64 1, .int .u64 1, .int .i64 1, .int .u64 0, .int .u64 0, .string ⟨#[]⟩] from rfl]
      go_enter Try.func45, Try.ntmps45
      go_wp2_with fail
      refine (hI.out _ hz.out).mono ?_; rintro e w1 ⟨rfl, rfl⟩
      go_wp2_with fail
      refine bodyPost_ret (v := .tuple #[.agg #[.int .i64 1, .int .u64 1, .int .i64 1, .int .u64 0, .int .u64 0, .string ⟨#[]⟩], .bool true]) (by simp [results, Try.results45, go_sem]) rfl ⟨rfl, ?_⟩
      (repeat first | exact Below.refl _ _ | assumption | refine Below.drew ?_ | refine below_drewN ?_ _ | refine Below.more_ ?_ _ | refine Below.setCell ?_ (by first | exact Nat.le_refl _ | (simp; done) | (simp; omega)) _)
    · simp only [Bool.false_eq_true, if_false, if_true]
      rw [show PAct.val ⟨3, 1, 1, was, next, ByteArray.empty⟩ = .agg #[.int .i64 3, .int .u64 1, .int .i64 1, .int .u64 was, .int .u64 next, .string ⟨#[]⟩] from rfl]
      go_enter Try.func45, Try.ntmps45
      go_wp2_with fail
      refine (hI.out _ hz.out).mono ?_; rintro e w1 ⟨rfl, rfl⟩
      go_wp2_with fail
      go_region
      go_wp2_with fail
      refine bodyPost_ret (v := .tuple #[.agg #[.int .i64 3, .int .u64 1, .int .i64 1, .int .u64 was, .int .u64 next, .string ⟨#[]⟩], .bool true]) (by simp [results, Try.results45, go_sem]) rfl ⟨rfl, ?_⟩
      (repeat first | exact Below.refl _ _ | assumption | refine Below.drew ?_ | refine below_drewN ?_ _ | refine Below.more_ ?_ _ | refine Below.setCell ?_ (by first | exact Nat.le_refl _ | (simp; done) | (simp; omega)) _)
  · simp only [if_true]
    rw [show noAct.val = .agg #[.int .i64 0, .int .u64 0, .int .i64 0, .int .u64 0, .int .u64 0, .string ⟨#[]⟩] from rfl]
    go_enter Try.func45, Try.ntmps45
    go_wp2_with fail
    refine (hI.out _ hz.out).mono ?_; rintro e w1 ⟨rfl, rfl⟩
    go_wp2_with fail
    refine bodyPost_ret (v := .tuple #[.agg #[.int .i64 0, .int .u64 0, .int .i64 0, .int .u64 0, .int .u64 0, .string ⟨#[]⟩], .bool false]) (by simp [results, Try.results45, go_sem]) rfl ⟨rfl, ?_⟩
    (repeat first | exact Below.refl _ _ | assumption | refine Below.drew ?_ | refine below_drewN ?_ _ | refine Below.more_ ?_ _ | refine Below.setCell ?_ (by first | exact Nat.le_refl _ | (simp; done) | (simp; omega)) _)
end Go.Proofs.Ytpldnbdcpihjcaa
