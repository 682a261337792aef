/-
  The routine that makes a version (layer 22): its acts. No condition.
-/
import Derived.Test.YtfelkkbgbgnpaaaTapeD
namespace Go.Proofs.Ytfelkkbgbgnpaaa
set_option linter.unusedVariables false
open Go.ChangeShapes Go.WideShapes Go.ChangeAt Go.RowKit
open Go.ChangeMaps (setBlock)

structure PVer where
  todo : List PAct
  at_ : Nat
  block : Int
def actC (x : PAct) : List Value := [.int .i64 x.kind, .int .u64 x.block, .int .i64 x.cell, .int .u64 x.old, .int .u64 x.new, .string x.text]
def actL (l : List PAct) : List Value := l.flatMap actC
def PVer.cells (s : PVer) (ar c : Nat) : Array Value := #[.slice (some ⟨ar, 0, none⟩) s.todo.length c, .int .i64 (s.at_ : Nat), .int .u64 s.block]
structure VerIn (w : World) (b ar c : Nat) (s : PVer) : Prop where
  blk : Blk w b 230 (s.cells ar c)
  got : ∀ (j : Nat) u, (actL s.todo)[j]? = some u → w.cell? ⟨ar, j, none⟩ = some u
  lt : ar < w.heap.size
  ne : ar ≠ b
  len : s.todo.length ≤ 1000000
  pos : 0 < s.todo.length
  at_ : s.at_ ≤ s.todo.length
  kinds : ∀ x ∈ s.todo, x.kind ≠ 0
/-- What a version's routine does next; what it takes; what it answers. -/
def PVer.act (s : PVer) : PAct × Bool := match s.todo[s.at_]? with
  | none => (noAct, false)
  | some x =>
    let y : PAct := if 0 < s.at_ then { x with block := s.block } else x
    (y, true)
def PVer.take (s : PVer) (g : PGot) : PVer :=
  if s.at_ = s.todo.length then s
  else
    let b := if s.at_ = 0 then g.word else s.block
    ⟨s.todo, if b = 0 then s.todo.length else s.at_ + 1, b⟩
def PVer.result (s : PVer) : Int × Bool := if s.at_ < s.todo.length then (0, false) else (s.block, true)
set_option maxRecDepth 100000 in
set_option maxHeartbeats 2000000 in
theorem verResult_any {w : World} {b ar c : Nat} {s : PVer} (h : VerIn w b ar c s) :
    Calls Try.prog 132 #[.pointer (some ⟨b, 0, none⟩)] w fun e w' => e = .returned (.tuple #[.int .u64 s.result.1, .bool s.result.2]) ∧ Below w.heap.size w w' := by
  obtain ⟨todo, at_, block⟩ := s
  have hB : Blk w b 230 #[.slice (some ⟨ar, 0, none⟩) todo.length c, .int .i64 (at_ : Nat), .int .u64 block] := h.blk
  have hlt := hB.lt
  have hp : 0 < todo.length := h.pos
  have hl : todo.length ≤ 1000000 := h.len
  have c0 := hB.cell 0
  have c1 := hB.cell 1
  have c2 := hB.cell 2
  have d0 : ((todo.length : Int) == 0) = false := by rw [beq_eq_false_iff_ne]; omega
  replace h := Lib.hid h
  replace hB := Lib.hid hB
  by_cases ha : at_ < todo.length
  · have d1 : decide ((at_ : Int) < (todo.length : Int)) = true := by simp; omega
    go_enter Try.func132, Try.ntmps132
    go_wp2_with fail
    go_quiet (fail)
    go_wp2_with fail
    refine bodyPost_ret (v := .tuple #[.int .u64 0, .bool false]) (by simp [results, Try.results132, go_sem]) rfl ⟨by simp [PVer.result, ha], ?_⟩
    (repeat first | exact Below.refl _ _ | assumption | refine Below.drew ?_ | refine below_drewN ?_ _ | refine Below.more_ ?_ _ | refine Below.setCell ?_ (by first | exact Nat.le_refl _ | (simp; done) | (simp; omega)) _)
  · have d1 : decide ((at_ : Int) < (todo.length : Int)) = false := by simp; omega
    go_enter Try.func132, Try.ntmps132
    go_wp2_with fail
    go_quiet (fail)
    go_wp2_with fail
    refine bodyPost_ret (v := .tuple #[.int .u64 block, .bool true]) (by simp [results, Try.results132, go_sem]) rfl ⟨by simp [PVer.result, ha], ?_⟩
    (repeat first | exact Below.refl _ _ | assumption | refine Below.drew ?_ | refine below_drewN ?_ _ | refine Below.more_ ?_ _ | refine Below.setCell ?_ (by first | exact Nat.le_refl _ | (simp; done) | (simp; omega)) _)
set_option maxRecDepth 100000 in
set_option maxHeartbeats 4000000 in
theorem verTake_any {w : World} {b ar c : Nat} {s : PVer} (h : VerIn w b ar c s) (g : PGot) :
    Calls Try.prog 195 #[.pointer (some ⟨b, 0, none⟩), g.val] w fun e w' => e = .returned (.tuple #[]) ∧ VerIn w' b ar c (s.take g) ∧ Chg (fun k => k = b) w w' := by
  obtain ⟨todo, at_, block⟩ := s
  obtain ⟨gw, gt⟩ := g
  rw [show PGot.val ⟨gw, gt⟩ = .agg #[.int .u64 gw, .string gt] from rfl]
  have hB : Blk w b 230 #[.slice (some ⟨ar, 0, none⟩) todo.length c, .int .i64 (at_ : Nat), .int .u64 block] := h.blk
  have hlt := hB.lt
  have hp : 0 < todo.length := h.pos
  have hl : todo.length ≤ 1000000 := h.len
  have hat : at_ ≤ todo.length := h.at_
  have har := h.lt
  have hne := h.ne
  -- what lies behind: any world that changed b alone, and b to what the law says
  have last : ∀ (s' : PVer) (W : World), s'.todo = todo → s'.at_ ≤ todo.length → Blk W b 230 (s'.cells ar c) → Chg (fun k => k = b) w W → VerIn W b ar c s' := by
    rintro ⟨t', a', b'⟩ W rfl h2 h3 h4
    exact ⟨h3, fun j u hj => (h4.cell (p := ⟨ar, j, none⟩) har hne).trans (h.got j u hj), Nat.lt_of_lt_of_le har h4.size, hne, hl, hp, h2, h.kinds⟩
  have c0 := hB.cell 0
  have c1 := hB.cell 1
  have c2 := hB.cell 2
  have f1 := hB.frozen 1
  have f2 := hB.frozen 2
  replace h := Lib.hid h
  replace hB := Lib.hid hB
  replace last := Lib.hid last
  by_cases ha : at_ = todo.length
  · have d1 : ((at_ : Int) == (todo.length : Int)) = true := by simp; omega
    have ht : PVer.take ⟨todo, at_, block⟩ ⟨gw, gt⟩ = ⟨todo, at_, block⟩ := by simp [PVer.take, ha]
    rw [ht]
    go_enter Try.func195, Try.ntmps195
    go_wp2_with fail
    go_quiet (fail)
    go_wp2_with fail
    have C : ∀ nq, Chg (fun k => k = b) w ((w.alloc (.cells #[.int .u64 gw, .string gt] 53)).drewN nq) := fun nq => ((Chg.refl _ _).alloc _).drewN nq
    refine bodyPost_ret (v := .tuple #[]) (results_none (by kernel_rfl) _ _ _) rfl ⟨rfl, last.out _ _ rfl hat ((hB.out.alloc _).drewN _) (C _), C _⟩
  have d1 : ((at_ : Int) == (todo.length : Int)) = false := by rw [beq_eq_false_iff_ne]; omega
  by_cases h0 : at_ = 0
  · subst h0
    by_cases g0 : gw = 0
    · have d2 : (gw == 0) = true := by simp [g0]
      have ht : PVer.take ⟨todo, 0, block⟩ ⟨gw, gt⟩ = ⟨todo, todo.length, gw⟩ := by simp [PVer.take, ha, g0]
      rw [ht]
      clear ht
      replace g0 := Lib.hid g0
      go_enter Try.func195, Try.ntmps195
      go_wp2_with fail
      go_quiet (fail)
      go_wp2_with fail
      refine gen_world (α := fun W' => bodyPost _ _ _ _ _ W') (fun W' => Blk W' b 230 (PVer.cells ⟨todo, todo.length, gw⟩ ar c) ∧ Chg (fun k => k = b) w W') ⟨?_, ?_⟩ ?_
      · refine Blk.eq_cs (cs := ((((#[.slice (some ⟨ar, 0, none⟩) todo.length c, .int .i64 (0 : Nat), .int .u64 block] : Array Value).setIfInBounds 2 (.int .u64 gw)).setIfInBounds 1 (.int .i64 1)).setIfInBounds 1 (.int .i64 (todo.length : Nat)))) ?_ rfl
        have hB := hB.out
        (repeat first | with_reducible exact hB | with_reducible refine Blk.drewN ?_ _ | with_reducible refine Blk.drew ?_ | with_reducible refine Blk.alloc ?_ _ | with_reducible refine Blk.set_ ?_ _ _ | refine Blk.far ?_ (by simp; omega) _)
      · (repeat first | with_reducible exact Chg.refl _ _ | with_reducible refine Chg.drew ?_ | with_reducible refine Chg.drewN ?_ _ | with_reducible refine Chg.alloc ?_ _ | refine Chg.setCell ?_ (by first | (left; rfl) | (left; assumption) | (right; exact Nat.le_refl _) | (right; simp; done) | (right; simp; omega)) _)
      rintro W' ⟨g1, g2⟩
      exact bodyPost_end (v := .tuple #[]) (results_none (by kernel_rfl) _ _ _) rfl ⟨rfl, last.out _ _ rfl (Nat.le_refl _) g1 g2, g2⟩
    · have d2 : (gw == 0) = false := by simp [g0]
      have ht : PVer.take ⟨todo, 0, block⟩ ⟨gw, gt⟩ = ⟨todo, 1, gw⟩ := by simp [PVer.take, ha, g0]
      rw [ht]
      clear ht
      replace g0 := Lib.hid g0
      go_enter Try.func195, Try.ntmps195
      go_wp2_with fail
      go_quiet (fail)
      go_wp2_with fail
      refine gen_world (α := fun W' => bodyPost _ _ _ _ _ W') (fun W' => Blk W' b 230 (PVer.cells ⟨todo, 1, gw⟩ ar c) ∧ Chg (fun k => k = b) w W') ⟨?_, ?_⟩ ?_
      · refine Blk.eq_cs (cs := (((#[.slice (some ⟨ar, 0, none⟩) todo.length c, .int .i64 (0 : Nat), .int .u64 block] : Array Value).setIfInBounds 2 (.int .u64 gw)).setIfInBounds 1 (.int .i64 1))) ?_ rfl
        have hB := hB.out
        (repeat first | with_reducible exact hB | with_reducible refine Blk.drewN ?_ _ | with_reducible refine Blk.drew ?_ | with_reducible refine Blk.alloc ?_ _ | with_reducible refine Blk.set_ ?_ _ _ | refine Blk.far ?_ (by simp; omega) _)
      · (repeat first | with_reducible exact Chg.refl _ _ | with_reducible refine Chg.drew ?_ | with_reducible refine Chg.drewN ?_ _ | with_reducible refine Chg.alloc ?_ _ | refine Chg.setCell ?_ (by first | (left; rfl) | (left; assumption) | (right; exact Nat.le_refl _) | (right; simp; done) | (right; simp; omega)) _)
      rintro W' ⟨g1, g2⟩
      exact bodyPost_end (v := .tuple #[]) (results_none (by kernel_rfl) _ _ _) rfl ⟨rfl, last.out _ _ rfl (hp) g1 g2, g2⟩
  · have d3 : ((at_ : Int) == 0) = false := by rw [beq_eq_false_iff_ne]; omega
    by_cases g0 : block = 0
    · have d2 : (block == 0) = true := by simp [g0]
      have ht : PVer.take ⟨todo, at_, block⟩ ⟨gw, gt⟩ = ⟨todo, todo.length, block⟩ := by simp [PVer.take, ha, h0, g0]
      rw [ht]
      clear ht
      replace g0 := Lib.hid g0
      go_enter Try.func195, Try.ntmps195
      go_wp2_with fail
      go_quiet (fail)
      go_wp2_with fail
      refine gen_world (α := fun W' => bodyPost _ _ _ _ _ W') (fun W' => Blk W' b 230 (PVer.cells ⟨todo, todo.length, block⟩ ar c) ∧ Chg (fun k => k = b) w W') ⟨?_, ?_⟩ ?_
      · refine Blk.eq_cs (cs := (((#[.slice (some ⟨ar, 0, none⟩) todo.length c, .int .i64 (at_ : Nat), .int .u64 block] : Array Value).setIfInBounds 1 (.int .i64 ((at_ : Int) + 1))).setIfInBounds 1 (.int .i64 (todo.length : Nat)))) ?_ rfl
        have hB := hB.out
        (repeat first | with_reducible exact hB | with_reducible refine Blk.drewN ?_ _ | with_reducible refine Blk.drew ?_ | with_reducible refine Blk.alloc ?_ _ | with_reducible refine Blk.set_ ?_ _ _ | refine Blk.far ?_ (by simp; omega) _)
      · (repeat first | with_reducible exact Chg.refl _ _ | with_reducible refine Chg.drew ?_ | with_reducible refine Chg.drewN ?_ _ | with_reducible refine Chg.alloc ?_ _ | refine Chg.setCell ?_ (by first | (left; rfl) | (left; assumption) | (right; exact Nat.le_refl _) | (right; simp; done) | (right; simp; omega)) _)
      rintro W' ⟨g1, g2⟩
      exact bodyPost_end (v := .tuple #[]) (results_none (by kernel_rfl) _ _ _) rfl ⟨rfl, last.out _ _ rfl (Nat.le_refl _) g1 g2, g2⟩
    · have d2 : (block == 0) = false := by simp [g0]
      have ht : PVer.take ⟨todo, at_, block⟩ ⟨gw, gt⟩ = ⟨todo, at_ + 1, block⟩ := by simp [PVer.take, ha, h0, g0]
      rw [ht]
      clear ht
      replace g0 := Lib.hid g0
      go_enter Try.func195, Try.ntmps195
      go_wp2_with fail
      go_quiet (fail)
      go_wp2_with fail
      refine gen_world (α := fun W' => bodyPost _ _ _ _ _ W') (fun W' => Blk W' b 230 (PVer.cells ⟨todo, at_ + 1, block⟩ ar c) ∧ Chg (fun k => k = b) w W') ⟨?_, ?_⟩ ?_
      · refine Blk.eq_cs (cs := ((#[.slice (some ⟨ar, 0, none⟩) todo.length c, .int .i64 (at_ : Nat), .int .u64 block] : Array Value).setIfInBounds 1 (.int .i64 ((at_ : Int) + 1)))) ?_ rfl
        have hB := hB.out
        (repeat first | with_reducible exact hB | with_reducible refine Blk.drewN ?_ _ | with_reducible refine Blk.drew ?_ | with_reducible refine Blk.alloc ?_ _ | with_reducible refine Blk.set_ ?_ _ _ | refine Blk.far ?_ (by simp; omega) _)
      · (repeat first | with_reducible exact Chg.refl _ _ | with_reducible refine Chg.drew ?_ | with_reducible refine Chg.drewN ?_ _ | with_reducible refine Chg.alloc ?_ _ | refine Chg.setCell ?_ (by first | (left; rfl) | (left; assumption) | (right; exact Nat.le_refl _) | (right; simp; done) | (right; simp; omega)) _)
      rintro W' ⟨g1, g2⟩
      exact bodyPost_end (v := .tuple #[]) (results_none (by kernel_rfl) _ _ _) rfl ⟨rfl, last.out _ _ rfl (by show at_ + 1 ≤ todo.length; omega) g1 g2, g2⟩
end Go.Proofs.Ytfelkkbgbgnpaaa
