import Derived.Laws.AppendOwn
import Derived.PlainAid
import Derived.BigQuiet
import Derived.StillTailTactics
import Derived.Test.YtmlnhjfdhjachaaGreatQll5
import Derived.Test.YtmlnhjfdhjachaaGreatQll6
/-
  The routine that makes a version (layer 22): its acts. No condition.
-/
namespace Go.Proofs.YtmlnhjfdhjachaaGreat
set_option linter.unusedVariables false
open Go.ChangeShapes Go.WideShapes Go.ChangeAt Go.RowKit
open Go.ChangeMaps (setBlock)

structure PVer where
  todo : List PAct
  at_ : Nat
  block : Int
def actC (x : PAct) : List Value := [.int .i64 x.kind, .int .u64 x.block, .int .i64 x.cell, .int .u64 x.old, .int .u64 x.new, .string x.text]
def actL (l : List PAct) : List Value := l.flatMap actC
def PVer.cells (s : PVer) (ar c : Nat) : Array Value := #[.slice (some ⟨ar, 0, none⟩) s.todo.length c, .int .i64 (s.at_ : Nat), .int .u64 s.block]
structure VerIn (w : World) (b ar c : Nat) (s : PVer) : Prop where
  blk : Blk w b 204 (s.cells ar c)
  got : ∀ (j : Nat) u, (actL s.todo)[j]? = some u → w.cell? ⟨ar, j, none⟩ = some u
  lt : ar < w.heap.size
  ne : ar ≠ b
  len : s.todo.length ≤ 1000000
  pos : 0 < s.todo.length
  at_ : s.at_ ≤ s.todo.length
  kinds : ∀ x ∈ s.todo, x.kind ≠ 0
/-- What a version's routine does next; what it takes; what it answers. -/
def PVer.act (s : PVer) : PAct × Bool := match s.todo[s.at_]? with
  | none => (noAct, false)
  | some x =>
    let y : PAct := if 0 < s.at_ then { x with block := s.block } else x
    (y, true)
def PVer.take (s : PVer) (g : PGot) : PVer :=
  if s.at_ = s.todo.length then s
  else
    let b := if s.at_ = 0 then g.word else s.block
    ⟨s.todo, if b = 0 then s.todo.length else s.at_ + 1, b⟩
def PVer.result (s : PVer) : Int × Bool := if s.at_ < s.todo.length then (0, false) else (s.block, true)
set_option maxRecDepth 100000 in
set_option maxHeartbeats 2000000 in
theorem verResult_any {w : World} {b ar c : Nat} {s : PVer} (h : VerIn w b ar c s) :
    Calls Tryz.prog 90 #[.pointer (some ⟨b, 0, none⟩)] w fun e w' => e = .returned (.tuple #[.int .u64 s.result.1, .bool s.result.2]) ∧ Below w.heap.size w w' := by
  obtain ⟨todo, at_, block⟩ := s
  have hB : Blk w b 204 #[.slice (some ⟨ar, 0, none⟩) todo.length c, .int .i64 (at_ : Nat), .int .u64 block] := h.blk
  have hlt := hB.lt
  have hp : 0 < todo.length := h.pos
  have hl : todo.length ≤ 1000000 := h.len
  have c0 := hB.cell 0
  have c1 := hB.cell 1
  have c2 := hB.cell 2
  have d0 : ((todo.length : Int) == 0) = false := by rw [beq_eq_false_iff_ne]; omega
  replace h := Lib.hid h
  replace hB := Lib.hid hB
  by_cases ha : at_ < todo.length
  · have d1 : decide ((at_ : Int) < (todo.length : Int)) = true := by simp; omega
    go_enter Tryz.func90, Tryz.ntmps90
    go_wp2_with fail
    go_quiet (fail)
    go_wp2_with fail
    refine bodyPost_ret (v := .tuple #[.int .u64 0, .bool false]) (by simp [results, Tryz.results90, go_sem]) rfl ⟨by simp [PVer.result, ha], ?_⟩
    (repeat first | exact Below.refl _ _ | assumption | refine Below.drew ?_ | refine below_drewN ?_ _ | refine Below.more_ ?_ _ | refine Below.setCell ?_ (by first | exact Nat.le_refl _ | (simp; done) | (simp; omega)) _)
  · have d1 : decide ((at_ : Int) < (todo.length : Int)) = false := by simp; omega
    go_enter Tryz.func90, Tryz.ntmps90
    go_wp2_with fail
    go_quiet (fail)
    go_wp2_with fail
    refine bodyPost_ret (v := .tuple #[.int .u64 block, .bool true]) (by simp [results, Tryz.results90, go_sem]) rfl ⟨by simp [PVer.result, ha], ?_⟩
    (repeat first | exact Below.refl _ _ | assumption | refine Below.drew ?_ | refine below_drewN ?_ _ | refine Below.more_ ?_ _ | refine Below.setCell ?_ (by first | exact Nat.le_refl _ | (simp; done) | (simp; omega)) _)
set_option maxRecDepth 100000 in
set_option maxHeartbeats 4000000 in
theorem verTake_any {w : World} {b ar c : Nat} {s : PVer} (h : VerIn w b ar c s) (g : PGot) :
    Calls Tryz.prog 172 #[.pointer (some ⟨b, 0, none⟩), g.val] w fun e w' => e = .returned (.tuple #[]) ∧ VerIn w' b ar c (s.take g) ∧ Chg (fun k => k = b) w w' := by
  obtain ⟨todo, at_, block⟩ := s
  obtain ⟨gw, gt⟩ := g
  rw [show PGot.val ⟨gw, gt⟩ = .agg #[.int .u64 gw, .string gt] from rfl]
  have hB : Blk w b 204 #[.slice (some ⟨ar, 0, none⟩) todo.length c, .int .i64 (at_ : Nat), .int .u64 block] := h.blk
  have hlt := hB.lt
  have hp : 0 < todo.length := h.pos
  have hl : todo.length ≤ 1000000 := h.len
  have hat : at_ ≤ todo.length := h.at_
  have har := h.lt
  have hne := h.ne
  -- what lies behind: any world that changed b alone, and b to what the law says
  have last : ∀ (s' : PVer) (W : World), s'.todo = todo → s'.at_ ≤ todo.length → Blk W b 204 (s'.cells ar c) → Chg (fun k => k = b) w W → VerIn W b ar c s' := by
    rintro ⟨t', a', b'⟩ W rfl h2 h3 h4
    exact ⟨h3, fun j u hj => (h4.cell (p := ⟨ar, j, none⟩) har hne).trans (h.got j u hj), Nat.lt_of_lt_of_le har h4.size, hne, hl, hp, h2, h.kinds⟩
  have c0 := hB.cell 0
  have c1 := hB.cell 1
  have c2 := hB.cell 2
  have f1 := hB.frozen 1
  have f2 := hB.frozen 2
  replace h := Lib.hid h
  replace hB := Lib.hid hB
  replace last := Lib.hid last
  by_cases ha : at_ = todo.length
  · have d1 : ((at_ : Int) == (todo.length : Int)) = true := by simp; omega
    have ht : PVer.take ⟨todo, at_, block⟩ ⟨gw, gt⟩ = ⟨todo, at_, block⟩ := by simp [PVer.take, ha]
    rw [ht]
    go_enter Tryz.func172, Tryz.ntmps172
    go_wp2_with fail
    go_quiet (fail)
    go_wp2_with fail
    have C : ∀ nq, Chg (fun k => k = b) w ((w.alloc (.cells #[.int .u64 gw, .string gt] 52)).drewN nq) := fun nq => ((Chg.refl _ _).alloc _).drewN nq
    refine bodyPost_ret (v := .tuple #[]) (results_none (by kernel_rfl) _ _ _) rfl ⟨rfl, last.out _ _ rfl hat ((hB.out.alloc _).drewN _) (C _), C _⟩
  have d1 : ((at_ : Int) == (todo.length : Int)) = false := by rw [beq_eq_false_iff_ne]; omega
  by_cases h0 : at_ = 0
  · subst h0
    by_cases g0 : gw = 0
    · have d2 : (gw == 0) = true := by simp [g0]
      have ht : PVer.take ⟨todo, 0, block⟩ ⟨gw, gt⟩ = ⟨todo, todo.length, gw⟩ := by simp [PVer.take, ha, g0]
      rw [ht]
      clear ht
      replace g0 := Lib.hid g0
      go_enter Tryz.func172, Tryz.ntmps172
      go_wp2_with fail
      go_quiet (fail)
      go_wp2_with fail
      refine gen_world (α := fun W' => bodyPost _ _ _ _ _ W') (fun W' => Blk W' b 204 (PVer.cells ⟨todo, todo.length, gw⟩ ar c) ∧ Chg (fun k => k = b) w W') ⟨?_, ?_⟩ ?_
      · refine Blk.eq_cs (cs := ((((#[.slice (some ⟨ar, 0, none⟩) todo.length c, .int .i64 (0 : Nat), .int .u64 block] : Array Value).setIfInBounds 2 (.int .u64 gw)).setIfInBounds 1 (.int .i64 1)).setIfInBounds 1 (.int .i64 (todo.length : Nat)))) ?_ rfl
        have hB := hB.out
        (repeat first | with_reducible exact hB | with_reducible refine Blk.drewN ?_ _ | with_reducible refine Blk.drew ?_ | with_reducible refine Blk.alloc ?_ _ | with_reducible refine Blk.set_ ?_ _ _ | refine Blk.far ?_ (by simp; omega) _)
      · (repeat first | with_reducible exact Chg.refl _ _ | with_reducible refine Chg.drew ?_ | with_reducible refine Chg.drewN ?_ _ | with_reducible refine Chg.alloc ?_ _ | refine Chg.setCell ?_ (by first | (left; rfl) | (left; assumption) | (right; exact Nat.le_refl _) | (right; simp; done) | (right; simp; omega)) _)
      rintro W' ⟨g1, g2⟩
      exact bodyPost_end (v := .tuple #[]) (results_none (by kernel_rfl) _ _ _) rfl ⟨rfl, last.out _ _ rfl (Nat.le_refl _) g1 g2, g2⟩
    · have d2 : (gw == 0) = false := by simp [g0]
      have ht : PVer.take ⟨todo, 0, block⟩ ⟨gw, gt⟩ = ⟨todo, 1, gw⟩ := by simp [PVer.take, ha, g0]
      rw [ht]
      clear ht
      replace g0 := Lib.hid g0
      go_enter Tryz.func172, Tryz.ntmps172
      go_wp2_with fail
      go_quiet (fail)
      go_wp2_with fail
      refine gen_world (α := fun W' => bodyPost _ _ _ _ _ W') (fun W' => Blk W' b 204 (PVer.cells ⟨todo, 1, gw⟩ ar c) ∧ Chg (fun k => k = b) w W') ⟨?_, ?_⟩ ?_
      · refine Blk.eq_cs (cs := (((#[.slice (some ⟨ar, 0, none⟩) todo.length c, .int .i64 (0 : Nat), .int .u64 block] : Array Value).setIfInBounds 2 (.int .u64 gw)).setIfInBounds 1 (.int .i64 1))) ?_ rfl
        have hB := hB.out
        (repeat first | with_reducible exact hB | with_reducible refine Blk.drewN ?_ _ | with_reducible refine Blk.drew ?_ | with_reducible refine Blk.alloc ?_ _ | with_reducible refine Blk.set_ ?_ _ _ | refine Blk.far ?_ (by simp; omega) _)
      · (repeat first | with_reducible exact Chg.refl _ _ | with_reducible refine Chg.drew ?_ | with_reducible refine Chg.drewN ?_ _ | with_reducible refine Chg.alloc ?_ _ | refine Chg.setCell ?_ (by first | (left; rfl) | (left; assumption) | (right; exact Nat.le_refl _) | (right; simp; done) | (right; simp; omega)) _)
      rintro W' ⟨g1, g2⟩
      exact bodyPost_end (v := .tuple #[]) (results_none (by kernel_rfl) _ _ _) rfl ⟨rfl, last.out _ _ rfl (hp) g1 g2, g2⟩
  · have d3 : ((at_ : Int) == 0) = false := by rw [beq_eq_false_iff_ne]; omega
    by_cases g0 : block = 0
    · have d2 : (block == 0) = true := by simp [g0]
      have ht : PVer.take ⟨todo, at_, block⟩ ⟨gw, gt⟩ = ⟨todo, todo.length, block⟩ := by simp [PVer.take, ha, h0, g0]
      rw [ht]
      clear ht
      replace g0 := Lib.hid g0
      go_enter Tryz.func172, Tryz.ntmps172
      go_wp2_with fail
      go_quiet (fail)
      go_wp2_with fail
      refine gen_world (α := fun W' => bodyPost _ _ _ _ _ W') (fun W' => Blk W' b 204 (PVer.cells ⟨todo, todo.length, block⟩ ar c) ∧ Chg (fun k => k = b) w W') ⟨?_, ?_⟩ ?_
      · refine Blk.eq_cs (cs := (((#[.slice (some ⟨ar, 0, none⟩) todo.length c, .int .i64 (at_ : Nat), .int .u64 block] : Array Value).setIfInBounds 1 (.int .i64 ((at_ : Int) + 1))).setIfInBounds 1 (.int .i64 (todo.length : Nat)))) ?_ rfl
        have hB := hB.out
        (repeat first | with_reducible exact hB | with_reducible refine Blk.drewN ?_ _ | with_reducible refine Blk.drew ?_ | with_reducible refine Blk.alloc ?_ _ | with_reducible refine Blk.set_ ?_ _ _ | refine Blk.far ?_ (by simp; omega) _)
      · (repeat first | with_reducible exact Chg.refl _ _ | with_reducible refine Chg.drew ?_ | with_reducible refine Chg.drewN ?_ _ | with_reducible refine Chg.alloc ?_ _ | refine Chg.setCell ?_ (by first | (left; rfl) | (left; assumption) | (right; exact Nat.le_refl _) | (right; simp; done) | (right; simp; omega)) _)
      rintro W' ⟨g1, g2⟩
      exact bodyPost_end (v := .tuple #[]) (results_none (by kernel_rfl) _ _ _) rfl ⟨rfl, last.out _ _ rfl (Nat.le_refl _) g1 g2, g2⟩
    · have d2 : (block == 0) = false := by simp [g0]
      have ht : PVer.take ⟨todo, at_, block⟩ ⟨gw, gt⟩ = ⟨todo, at_ + 1, block⟩ := by simp [PVer.take, ha, h0, g0]
      rw [ht]
      clear ht
      replace g0 := Lib.hid g0
      go_enter Tryz.func172, Tryz.ntmps172
      go_wp2_with fail
      go_quiet (fail)
      go_wp2_with fail
      refine gen_world (α := fun W' => bodyPost _ _ _ _ _ W') (fun W' => Blk W' b 204 (PVer.cells ⟨todo, at_ + 1, block⟩ ar c) ∧ Chg (fun k => k = b) w W') ⟨?_, ?_⟩ ?_
      · refine Blk.eq_cs (cs := ((#[.slice (some ⟨ar, 0, none⟩) todo.length c, .int .i64 (at_ : Nat), .int .u64 block] : Array Value).setIfInBounds 1 (.int .i64 ((at_ : Int) + 1)))) ?_ rfl
        have hB := hB.out
        (repeat first | with_reducible exact hB | with_reducible refine Blk.drewN ?_ _ | with_reducible refine Blk.drew ?_ | with_reducible refine Blk.alloc ?_ _ | with_reducible refine Blk.set_ ?_ _ _ | refine Blk.far ?_ (by simp; omega) _)
      · (repeat first | with_reducible exact Chg.refl _ _ | with_reducible refine Chg.drew ?_ | with_reducible refine Chg.drewN ?_ _ | with_reducible refine Chg.alloc ?_ _ | refine Chg.setCell ?_ (by first | (left; rfl) | (left; assumption) | (right; exact Nat.le_refl _) | (right; simp; done) | (right; simp; omega)) _)
      rintro W' ⟨g1, g2⟩
      exact bodyPost_end (v := .tuple #[]) (results_none (by kernel_rfl) _ _ _) rfl ⟨rfl, last.out _ _ rfl (by show at_ + 1 ≤ todo.length; omega) g1 g2, g2⟩
end Go.Proofs.YtmlnhjfdhjachaaGreat

/-
  The routine that makes a version (layer 22): the act that is next. No condition.
-/
namespace Go.Proofs.YtmlnhjfdhjachaaGreat
set_option linter.unusedVariables false
open Go.ChangeShapes Go.WideShapes Go.ChangeAt Go.RowKit
open Go.ChangeMaps (setBlock)

theorem actL_at (l : List PAct) (k : Nat) (x : PAct) (h : l[k]? = some x) (j : Nat) (hj : j < 6) : (actL l)[k * 6 + j]? = (actC x)[j]? := by
  have := flat_get actC 6 (fun _ => rfl) l k j hj
  rw [actL, this, h]
  rfl
set_option maxRecDepth 100000 in
set_option maxHeartbeats 400000 in
theorem verAct_end {w : World} {b ar c : Nat} {s : PVer} (h : VerIn w b ar c s) (he : s.at_ = s.todo.length) :
    Calls Tryz.prog 105 #[.pointer (some ⟨b, 0, none⟩)] w fun e w' => e = .returned (.tuple #[s.act.1.val, .bool s.act.2]) ∧ Below w.heap.size w w' := by
  obtain ⟨todo, at_, block⟩ := s
  simp only at he
  subst he
  have hs : PVer.act ⟨todo, todo.length, block⟩ = (noAct, false) := by simp [PVer.act]
  rw [hs]
  rw [show noAct.val = .agg #[.int .i64 0, .int .u64 0, .int .i64 0, .int .u64 0, .int .u64 0, .string ⟨#[]⟩] from rfl]
  have hB : Blk w b 204 #[.slice (some ⟨ar, 0, none⟩) todo.length c, .int .i64 (todo.length : Nat), .int .u64 block] := h.blk
  have hlt := hB.lt
  have hl : todo.length ≤ 1000000 := h.len
  have c0 := hB.cell 0
  have c1 := hB.cell 1
  have c2 := hB.cell 2
  have B2 := Blk.new w 31 #[.int .i64 0, .int .u64 0, .int .i64 0, .int .u64 0, .int .u64 0, .string ⟨#[]⟩]
  replace h := Lib.hid h
  replace hB := Lib.hid hB
  replace B2 := Lib.hid B2
  go_enter Tryz.func105, Tryz.ntmps105
  go_wp2_with fail
  go_quiet (fail)
  go_wp2_with fail
  refine gen_world (α := fun W' => bodyPost _ _ _ _ _ W') (fun W' => Blk W' w.heap.size 31 #[.int .i64 0, .int .u64 0, .int .i64 0, .int .u64 0, .int .u64 0, .string ⟨#[]⟩] ∧ Below w.heap.size w W') ⟨?_, ?_⟩ ?_
  · refine Blk.eq_cs (cs := ((((((#[.int .i64 0, .int .u64 0, .int .i64 0, .int .u64 0, .int .u64 0, .string ⟨#[]⟩] : Array Value).setIfInBounds 0 (.int .i64 0)).setIfInBounds 1 (.int .u64 0)).setIfInBounds 2 (.int .i64 0)).setIfInBounds 3 (.int .u64 0)).setIfInBounds 4 (.int .u64 0)).setIfInBounds 5 (.string ⟨#[]⟩)) ?_ rfl
    have hB := B2.out
    (repeat first | with_reducible exact hB | with_reducible refine Blk.drewN ?_ _ | with_reducible refine Blk.drew ?_ | with_reducible refine Blk.alloc ?_ _ | with_reducible refine Blk.set_ ?_ _ _ | refine Blk.far ?_ (by simp; omega) _)
  · (repeat first | with_reducible exact Below.refl _ _ | with_reducible assumption | with_reducible refine Below.drew ?_ | with_reducible refine below_drewN ?_ _ | with_reducible refine Below.more_ ?_ _ | refine Below.setCell ?_ (by first | exact Nat.le_refl _ | (simp; done) | (simp; omega)) _)
  rintro W' ⟨g1, g2⟩
  have e0 := g1.cell 0
  have e1 := g1.cell 1
  have e2 := g1.cell 2
  have e3 := g1.cell 3
  have e4 := g1.cell 4
  have e5 := g1.cell 5
  refine bodyPost_ret (v := .tuple #[.agg #[.int .i64 0, .int .u64 0, .int .i64 0, .int .u64 0, .int .u64 0, .string ⟨#[]⟩], .bool false]) (by simp [results, Tryz.results105, go_sem, e0, e1, e2, e3, e4, e5]) rfl ⟨rfl, g2⟩
set_option maxRecDepth 100000 in
set_option maxHeartbeats 400000 in
theorem verAct_some {w : World} {b ar c : Nat} {s : PVer} (h : VerIn w b ar c s) (x : PAct) (hx : s.todo[s.at_]? = some x) :
    Calls Tryz.prog 105 #[.pointer (some ⟨b, 0, none⟩)] w fun e w' => e = .returned (.tuple #[s.act.1.val, .bool s.act.2]) ∧ Below w.heap.size w w' := by
  obtain ⟨todo, at_, block⟩ := s
  simp only at hx
  have hs : PVer.act ⟨todo, at_, block⟩ = (if 0 < at_ then { x with block := block } else x, true) := by simp [PVer.act, hx]
  rw [hs]
  clear hs
  have hk : x.kind ≠ 0 := h.kinds x (List.mem_of_getElem? hx)
  have hat : at_ < todo.length := (List.getElem?_eq_some_iff.mp hx).1
  have hB : Blk w b 204 #[.slice (some ⟨ar, 0, none⟩) todo.length c, .int .i64 (at_ : Nat), .int .u64 block] := h.blk
  have hlt := hB.lt
  have har := h.lt
  have hl : todo.length ≤ 1000000 := h.len
  have r := fun j hj u hu => h.got (at_ * 6 + j) u ((actL_at todo at_ x hx j hj).trans hu)
  obtain ⟨k, bb, cc, o, n, t⟩ := x
  simp only at hk
  have r0 : w.cell? ⟨ar, at_ * 6, none⟩ = some (.int .i64 k) := r 0 (by omega) _ rfl
  have r1 : w.cell? ⟨ar, at_ * 6 + 1, none⟩ = some (.int .u64 bb) := r 1 (by omega) _ rfl
  have r2 : w.cell? ⟨ar, at_ * 6 + 2, none⟩ = some (.int .i64 cc) := r 2 (by omega) _ rfl
  have r3 : w.cell? ⟨ar, at_ * 6 + 3, none⟩ = some (.int .u64 o) := r 3 (by omega) _ rfl
  have r4 : w.cell? ⟨ar, at_ * 6 + 4, none⟩ = some (.int .u64 n) := r 4 (by omega) _ rfl
  have r5 : w.cell? ⟨ar, at_ * 6 + 5, none⟩ = some (.string t) := r 5 (by omega) _ rfl
  clear r
  have c0 := hB.cell 0
  have c1 := hB.cell 1
  have c2 := hB.cell 2
  have B2 := Blk.new w 31 #[.int .i64 0, .int .u64 0, .int .i64 0, .int .u64 0, .int .u64 0, .string ⟨#[]⟩]
  have d1 : ((at_ : Int) == (todo.length : Int)) = false := by rw [beq_eq_false_iff_ne]; omega
  have i1 : (0 : Int) ≤ (at_ : Int) := by omega
  have i2 : (at_ : Int) < (todo.length : Int) := by omega
  replace h := Lib.hid h
  replace hx := Lib.hid hx
  replace hB := Lib.hid hB
  replace B2 := Lib.hid B2
  go_enter Tryz.func105, Tryz.ntmps105
  go_wp2_with fail
  go_quiet (fail)
  go_wp2_with fail
  go_region
  have B3 : Blk (((w.alloc (.cells #[.int .i64 0, .int .u64 0, .int .i64 0, .int .u64 0, .int .u64 0, .string ⟨#[]⟩] 31)).drewN (nq + 1)).alloc (.cells #[.int .i64 k, .int .u64 bb, .int .i64 cc, .int .u64 o, .int .u64 n, .string t] 31)) (w.alloc (.cells #[.int .i64 0, .int .u64 0, .int .i64 0, .int .u64 0, .int .u64 0, .string ⟨#[]⟩] 31)).heap.size 31 #[.int .i64 k, .int .u64 bb, .int .i64 cc, .int .u64 o, .int .u64 n, .string t] := Blk.new ((w.alloc (.cells #[.int .i64 0, .int .u64 0, .int .i64 0, .int .u64 0, .int .u64 0, .string ⟨#[]⟩] 31)).drewN (nq + 1)) 31 #[.int .i64 k, .int .u64 bb, .int .i64 cc, .int .u64 o, .int .u64 n, .string t]
  simp only [World.size_alloc] at B3
  clear r0 r1 r2 r3 r4 r5 c0 c1 c2
  refine gen_world (α := fun W' => Exit.then _ _ _ _ W') (fun W' => Blk W' w.heap.size 31 #[.int .i64 0, .int .u64 0, .int .i64 0, .int .u64 0, .int .u64 0, .string ⟨#[]⟩] ∧ Blk W' (w.heap.size + 1) 31 #[.int .i64 k, .int .u64 bb, .int .i64 cc, .int .u64 o, .int .u64 n, .string t] ∧ Blk W' b 204 #[.slice (some ⟨ar, 0, none⟩) todo.length c, .int .i64 (at_ : Nat), .int .u64 block] ∧ Below w.heap.size w W') ⟨?_, B3, ?_, ?_⟩ ?_
  · have B2 := B2.out
    (repeat first | with_reducible exact B2 | with_reducible refine Blk.drewN ?_ _ | with_reducible refine Blk.drew ?_ | with_reducible refine Blk.alloc ?_ _ | with_reducible refine Blk.set_ ?_ _ _ | refine Blk.far ?_ (by simp; omega) _)
  · have hB := hB.out
    (repeat first | with_reducible exact hB | with_reducible refine Blk.drewN ?_ _ | with_reducible refine Blk.drew ?_ | with_reducible refine Blk.alloc ?_ _ | with_reducible refine Blk.set_ ?_ _ _ | refine Blk.far ?_ (by simp; omega) _)
  · (repeat first | with_reducible exact Below.refl _ _ | with_reducible assumption | with_reducible refine Below.drew ?_ | with_reducible refine below_drewN ?_ _ | with_reducible refine Below.more_ ?_ _ | refine Below.setCell ?_ (by first | exact Nat.le_refl _ | (simp; done) | (simp; omega)) _)
  rintro W1 ⟨j1, j2, j3, j4⟩
  clear B3
  have z0 := j1.cell 0
  have z1 := j1.cell 1
  have z2 := j1.cell 2
  have z3 := j1.cell 3
  have z4 := j1.cell 4
  have z5 := j1.cell 5
  have a0 := j1.frozen 0
  have a1 := j1.frozen 1
  have a2 := j1.frozen 2
  have a3 := j1.frozen 3
  have a4 := j1.frozen 4
  have a5 := j1.frozen 5
  have b0 := j2.cell 0
  have b1 := j2.cell 1
  have b2 := j2.cell 2
  have b3 := j2.cell 3
  have b4 := j2.cell 4
  have b5 := j2.cell 5
  have bf := j2.frozen 1
  have c1 := j3.cell 1
  have c2 := j3.cell 2
  have kz : (k == 0) = false := by simp [hk]
  replace j1 := Lib.hid j1
  replace j2 := Lib.hid j2
  replace j3 := Lib.hid j3
  replace j4 := Lib.hid j4
  by_cases hp : 0 < at_
  · have d2 : decide ((0 : Int) < (at_ : Int)) = true := by simp; omega
    go_wp2_with fail
    go_region
    refine gen_world (α := fun W' => Exit.then _ _ _ _ W') (fun W' => Blk W' w.heap.size 31 #[.int .i64 k, .int .u64 block, .int .i64 cc, .int .u64 o, .int .u64 n, .string t] ∧ Below w.heap.size w W') ⟨?_, ?_⟩ ?_
    · refine Blk.eq_cs (cs := (((((((#[.int .i64 0, .int .u64 0, .int .i64 0, .int .u64 0, .int .u64 0, .string ⟨#[]⟩] : Array Value).setIfInBounds 0 (.int .i64 k)).setIfInBounds 1 (.int .u64 block)).setIfInBounds 2 (.int .i64 cc)).setIfInBounds 3 (.int .u64 o)).setIfInBounds 4 (.int .u64 n)).setIfInBounds 5 (.string t))) ?_ rfl
      have B2 := j1.out
      (repeat first | with_reducible exact B2 | with_reducible refine Blk.drewN ?_ _ | with_reducible refine Blk.drew ?_ | with_reducible refine Blk.alloc ?_ _ | with_reducible refine Blk.set_ ?_ _ _ | refine Blk.far ?_ (by simp; omega) _)
      exact Blk.far B2 (by show w.heap.size ≠ w.heap.size + 1; omega) _
    · have hB := j4.out
      repeat first | with_reducible exact hB | with_reducible refine Below.drew ?_ | refine Below.setCell ?_ (by first | exact Nat.le_refl _ | (simp; done) | (simp; omega)) _
    rintro W2 ⟨m1, m2⟩
    clear a0 a1 a2 a3 a4 a5 b0 b1 b2 b3 b4 b5 bf c1 c2 z0 z1 z2 z3 z4 z5
    have e0 := m1.cell 0
    have e1 := m1.cell 1
    have e2 := m1.cell 2
    have e3 := m1.cell 3
    have e4 := m1.cell 4
    have e5 := m1.cell 5
    replace m1 := Lib.hid m1
    replace m2 := Lib.hid m2
    go_wp2_with fail
    refine bodyPost_ret (v := .tuple #[.agg #[.int .i64 k, .int .u64 block, .int .i64 cc, .int .u64 o, .int .u64 n, .string t], .bool true]) (by simp [results, Tryz.results105, go_sem, e0, e1, e2, e3, e4, e5]) rfl ⟨by simp [PAct.val], m2.out⟩
  · have d2 : decide ((0 : Int) < (at_ : Int)) = false := by simp; omega
    go_wp2_with fail
    go_region
    refine gen_world (α := fun W' => Exit.then _ _ _ _ W') (fun W' => Blk W' w.heap.size 31 #[.int .i64 k, .int .u64 bb, .int .i64 cc, .int .u64 o, .int .u64 n, .string t] ∧ Below w.heap.size w W') ⟨?_, ?_⟩ ?_
    · refine Blk.eq_cs (cs := (((((((#[.int .i64 0, .int .u64 0, .int .i64 0, .int .u64 0, .int .u64 0, .string ⟨#[]⟩] : Array Value).setIfInBounds 0 (.int .i64 k)).setIfInBounds 1 (.int .u64 bb)).setIfInBounds 2 (.int .i64 cc)).setIfInBounds 3 (.int .u64 o)).setIfInBounds 4 (.int .u64 n)).setIfInBounds 5 (.string t))) ?_ rfl
      have B2 := j1.out
      (repeat first | with_reducible exact B2 | with_reducible refine Blk.drewN ?_ _ | with_reducible refine Blk.drew ?_ | with_reducible refine Blk.alloc ?_ _ | with_reducible refine Blk.set_ ?_ _ _ | refine Blk.far ?_ (by simp; omega) _)
    · have hB := j4.out
      repeat first | with_reducible exact hB | with_reducible refine Below.drew ?_ | refine Below.setCell ?_ (by first | exact Nat.le_refl _ | (simp; done) | (simp; omega)) _
    rintro W2 ⟨m1, m2⟩
    clear a0 a1 a2 a3 a4 a5 b0 b1 b2 b3 b4 b5 bf c1 c2 z0 z1 z2 z3 z4 z5
    have e0 := m1.cell 0
    have e1 := m1.cell 1
    have e2 := m1.cell 2
    have e3 := m1.cell 3
    have e4 := m1.cell 4
    have e5 := m1.cell 5
    replace m1 := Lib.hid m1
    replace m2 := Lib.hid m2
    go_wp2_with fail
    refine bodyPost_ret (v := .tuple #[.agg #[.int .i64 k, .int .u64 bb, .int .i64 cc, .int .u64 o, .int .u64 n, .string t], .bool true]) (by simp [results, Tryz.results105, go_sem, e0, e1, e2, e3, e4, e5]) rfl ⟨by simp [PAct.val], m2.out⟩
end Go.Proofs.YtmlnhjfdhjachaaGreat

/-
  The routine that makes a version (layer 22): how it is made. No condition.
-/
namespace Go.Proofs.YtmlnhjfdhjachaaGreat
set_option linter.unusedVariables false
open Go.ChangeShapes Go.WideShapes Go.ChangeAt Go.RowKit
open Go.ChangeMaps (setBlock)

def verTodo (epoch next : Int) (c : PChange) : List PAct :=
  ⟨5, 0, 3, 0, 0, if c.has then c.value else ByteArray.empty⟩ :: ⟨2, 0, 0, 0, epoch, ByteArray.empty⟩ ::
    ((if next = 0 then [] else [⟨2, 0, 1, 0, next, ByteArray.empty⟩]) ++ (if c.has then [⟨2, 0, 2, 0, 1, ByteArray.empty⟩] else []))
def newVer (epoch next : Int) (c : PChange) : PVer := ⟨verTodo epoch next c, 0, 0⟩
theorem reads_blk {w : World} {g : Nat} {t : TypeId} {cs : Array Value} (h : Blk w g t cs) (k : Nat) (hk : cs.size = k) : Reads w (g + 1) k (some ⟨g, 0, none⟩) 1 cs.toList := by
  refine ⟨by simp [hk], fun _ => ⟨_, rfl, by show g < g + 1; omega, fun j u hu => ?_⟩⟩
  have := h.cell j
  have e : (⟨g, 0, none⟩ : Addr).add j = ⟨g, j, none⟩ := by unfold Addr.add; split <;> simp_all
  rw [e, this]
  simpa using hu
theorem ownsRow_blk {w : World} {g base : Nat} {t : TypeId} {cs : Array Value} (h : Blk w g t cs) (k : Nat) (hk : cs.size = k) (hb : base ≤ g) : w.ownsRow base t k (.slice (some ⟨g, 0, none⟩) 1 1) 1 cs.toList := by
  refine ⟨by simp [hk], .inr ⟨g, 1, cs, rfl, hb, h, Nat.le_refl _, by unfold maxLen; omega, by omega, ?_⟩⟩
  have : cs.toList.length = 1 * k := by simp [hk]
  rw [← this, List.take_length]
theorem own_ne_blk {w : World} {base : Nat} {e t : TypeId} {size n g : Nat} {v : Value} {xs : List Value} {cs : Array Value} (h : w.ownsRow base e size v n xs) (hg : Blk w g t cs) (hne : e ≠ t) : some g ≠ v.ownBlock := fun e' => own_blk_ne h hg hne e'.symm
theorem actL_snoc (l : List PAct) (x : PAct) : actL l ++ [.int .i64 x.kind, .int .u64 x.block, .int .i64 x.cell, .int .u64 x.old, .int .u64 x.new, .string x.text] = actL (l ++ [x]) := by
  simp [actL, actC]
theorem own_below_ {B : Nat} {w wr w1 : World} {e : TypeId} {size n : Nat} {v : Value} {xs : List Value} (hB : B ≤ w.heap.size) (h : Below B w wr) (ho : wr.ownsRow B e size v n xs) (hg : wr.grownBy w1 v.ownBlock) : Below B w w1 :=
  ⟨hg.os.trans h.os, hg.tape.trans h.tape, hg.output.trans h.output, Nat.le_trans h.size hg.size, fun i hi => (hg.block i (Nat.lt_of_lt_of_le (Nat.lt_of_lt_of_le hi hB) h.size) (fun e' => by have := (World.ownsRow.lt ho _ e'.symm).1; omega)).trans (h.block i hi)⟩
/-- What lies behind some words. -/
def verPre (e n lv : Int) (t : ByteArray) (k : Int) : List PAct :=
  ⟨5, 0, 3, 0, 0, t⟩ :: ((if k < 1 then [] else [⟨2, 0, 0, 0, e, ByteArray.empty⟩]) ++ (if k < 2 ∨ n = 0 then [] else [⟨2, 0, 1, 0, n, ByteArray.empty⟩]) ++ (if k < 3 ∨ lv = 0 then [] else [⟨2, 0, 2, 0, lv, ByteArray.empty⟩]))
def NewRel (w : World) (e n lv : Int) (t : ByteArray) (bx : Nat) (i : Value) (wr : World) : Prop :=
  ∃ (k : Int) (A : Option Addr) (c : Nat), (k = 0 ∨ k = 1 ∨ k = 2 ∨ k = 3) ∧ i = .int .i64 k ∧
    Blk wr bx 204 #[.slice A (verPre e n lv t k).length c, .int .i64 0, .int .u64 0] ∧
    wr.ownsRow w.heap.size 31 6 (.slice A (verPre e n lv t k).length c) (verPre e n lv t k).length (actL (verPre e n lv t k)) ∧ Below w.heap.size w wr
theorem own_far {w : World} {base : Nat} {e : TypeId} {size n : Nat} {v : Value} {xs : List Value} (h : w.ownsRow base e size v n xs) {p : Addr} (hp : some p.block ≠ v.ownBlock) (u : Value) : (w.setCell p u).ownsRow base e size v n xs :=
  ⟨h.1, h.2.imp id fun ⟨g, cap, cur, e1, e2, e3, r⟩ => ⟨g, cap, cur, e1, e2, (Below.heap_setCell w p u g (fun e' => hp (by rw [e1, ← e']; rfl))).trans e3, r⟩⟩
theorem new_step {w w1 : World} {l l' : List PAct} {x : PAct} {bx g c cap : Nat} {A : Option Addr} (hbx : w.heap.size ≤ bx)
    (g1 : Blk w1 bx 204 #[.slice A l.length c, .int .i64 0, .int .u64 0])
    (hown : w1.ownsRow w.heap.size 31 6 (.slice (some ⟨g, 0, none⟩) (l.length + 1) cap) (l.length + 1) (actL (l ++ [x])))
    (hb : Below w.heap.size w w1) (hl : l ++ [x] = l') :
    Blk (w1.setCell ⟨bx, 0, none⟩ (.slice (some ⟨g, 0, none⟩) ((l.length : Int) + 1).toNat cap)) bx 204 #[.slice (some ⟨g, 0, none⟩) l'.length cap, .int .i64 0, .int .u64 0] ∧
    (w1.setCell ⟨bx, 0, none⟩ (.slice (some ⟨g, 0, none⟩) ((l.length : Int) + 1).toNat cap)).ownsRow w.heap.size 31 6 (.slice (some ⟨g, 0, none⟩) l'.length cap) l'.length (actL l') ∧
    Below w.heap.size w (w1.setCell ⟨bx, 0, none⟩ (.slice (some ⟨g, 0, none⟩) ((l.length : Int) + 1).toNat cap)) := by
  subst hl
  have e : ((l.length : Int) + 1).toNat = l.length + 1 := by omega
  rw [e, List.length_append]
  refine ⟨Blk.eq_cs (g1.set_ 0 _) (by simp), own_far hown (own_ne_blk hown g1 (by decide)) _, hb.setCell hbx _⟩
theorem words0 (a b c : Int) (w : World) : (Instr.index 205 (.agg #[.int .u64 a, .int .u64 b, .int .u64 c]) (.int .i64 0)).run Tryz.prog w = .ok (.int .u64 a) w := by kernel_rfl
theorem words1 (a b c : Int) (w : World) : (Instr.index 205 (.agg #[.int .u64 a, .int .u64 b, .int .u64 c]) (.int .i64 1)).run Tryz.prog w = .ok (.int .u64 b) w := by kernel_rfl
theorem words2 (a b c : Int) (w : World) : (Instr.index 205 (.agg #[.int .u64 a, .int .u64 b, .int .u64 c]) (.int .i64 2)).run Tryz.prog w = .ok (.int .u64 c) w := by kernel_rfl
theorem verPre_len (e n lv : Int) (t : ByteArray) (k : Int) : 0 < (verPre e n lv t k).length ∧ (verPre e n lv t k).length ≤ 4 := by
  unfold verPre
  simp only [List.length_cons, List.length_append]
  split <;> split <;> split <;> simp
theorem verPre_kind (e n lv : Int) (t : ByteArray) (k : Int) : ∀ x ∈ verPre e n lv t k, x.kind ≠ 0 := by
  unfold verPre
  intro x hx
  simp only [List.mem_cons, List.mem_append] at hx
  rcases hx with rfl | (hx | hx) | hx
  · show (5 : Int) ≠ 0; decide
  · split at hx
    · simp at hx
    · simp at hx; subst hx; show (2 : Int) ≠ 0; decide
  · split at hx
    · simp at hx
    · simp at hx; subst hx; show (2 : Int) ≠ 0; decide
  · split at hx
    · simp at hx
    · simp at hx; subst hx; show (2 : Int) ≠ 0; decide
theorem new_end {w wr : World} {e n lv : Int} {t : ByteArray} {bx c : Nat} {A : Option Addr} (hbx : w.heap.size ≤ bx)
    (hB : Blk wr bx 204 #[.slice A (verPre e n lv t 3).length c, .int .i64 0, .int .u64 0])
    (hown : wr.ownsRow w.heap.size 31 6 (.slice A (verPre e n lv t 3).length c) (verPre e n lv t 3).length (actL (verPre e n lv t 3))) :
    ∃ ar, VerIn wr bx ar c ⟨verPre e n lv t 3, 0, 0⟩ ∧ w.heap.size ≤ ar := by
  have hl := verPre_len e n lv t 3
  have hne := own_ne_blk hown hB (by decide)
  obtain ⟨g, cap, hv, hg, hlt⟩ := hown.form hl.1
  have hA : A = some ⟨g, 0, none⟩ ∧ c = cap := by injection hv with h1 h2 h3; exact ⟨h1, h3⟩
  obtain ⟨rfl, rfl⟩ := hA
  refine ⟨g, ⟨hB, fun j u hj => ?_, hlt, fun e => hne (by rw [e]; rfl), by show (verPre e n lv t 3).length ≤ _; omega, hl.1, Nat.zero_le _, verPre_kind _ _ _ _ _⟩, hg⟩
  have := hown.cells (g := g) rfl j u hj
  have e : (⟨g, 0, none⟩ : Addr).add j = ⟨g, j, none⟩ := by unfold Addr.add; split <;> simp_all
  rwa [e] at this
set_option maxRecDepth 100000 in
set_option maxHeartbeats 1000000 in
theorem verNew_any (w : World) (epoch next : Int) (c : PChange) :
    Calls Tryz.prog 89 #[.int .u64 epoch, .int .u64 next, c.val] w fun e w' => ∃ b ar cc, e = .returned (.pointer (some ⟨b, 0, none⟩)) ∧ VerIn w' b ar cc (newVer epoch next c) ∧ w.heap.size ≤ b ∧ w.heap.size ≤ ar ∧ Below w.heap.size w w' := by
  obtain ⟨key, has, value⟩ := c
  rw [show PChange.val ⟨key, has, value⟩ = .agg #[.string key, .bool has, .string value] from rfl]
  obtain ⟨i0, hi, hz0, hz1, hz2⟩ : ∃ i, Tryz.prog.info? 31 = some i ∧ i.zero = some (.agg #[.int .i64 0, .int .u64 0, .int .i64 0, .int .u64 0, .int .u64 0, .string ⟨#[]⟩]) ∧ i.size = 6 ∧ i.bytes = 56 := ⟨_, rfl, rfl, rfl, rfl⟩
  have W0 := words0
  have W1 := words1
  have W2 := words2
  cases has with
  | false =>
    have hN : verTodo epoch next ⟨key, false, value⟩ = verPre epoch next 0 ByteArray.empty 3 := by simp [verTodo, verPre]
    have hNV : newVer epoch next ⟨key, false, value⟩ = ⟨verPre epoch next 0 ByteArray.empty 3, 0, 0⟩ := by rw [newVer, hN]
    rw [hNV]
    clear hN hNV
    go_enter Tryz.func89, Tryz.ntmps89
    go_wp2_with fail
    go_loopw [32] (fun i wr => NewRel w epoch next 0 ByteArray.empty (w.heap.size + 2) i wr) (fun i _ => (3 - intOf i).toNat)
    case atStart =>
      have B1 := ((Blk.new (w.alloc (.cells #[.string key, .bool false, .string value] 57)) 31 #[.int .i64 5, .int .u64 0, .int .i64 3, .int .u64 0, .int .u64 0, .string ⟨#[]⟩]).alloc (.cells #[.slice (some ⟨w.heap.size + 1, 0, none⟩) 1 1, .int .i64 0, .int .u64 0] 204)).alloc (.cells #[.int .u64 epoch, .int .u64 next, .int .u64 0] 205)
      have B2 := (Blk.new ((w.alloc (.cells #[.string key, .bool false, .string value] 57)).alloc (.cells #[.int .i64 5, .int .u64 0, .int .i64 3, .int .u64 0, .int .u64 0, .string ⟨#[]⟩] 31)) 204 #[.slice (some ⟨w.heap.size + 1, 0, none⟩) 1 1, .int .i64 0, .int .u64 0]).alloc (.cells #[.int .u64 epoch, .int .u64 next, .int .u64 0] 205)
      simp only [World.size_alloc] at B1 B2
      exact ⟨0, some ⟨w.heap.size + 1, 0, none⟩, 1, .inl rfl, rfl, B2, ownsRow_blk B1 6 rfl (by omega), ((((Below.refl _ _).alloc (Nat.le_refl _) _).alloc (by simp) _).alloc (by simp; omega) _).alloc (by simp; omega) _⟩
    case round =>
      obtain ⟨k, A, c, hk, rfl, hB, hown, hb⟩ := hrel
      have c0 := hB.cell 0
      have hbx : w.heap.size ≤ w.heap.size + 2 := by omega
      have hl := verPre_len epoch next 0 ByteArray.empty k
      replace hl := Lib.hid hl
      replace hB := Lib.hid hB
      replace hown := Lib.hid hown
      replace hb := Lib.hid hb
      rcases hk with rfl | rfl | rfl | rfl
      · by_cases e0 : epoch = 0
        · subst e0
          go_wp2_with (at_builtin; go_loud (refine wpList_append_any _ rfl _ _ 202 rfl w.heap.size 31 i0 (.agg #[.int .i64 0, .int .u64 0, .int .i64 0, .int .u64 0, .int .u64 0, .string ⟨#[]⟩]) 6 56 Tryz.underlying202 hi hz0 hz1 hz2 rfl (by decide) _ _ _ rfl (hown.out.alloc _) (wr.heap.size + 1) (some ⟨wr.heap.size, 0, none⟩) 1 1 (actC ⟨2, 0, 0, 0, 0, ByteArray.empty⟩) rfl (reads_blk (Blk.new wr 31 _) 6 rfl) (by simp [actC, Value.oneCell']) (by have := hl.out; unfold maxLen; omega) (by have := hl.out; omega) (by have := hb.out.size; simp; omega) ?_; intro v' w1 hown1 hgrow hloc; rw [show actC ⟨2, 0, 0, 0, 0, ByteArray.empty⟩ = [.int .i64 2, .int .u64 0, .int .i64 0, .int .u64 0, .int .u64 0, .string ByteArray.empty] from rfl, actL_snoc _ ⟨2, 0, 0, 0, 0, ByteArray.empty⟩] at hown1; obtain ⟨g, cap, rfl, hg1, hg2⟩ := hown1.form (by omega); have g1 := (hB.out.alloc (.cells #[.int .i64 2, .int .u64 0, .int .i64 0, .int .u64 0, .int .u64 0, .string ⟨#[]⟩] 31)).grown hgrow (own_ne_blk hown.out hB.out (by decide)); have hb1 := own_below_ (Nat.le_refl _) (Below.more_ hb.out _) (hown.out.alloc _) hgrow; have g10 := g1.cell 0; have f10 := g1.frozen 0; replace g1 := Lib.hid g1; replace hb1 := Lib.hid hb1; replace hown1 := Lib.hid hown1; replace hgrow := Lib.hid hgrow))
          go_roundw
          case rel => exact ⟨1, _, _, by decide, rfl, new_step hbx g1.out hown1.out hb1.out (by simp [verPre])⟩
          case measure => simp [intOf]
        · have d0 : (epoch == 0) = false := by simp [e0]
          go_wp2_with (at_builtin; go_loud (refine wpList_append_any _ rfl _ _ 202 rfl w.heap.size 31 i0 (.agg #[.int .i64 0, .int .u64 0, .int .i64 0, .int .u64 0, .int .u64 0, .string ⟨#[]⟩]) 6 56 Tryz.underlying202 hi hz0 hz1 hz2 rfl (by decide) _ _ _ rfl (hown.out.alloc _) (wr.heap.size + 1) (some ⟨wr.heap.size, 0, none⟩) 1 1 (actC ⟨2, 0, 0, 0, epoch, ByteArray.empty⟩) rfl (reads_blk (Blk.new wr 31 _) 6 rfl) (by simp [actC, Value.oneCell']) (by have := hl.out; unfold maxLen; omega) (by have := hl.out; omega) (by have := hb.out.size; simp; omega) ?_; intro v' w1 hown1 hgrow hloc; rw [show actC ⟨2, 0, 0, 0, epoch, ByteArray.empty⟩ = [.int .i64 2, .int .u64 0, .int .i64 0, .int .u64 0, .int .u64 epoch, .string ByteArray.empty] from rfl, actL_snoc _ ⟨2, 0, 0, 0, epoch, ByteArray.empty⟩] at hown1; obtain ⟨g, cap, rfl, hg1, hg2⟩ := hown1.form (by omega); have g1 := (hB.out.alloc (.cells #[.int .i64 2, .int .u64 0, .int .i64 0, .int .u64 0, .int .u64 epoch, .string ⟨#[]⟩] 31)).grown hgrow (own_ne_blk hown.out hB.out (by decide)); have hb1 := own_below_ (Nat.le_refl _) (Below.more_ hb.out _) (hown.out.alloc _) hgrow; have g10 := g1.cell 0; have f10 := g1.frozen 0; replace g1 := Lib.hid g1; replace hb1 := Lib.hid hb1; replace hown1 := Lib.hid hown1; replace hgrow := Lib.hid hgrow))
          go_roundw
          case rel => exact ⟨1, _, _, by decide, rfl, new_step hbx g1.out hown1.out hb1.out (by simp [verPre])⟩
          case measure => simp [intOf]
      · by_cases e0 : next = 0
        · subst e0
          go_wp2_with fail
          go_roundw
          case rel =>
            have e : verPre epoch 0 0 ByteArray.empty 1 = verPre epoch 0 0 ByteArray.empty 2 := by simp [verPre]
            exact ⟨2, A, c, by decide, rfl, e ▸ hB.out, e ▸ hown.out, hb.out⟩
          case measure => simp [intOf]
        · have d0 : (next == 0) = false := by simp [e0]
          go_wp2_with (at_builtin; go_loud (refine wpList_append_any _ rfl _ _ 202 rfl w.heap.size 31 i0 (.agg #[.int .i64 0, .int .u64 0, .int .i64 0, .int .u64 0, .int .u64 0, .string ⟨#[]⟩]) 6 56 Tryz.underlying202 hi hz0 hz1 hz2 rfl (by decide) _ _ _ rfl (hown.out.alloc _) (wr.heap.size + 1) (some ⟨wr.heap.size, 0, none⟩) 1 1 (actC ⟨2, 0, 1, 0, next, ByteArray.empty⟩) rfl (reads_blk (Blk.new wr 31 _) 6 rfl) (by simp [actC, Value.oneCell']) (by have := hl.out; unfold maxLen; omega) (by have := hl.out; omega) (by have := hb.out.size; simp; omega) ?_; intro v' w1 hown1 hgrow hloc; rw [show actC ⟨2, 0, 1, 0, next, ByteArray.empty⟩ = [.int .i64 2, .int .u64 0, .int .i64 1, .int .u64 0, .int .u64 next, .string ByteArray.empty] from rfl, actL_snoc _ ⟨2, 0, 1, 0, next, ByteArray.empty⟩] at hown1; obtain ⟨g, cap, rfl, hg1, hg2⟩ := hown1.form (by omega); have g1 := (hB.out.alloc (.cells #[.int .i64 2, .int .u64 0, .int .i64 1, .int .u64 0, .int .u64 next, .string ⟨#[]⟩] 31)).grown hgrow (own_ne_blk hown.out hB.out (by decide)); have hb1 := own_below_ (Nat.le_refl _) (Below.more_ hb.out _) (hown.out.alloc _) hgrow; have g10 := g1.cell 0; have f10 := g1.frozen 0; replace g1 := Lib.hid g1; replace hb1 := Lib.hid hb1; replace hown1 := Lib.hid hown1; replace hgrow := Lib.hid hgrow))
          go_roundw
          case rel => exact ⟨2, _, _, by decide, rfl, new_step hbx g1.out hown1.out hb1.out (by simp [verPre, e0])⟩
          case measure => simp [intOf]
      · go_wp2_with fail
        go_roundw
        case rel =>
          have e : verPre epoch next 0 ByteArray.empty 2 = verPre epoch next 0 ByteArray.empty 3 := by simp [verPre]
          exact ⟨3, A, c, by decide, rfl, e ▸ hB.out, e ▸ hown.out, hb.out⟩
        case measure => simp [intOf]
      · go_wp2_with fail
        obtain ⟨ar, hV, har⟩ := new_end hbx hB.out hown.out
        refine bodyPost_ret (v := .pointer (some ⟨w.heap.size + 2, 0, none⟩)) (by simp [results, Tryz.results89, go_sem]) rfl ⟨_, _, _, rfl, hV, hbx, har, hb.out⟩
  | true =>
    have hN : verTodo epoch next ⟨key, true, value⟩ = verPre epoch next 1 value 3 := by simp [verTodo, verPre]
    have hNV : newVer epoch next ⟨key, true, value⟩ = ⟨verPre epoch next 1 value 3, 0, 0⟩ := by rw [newVer, hN]
    rw [hNV]
    clear hN hNV
    go_enter Tryz.func89, Tryz.ntmps89
    go_wp2_with fail
    go_region
    go_wp2_with fail
    go_loopw [32] (fun i wr => NewRel w epoch next 1 value (w.heap.size + 2) i wr) (fun i _ => (3 - intOf i).toNat)
    case atStart =>
      have B1 := (((Blk.new (w.alloc (.cells #[.string key, .bool true, .string value] 57)) 31 #[.int .i64 5, .int .u64 0, .int .i64 3, .int .u64 0, .int .u64 0, .string value]).alloc (.cells #[.slice (some ⟨w.heap.size + 1, 0, none⟩) 1 1, .int .i64 0, .int .u64 0] 204)).alloc (.cells #[.int .u64 epoch, .int .u64 next, .int .u64 1] 205)).drew
      have B2 := ((Blk.new ((w.alloc (.cells #[.string key, .bool true, .string value] 57)).alloc (.cells #[.int .i64 5, .int .u64 0, .int .i64 3, .int .u64 0, .int .u64 0, .string value] 31)) 204 #[.slice (some ⟨w.heap.size + 1, 0, none⟩) 1 1, .int .i64 0, .int .u64 0]).alloc (.cells #[.int .u64 epoch, .int .u64 next, .int .u64 1] 205)).drew
      simp only [World.size_alloc] at B1 B2
      exact ⟨0, some ⟨w.heap.size + 1, 0, none⟩, 1, .inl rfl, rfl, B2, ownsRow_blk B1 6 rfl (by omega), (((((Below.refl _ _).alloc (Nat.le_refl _) _).alloc (by simp) _).alloc (by simp; omega) _).alloc (by simp; omega) _).drew⟩
    case round =>
      obtain ⟨k, A, c, hk, rfl, hB, hown, hb⟩ := hrel
      have c0 := hB.cell 0
      have hbx : w.heap.size ≤ w.heap.size + 2 := by omega
      have hl := verPre_len epoch next 1 value k
      replace hl := Lib.hid hl
      replace hB := Lib.hid hB
      replace hown := Lib.hid hown
      replace hb := Lib.hid hb
      rcases hk with rfl | rfl | rfl | rfl
      · by_cases e0 : epoch = 0
        · subst e0
          go_wp2_with (at_builtin; go_loud (refine wpList_append_any _ rfl _ _ 202 rfl w.heap.size 31 i0 (.agg #[.int .i64 0, .int .u64 0, .int .i64 0, .int .u64 0, .int .u64 0, .string ⟨#[]⟩]) 6 56 Tryz.underlying202 hi hz0 hz1 hz2 rfl (by decide) _ _ _ rfl (hown.out.alloc _) (wr.heap.size + 1) (some ⟨wr.heap.size, 0, none⟩) 1 1 (actC ⟨2, 0, 0, 0, 0, ByteArray.empty⟩) rfl (reads_blk (Blk.new wr 31 _) 6 rfl) (by simp [actC, Value.oneCell']) (by have := hl.out; unfold maxLen; omega) (by have := hl.out; omega) (by have := hb.out.size; simp; omega) ?_; intro v' w1 hown1 hgrow hloc; rw [show actC ⟨2, 0, 0, 0, 0, ByteArray.empty⟩ = [.int .i64 2, .int .u64 0, .int .i64 0, .int .u64 0, .int .u64 0, .string ByteArray.empty] from rfl, actL_snoc _ ⟨2, 0, 0, 0, 0, ByteArray.empty⟩] at hown1; obtain ⟨g, cap, rfl, hg1, hg2⟩ := hown1.form (by omega); have g1 := (hB.out.alloc (.cells #[.int .i64 2, .int .u64 0, .int .i64 0, .int .u64 0, .int .u64 0, .string ⟨#[]⟩] 31)).grown hgrow (own_ne_blk hown.out hB.out (by decide)); have hb1 := own_below_ (Nat.le_refl _) (Below.more_ hb.out _) (hown.out.alloc _) hgrow; have g10 := g1.cell 0; have f10 := g1.frozen 0; replace g1 := Lib.hid g1; replace hb1 := Lib.hid hb1; replace hown1 := Lib.hid hown1; replace hgrow := Lib.hid hgrow))
          go_roundw
          case rel => exact ⟨1, _, _, by decide, rfl, new_step hbx g1.out hown1.out hb1.out (by simp [verPre])⟩
          case measure => simp [intOf]
        · have d0 : (epoch == 0) = false := by simp [e0]
          go_wp2_with (at_builtin; go_loud (refine wpList_append_any _ rfl _ _ 202 rfl w.heap.size 31 i0 (.agg #[.int .i64 0, .int .u64 0, .int .i64 0, .int .u64 0, .int .u64 0, .string ⟨#[]⟩]) 6 56 Tryz.underlying202 hi hz0 hz1 hz2 rfl (by decide) _ _ _ rfl (hown.out.alloc _) (wr.heap.size + 1) (some ⟨wr.heap.size, 0, none⟩) 1 1 (actC ⟨2, 0, 0, 0, epoch, ByteArray.empty⟩) rfl (reads_blk (Blk.new wr 31 _) 6 rfl) (by simp [actC, Value.oneCell']) (by have := hl.out; unfold maxLen; omega) (by have := hl.out; omega) (by have := hb.out.size; simp; omega) ?_; intro v' w1 hown1 hgrow hloc; rw [show actC ⟨2, 0, 0, 0, epoch, ByteArray.empty⟩ = [.int .i64 2, .int .u64 0, .int .i64 0, .int .u64 0, .int .u64 epoch, .string ByteArray.empty] from rfl, actL_snoc _ ⟨2, 0, 0, 0, epoch, ByteArray.empty⟩] at hown1; obtain ⟨g, cap, rfl, hg1, hg2⟩ := hown1.form (by omega); have g1 := (hB.out.alloc (.cells #[.int .i64 2, .int .u64 0, .int .i64 0, .int .u64 0, .int .u64 epoch, .string ⟨#[]⟩] 31)).grown hgrow (own_ne_blk hown.out hB.out (by decide)); have hb1 := own_below_ (Nat.le_refl _) (Below.more_ hb.out _) (hown.out.alloc _) hgrow; have g10 := g1.cell 0; have f10 := g1.frozen 0; replace g1 := Lib.hid g1; replace hb1 := Lib.hid hb1; replace hown1 := Lib.hid hown1; replace hgrow := Lib.hid hgrow))
          go_roundw
          case rel => exact ⟨1, _, _, by decide, rfl, new_step hbx g1.out hown1.out hb1.out (by simp [verPre])⟩
          case measure => simp [intOf]
      · by_cases e0 : next = 0
        · subst e0
          go_wp2_with fail
          go_roundw
          case rel =>
            have e : verPre epoch 0 1 value 1 = verPre epoch 0 1 value 2 := by simp [verPre]
            exact ⟨2, A, c, by decide, rfl, e ▸ hB.out, e ▸ hown.out, hb.out⟩
          case measure => simp [intOf]
        · have d0 : (next == 0) = false := by simp [e0]
          go_wp2_with (at_builtin; go_loud (refine wpList_append_any _ rfl _ _ 202 rfl w.heap.size 31 i0 (.agg #[.int .i64 0, .int .u64 0, .int .i64 0, .int .u64 0, .int .u64 0, .string ⟨#[]⟩]) 6 56 Tryz.underlying202 hi hz0 hz1 hz2 rfl (by decide) _ _ _ rfl (hown.out.alloc _) (wr.heap.size + 1) (some ⟨wr.heap.size, 0, none⟩) 1 1 (actC ⟨2, 0, 1, 0, next, ByteArray.empty⟩) rfl (reads_blk (Blk.new wr 31 _) 6 rfl) (by simp [actC, Value.oneCell']) (by have := hl.out; unfold maxLen; omega) (by have := hl.out; omega) (by have := hb.out.size; simp; omega) ?_; intro v' w1 hown1 hgrow hloc; rw [show actC ⟨2, 0, 1, 0, next, ByteArray.empty⟩ = [.int .i64 2, .int .u64 0, .int .i64 1, .int .u64 0, .int .u64 next, .string ByteArray.empty] from rfl, actL_snoc _ ⟨2, 0, 1, 0, next, ByteArray.empty⟩] at hown1; obtain ⟨g, cap, rfl, hg1, hg2⟩ := hown1.form (by omega); have g1 := (hB.out.alloc (.cells #[.int .i64 2, .int .u64 0, .int .i64 1, .int .u64 0, .int .u64 next, .string ⟨#[]⟩] 31)).grown hgrow (own_ne_blk hown.out hB.out (by decide)); have hb1 := own_below_ (Nat.le_refl _) (Below.more_ hb.out _) (hown.out.alloc _) hgrow; have g10 := g1.cell 0; have f10 := g1.frozen 0; replace g1 := Lib.hid g1; replace hb1 := Lib.hid hb1; replace hown1 := Lib.hid hown1; replace hgrow := Lib.hid hgrow))
          go_roundw
          case rel => exact ⟨2, _, _, by decide, rfl, new_step hbx g1.out hown1.out hb1.out (by simp [verPre, e0])⟩
          case measure => simp [intOf]
      · go_wp2_with (at_builtin; go_loud (refine wpList_append_any _ rfl _ _ 202 rfl w.heap.size 31 i0 (.agg #[.int .i64 0, .int .u64 0, .int .i64 0, .int .u64 0, .int .u64 0, .string ⟨#[]⟩]) 6 56 Tryz.underlying202 hi hz0 hz1 hz2 rfl (by decide) _ _ _ rfl (hown.out.alloc _) (wr.heap.size + 1) (some ⟨wr.heap.size, 0, none⟩) 1 1 (actC ⟨2, 0, 2, 0, 1, ByteArray.empty⟩) rfl (reads_blk (Blk.new wr 31 _) 6 rfl) (by simp [actC, Value.oneCell']) (by have := hl.out; unfold maxLen; omega) (by have := hl.out; omega) (by have := hb.out.size; simp; omega) ?_; intro v' w1 hown1 hgrow hloc; rw [show actC ⟨2, 0, 2, 0, 1, ByteArray.empty⟩ = [.int .i64 2, .int .u64 0, .int .i64 2, .int .u64 0, .int .u64 1, .string ByteArray.empty] from rfl, actL_snoc _ ⟨2, 0, 2, 0, 1, ByteArray.empty⟩] at hown1; obtain ⟨g, cap, rfl, hg1, hg2⟩ := hown1.form (by omega); have g1 := (hB.out.alloc (.cells #[.int .i64 2, .int .u64 0, .int .i64 2, .int .u64 0, .int .u64 1, .string ⟨#[]⟩] 31)).grown hgrow (own_ne_blk hown.out hB.out (by decide)); have hb1 := own_below_ (Nat.le_refl _) (Below.more_ hb.out _) (hown.out.alloc _) hgrow; have g10 := g1.cell 0; have f10 := g1.frozen 0; replace g1 := Lib.hid g1; replace hb1 := Lib.hid hb1; replace hown1 := Lib.hid hown1; replace hgrow := Lib.hid hgrow))
        go_roundw
        case rel => exact ⟨3, _, _, by decide, rfl, new_step hbx g1.out hown1.out hb1.out (by simp [verPre])⟩
        case measure => simp [intOf]
      · go_wp2_with fail
        obtain ⟨ar, hV, har⟩ := new_end hbx hB.out hown.out
        refine bodyPost_ret (v := .pointer (some ⟨w.heap.size + 2, 0, none⟩)) (by simp [results, Tryz.results89, go_sem]) rfl ⟨_, _, _, rfl, hV, hbx, har, hb.out⟩
end Go.Proofs.YtmlnhjfdhjachaaGreat

/-
  The routine that makes a version, and the document's one: side by side (the plain law). No condition.
-/
namespace Go.Proofs.YtmlnhjfdhjachaaGreat
set_option linter.unusedVariables false
open Go.ChangeShapes Go.WideShapes Go.ChangeAt Go.RowKit
open Go.ChangeMaps (setBlock)

end Go.Proofs.YtmlnhjfdhjachaaGreat

/-
  The routine that makes a version (layer 22), as a routine. No condition.
-/
namespace Go.Proofs.YtmlnhjfdhjachaaGreat
set_option linter.unusedVariables false
open Go.ChangeShapes Go.WideShapes Go.ChangeAt Go.RowKit
open Go.ChangeMaps (setBlock)

theorem VerIn.keep {w w' : World} {b ar c : Nat} {s : PVer} (h : VerIn w b ar c s) (hs : w.heap.size ≤ w'.heap.size) (hb : w'.heap[b]? = w.heap[b]?) (ha : w'.heap[ar]? = w.heap[ar]?) : VerIn w' b ar c s :=
  ⟨h.blk.keep hb, fun j u hu => (World.cell?_of_block ha).trans (h.got j u hu), Nat.lt_of_lt_of_le h.lt hs, h.ne, h.len, h.pos, h.at_, h.kinds⟩
theorem VerIn.below {w w' : World} {b ar c : Nat} {s : PVer} (h : VerIn w b ar c s) (hb : Below w.heap.size w w') : VerIn w' b ar c s := h.keep hb.size (hb.block _ h.blk.lt) (hb.block _ h.lt)
theorem verAct_any {w : World} {b ar c : Nat} {s : PVer} (h : VerIn w b ar c s) :
    Calls Tryz.prog 105 #[.pointer (some ⟨b, 0, none⟩)] w fun e w' => e = .returned (.tuple #[s.act.1.val, .bool s.act.2]) ∧ Below w.heap.size w w' := by
  cases hx : s.todo[s.at_]? with
  | some x => exact verAct_some h x hx
  | none =>
    have := List.getElem?_eq_none_iff.mp hx
    have := h.at_
    exact verAct_end h (by omega)
theorem PVer.take_todo (s : PVer) (g : PGot) : (s.take g).todo = s.todo := by
  unfold PVer.take
  split <;> rfl
theorem PVer.take_block (s : PVer) (g : PGot) : (s.take g).block = s.block ∨ (s.take g).block = g.word := by
  unfold PVer.take
  split
  · exact .inl rfl
  · by_cases h : s.at_ = 0 <;> simp [h]
theorem noAct_ok : noAct.Ok := ⟨by decide, by decide, by decide, by decide, by decide, by decide⟩
theorem verNew_ok (epoch next : Int) (c : PChange) (he : 0 ≤ epoch ∧ epoch ≤ 18446744073709551615) (hn : 0 ≤ next ∧ next ≤ 18446744073709551615) (hc : c.value.size ≤ 1000) : ∀ x ∈ (newVer epoch next c).todo, x.Ok := by
  have k5 : (-9223372036854775808 : Int) ≤ 5 ∧ (5 : Int) ≤ 9223372036854775807 := by decide
  have k3 : (-9223372036854775808 : Int) ≤ 3 ∧ (3 : Int) ≤ 9223372036854775807 := by decide
  have k2 : (-9223372036854775808 : Int) ≤ 2 ∧ (2 : Int) ≤ 9223372036854775807 := by decide
  have k1 : (-9223372036854775808 : Int) ≤ 1 ∧ (1 : Int) ≤ 9223372036854775807 := by decide
  have k0 : (-9223372036854775808 : Int) ≤ 0 ∧ (0 : Int) ≤ 9223372036854775807 := by decide
  have z : (0 : Int) ≤ 0 ∧ (0 : Int) ≤ 18446744073709551615 := by decide
  have hE : ByteArray.empty.size ≤ 9223372036854775807 := by decide
  have ht : (if c.has then c.value else ByteArray.empty).size ≤ 9223372036854775807 := by split <;> omega
  intro x hx
  simp only [newVer, verTodo, List.mem_cons, List.mem_append] at hx
  rcases hx with rfl | rfl | hx | hx
  · exact ⟨k5, z, k3, z, z, ht⟩
  · exact ⟨k2, z, k0, z, he, hE⟩
  · split at hx
    · simp at hx
    · simp at hx; subst hx; exact ⟨k2, z, k1, z, hn, hE⟩
  · split at hx
    · simp at hx; subst hx; exact ⟨k2, z, k2, z, by decide, hE⟩
    · simp at hx
end Go.Proofs.YtmlnhjfdhjachaaGreat

/-
  The routine that pins an epoch (layer 25): what each of its functions does. No condition.
-/
namespace Go.Proofs.YtmlnhjfdhjachaaGreat
set_option linter.unusedVariables false
open Go.ChangeShapes Go.WideShapes Go.ChangeAt Go.RowKit
open Go.ChangeMaps (setBlock)

structure PPin where
  cfg : PCfg
  first : Int
  tried : Int
  part : Int
  pin : Int
  epoch : Int
  taken : Bool
def PPin.cells (s : PPin) : Array Value := #[.int .i64 s.cfg.cap, .int .i64 s.cfg.pins, .int .i64 s.cfg.shelves, .int .i64 s.cfg.queue, .int .i64 s.cfg.watchers, .int .u64 s.cfg.seed, .int .i64 s.first, .int .i64 s.tried, .int .i64 s.part, .int .i64 s.pin, .int .u64 s.epoch, .bool s.taken]
def PPin.at_ (s : PPin) : Int := (s.first + s.tried) % s.cfg.pins
structure PinIn (w : World) (b : Nat) (s : PPin) : Prop where
  blk : Blk w b 148 s.cells
  right : s.part ≠ 0 → s.cfg.Right
  first : s.part ≠ 0 → 0 ≤ s.first ∧ s.first < s.cfg.pins
  tried : s.part ≠ 0 → 0 ≤ s.tried ∧ s.tried ≤ s.cfg.pins
  part : 0 ≤ s.part ∧ s.part ≤ 5
  epoch : 0 ≤ s.epoch ∧ s.epoch ≤ 18446744073709551615
theorem PinIn.keep {w w' : World} {b : Nat} {s : PPin} (h : PinIn w b s) (hb : w'.heap[b]? = w.heap[b]?) : PinIn w' b s := ⟨h.blk.keep hb, h.right, h.first, h.tried, h.part, h.epoch⟩
theorem PinIn.below {w w' : World} {b : Nat} {s : PPin} (h : PinIn w b s) (hb : Below w.heap.size w w') : PinIn w' b s := h.keep (hb.block _ h.blk.lt)
theorem PinIn.at_ok {w : World} {b : Nat} {s : PPin} (h : PinIn w b s) (hp : s.part ≠ 0) : 0 ≤ s.at_ ∧ s.at_ < s.cfg.pins ∧ s.cfg.pins ≤ 8 := by
  have h1 := (h.right hp).pins
  exact ⟨Int.emod_nonneg _ (by omega), Int.emod_lt_of_pos _ (by omega), h1.2⟩
/-- What it does next. -/
def PPin.act (s : PPin) : PAct × Bool :=
  if s.part = 1 ∨ s.part = 3 then (⟨1, 1, 0, 0, 0, ByteArray.empty⟩, true)
  else if s.part = 2 then (⟨3, 1, 3 + s.at_, 0, IntKind.u64.wrap (s.epoch + 1), ByteArray.empty⟩, true)
  else if s.part = 4 then (⟨2, 1, 3 + s.at_, 0, IntKind.u64.wrap (s.epoch + 1), ByteArray.empty⟩, true)
  else (noAct, false)
/-- What it takes. -/
def PPin.take (s : PPin) (g : PGot) : PPin :=
  if s.part = 1 then { s with epoch := g.word, part := 2 }
  else if s.part = 2 then
    if g.word = 0 then { s with part := 3 }
    else if s.tried + 1 = s.cfg.pins then { s with tried := s.tried + 1, pin := 0, epoch := 0, taken := true, part := 5 }
    else { s with tried := s.tried + 1 }
  else if s.part = 4 then { s with part := 3 }
  else if s.part = 3 then
    if g.word = s.epoch then { s with pin := s.at_, part := 5 } else { s with epoch := g.word, part := 4 }
  else s
def PPin.result (s : PPin) : (Int × Int × Bool) × Bool := if s.part = 5 then ((s.pin, s.epoch, s.taken), true) else ((0, 0, false), false)
set_option maxHeartbeats 1000000 in
theorem pinResult_any {w : World} {b : Nat} {s : PPin} (h : PinIn w b s) : Calls Tryz.prog 81 #[.pointer (some ⟨b, 0, none⟩)] w fun e w' => e = .returned (.tuple #[.agg #[.int .i64 s.result.1.1, .int .u64 s.result.1.2.1, .bool s.result.1.2.2], .bool s.result.2]) ∧ Below w.heap.size w w' := by
  have hr : s.result = if s.part = 5 then ((s.pin, s.epoch, s.taken), true) else ((0, 0, false), false) := rfl
  rw [hr]
  clear hr
  obtain ⟨cfg, first, tried, part, pin, epoch, taken⟩ := s
  have c8 : w.cell? ⟨b, 8, none⟩ = some (.int .i64 part) := h.blk.cell 8
  have c9 : w.cell? ⟨b, 9, none⟩ = some (.int .i64 pin) := h.blk.cell 9
  have c10 : w.cell? ⟨b, 10, none⟩ = some (.int .u64 epoch) := h.blk.cell 10
  have c11 : w.cell? ⟨b, 11, none⟩ = some (.bool taken) := h.blk.cell 11
  have hlt := h.blk.lt
  replace h := Lib.hid h
  by_cases hp : part = 5
  · subst hp
    go_enter Tryz.func81, Tryz.ntmps81
    go_wp2_with fail
    refine bodyPost_ret (v := .tuple #[.agg #[.int .i64 pin, .int .u64 epoch, .bool taken], .bool true]) (by simp [results, Tryz.results81, go_sem]) rfl ⟨by simp, ?_⟩
    (repeat first | exact Below.refl _ _ | assumption | refine Below.drew ?_ | refine below_drewN ?_ _ | refine Below.more_ ?_ _ | refine Below.setCell ?_ (by first | exact Nat.le_refl _ | (simp; done) | (simp; omega)) _)
  · have d1 : (part == 5) = false := by simp [hp]
    replace hp' := Lib.hid hp
    go_enter Tryz.func81, Tryz.ntmps81
    go_wp2_with fail
    refine bodyPost_ret (v := .tuple #[.agg #[.int .i64 0, .int .u64 0, .bool false], .bool false]) (by simp [results, Tryz.results81, go_sem]) rfl ⟨by simp, ?_⟩
    (repeat first | exact Below.refl _ _ | assumption | refine Below.drew ?_ | refine below_drewN ?_ _ | refine Below.more_ ?_ _ | refine Below.setCell ?_ (by first | exact Nat.le_refl _ | (simp; done) | (simp; omega)) _)
set_option maxRecDepth 100000 in
set_option maxHeartbeats 1000000 in
theorem pinCell_any {w : World} {b : Nat} {s : PPin} (h : PinIn w b s) (hp : s.part ≠ 0) : Calls Tryz.prog 74 #[.pointer (some ⟨b, 0, none⟩)] w fun e w' => e = .returned (.int .i64 (3 + s.at_)) ∧ Below w.heap.size w w' := by
  have hA := h.at_ok hp
  have hPl := fun W => planPin_any s.cfg (h.right hp) s.at_ ⟨hA.1, hA.2.1⟩ W
  have h1 := h.first hp
  have h2 := h.tried hp
  have h3 := (h.right hp).pins
  have hAt : s.at_ = (s.first + s.tried) % s.cfg.pins := rfl
  generalize s.at_ = at_ at *
  obtain ⟨⟨a, p, sh, q, t, z⟩, first, tried, part, pin, epoch, taken⟩ := s
  simp only at hAt h1 h2 h3 hA
  have c0 : w.cell? ⟨b, 0, none⟩ = some (.int .i64 a) := h.blk.cell 0
  have c1 : w.cell? ⟨b, 1, none⟩ = some (.int .i64 p) := h.blk.cell 1
  have c2 : w.cell? ⟨b, 2, none⟩ = some (.int .i64 sh) := h.blk.cell 2
  have c3 : w.cell? ⟨b, 3, none⟩ = some (.int .i64 q) := h.blk.cell 3
  have c4 : w.cell? ⟨b, 4, none⟩ = some (.int .i64 t) := h.blk.cell 4
  have c5 : w.cell? ⟨b, 5, none⟩ = some (.int .u64 z) := h.blk.cell 5
  have c6 : w.cell? ⟨b, 6, none⟩ = some (.int .i64 first) := h.blk.cell 6
  have c7 : w.cell? ⟨b, 7, none⟩ = some (.int .i64 tried) := h.blk.cell 7
  have hm : (first + tried).tmod p = at_ := by rw [Int.tmod_eq_emod_of_nonneg (by omega), hAt]
  have hw : IntKind.i64.wrap (first + tried) = first + tried := IntWalk.i64_in _ (by omega)
  have hp0 : ¬ p = 0 := by omega
  have hp1 : ¬ p = -1 := by omega
  have hpp : 0 < p := by omega
  have hpz : (p == 0) = false := by rw [beq_eq_false_iff_ne]; omega
  rw [show PCfg.val ⟨a, p, sh, q, t, z⟩ = .agg #[.int .i64 a, .int .i64 p, .int .i64 sh, .int .i64 q, .int .i64 t, .int .u64 z] from rfl] at hPl
  replace hPl := Lib.hid hPl
  replace h := Lib.hid h
  replace hAt := Lib.hid hAt
  go_enter Tryz.func74, Tryz.ntmps74
  go_wp2_with fail
  go_still_tail 19, (by kernel_rfl)
  change wpList _ _ _ _ _ w.drew
  go_wp2_with fail
  refine (hPl.out _).mono ?_; rintro e w1 ⟨rfl, hb⟩
  go_wp2_with fail
  go_ret
  exact ⟨rfl, nx (b := w.drew) (Below.refl _ _).drew (Nat.le_refl _) hb⟩
end Go.Proofs.YtmlnhjfdhjachaaGreat

/-
  The law of heaps that keep (layer 17): what its loops know of the heap (the plain law). No condition.
-/
namespace Go.Proofs.YtmlnhjfdhjachaaGreat
set_option linter.unusedVariables false
open Go.ChangeShapes Go.WideShapes Go.ChangeAt Go.RowKit
open Go.ChangeMaps (setBlock)

theorem set_find (S : PHeap) (b c : Int) (i : Nat) (v : Int) : (S.set b i v).find c = (S.find c).map fun x => if x.key = b then { x with cells := x.cells.set i v } else x := by
  unfold PHeap.set PHeap.find
  rw [List.find?_map]
  congr 1
  congr 1
  funext x
  show ((if x.key = b then ({ x with cells := x.cells.set i v } : PBlk) else x).key == c) = (x.key == c)
  split <;> rfl
/-- Blocks 1, 2, .. with these sizes and texts. -/
structure Kept (S : PHeap) (ns : List Int) (ts : Nat → ByteArray) : Prop where
  last : S.last = (ns.length : Nat)
  faults : S.faults = 0
  locked : S.locked = false
  keys : S.blocks.map (·.key) = (List.range ns.length).map fun j => ((j : Nat) : Int) + 1
  each : ∀ x ∈ S.blocks, ∀ j : Nat, x.key = (j : Int) + 1 → ns[j]? = some (x.cells.length : Int) ∧ x.text = ts j
theorem Kept.start (ts : Nat → ByteArray) : Kept ⟨[], 0, false, 0⟩ [] ts := ⟨rfl, rfl, rfl, rfl, by simp⟩
theorem Kept.more {S : PHeap} {ns : List Int} {ts : Nat → ByteArray} (h : Kept S ns ts) (r n : Nat) (t : ByteArray) (ht : t = ts ns.length) :
    Kept { S with blocks := S.blocks ++ [⟨S.last + 1, r, List.replicate n 0, t⟩], last := S.last + 1 } (ns ++ [(n : Int)]) ts := by
  refine ⟨by simp [h.last], h.faults, h.locked, ?_, ?_⟩
  · simp [h.keys, h.last, List.range_succ]
  · intro x hx j hj
    simp only [List.mem_append, List.mem_singleton] at hx
    rcases hx with hx | rfl
    · obtain ⟨h1, h2⟩ := h.each x hx j hj
      exact ⟨by rw [List.getElem?_append_left (List.getElem?_eq_some_iff.mp h1).1]; exact h1, h2⟩
    · have : j = ns.length := by
        have h1 : S.last + 1 = (j : Int) + 1 := hj
        have := h.last
        omega
      subst this
      simp [ht]
theorem Kept.find {S : PHeap} {ns : List Int} {ts : Nat → ByteArray} (h : Kept S ns ts) {j : Nat} {n : Int} (hj : ns[j]? = some n) : ∃ x, S.find ((j : Int) + 1) = some x ∧ (x.cells.length : Int) = n ∧ x.text = ts j := by
  have hjl := (List.getElem?_eq_some_iff.mp hj).1
  cases hx : S.find ((j : Int) + 1) with
  | none =>
    unfold PHeap.find at hx
    rw [List.find?_eq_none] at hx
    have h1 : ((j : Int) + 1) ∈ S.blocks.map (·.key) := by
      rw [h.keys]
      exact List.mem_map.2 ⟨j, List.mem_range.2 hjl, rfl⟩
    obtain ⟨y, hy, hk⟩ := List.mem_map.1 h1
    exact absurd (by simp [hk]) (hx y hy)
  | some x =>
    obtain ⟨h1, h2⟩ := find_mem hx
    obtain ⟨h3, h4⟩ := h.each x h1 j h2
    rw [h3] at hj
    exact ⟨x, rfl, by injection hj, h4⟩
theorem Kept.set {S : PHeap} {ns : List Int} {ts : Nat → ByteArray} (h : Kept S ns ts) (b : Int) (i : Nat) (v : Int) : Kept (S.set b i v) ns ts := by
  refine ⟨h.last, h.faults, h.locked, ?_, ?_⟩
  · rw [← h.keys]
    unfold PHeap.set
    simp only [List.map_map]
    apply List.map_congr_left
    intro x _
    show (if x.key = b then ({ x with cells := x.cells.set i v } : PBlk) else x).key = x.key
    split <;> rfl
  · intro x hx j hj
    unfold PHeap.set at hx
    obtain ⟨y, hy, rfl⟩ := List.mem_map.1 hx
    by_cases hk : y.key = b
    · rw [if_pos hk] at hj ⊢
      have := h.each y hy j hj
      simpa using this
    · rw [if_neg hk] at hj ⊢
      exact h.each y hy j hj
theorem Kept.stored {S : PHeap} {ns : List Int} {ts : Nat → ByteArray} (h : Kept S ns ts) {j n ce : Nat} (hj : ns[j]? = some (n : Int)) (hce : ce < n) (v : Int) :
    ∃ x, (S.set ((j : Int) + 1) ce v).find ((j : Int) + 1) = some x ∧ x.nth ce = v ∧ x.cells.length = n ∧ x.text = ts j := by
  obtain ⟨x, hx, hl, ht⟩ := h.find hj
  have hl' : x.cells.length = n := by omega
  refine ⟨{ x with cells := x.cells.set ce v }, ?_, ?_, ?_, ht⟩
  · rw [set_find, hx]
    simp [(find_mem hx).2]
  · show (x.cells.set ce v).getD ce 0 = v
    rw [List.getD_eq_getElem?_getD, List.getElem?_set_self (by omega)]
    rfl
  · simp [hl']
theorem find_other (S : PHeap) (b c : Int) (i : Nat) (v : Int) (hne : b ≠ c) : (S.set b i v).find c = S.find c := by
  rw [set_find]
  cases hx : S.find c with
  | none => rfl
  | some x =>
    have : ¬ x.key = b := fun e => hne (e.symm.trans (find_mem hx).2)
    simp [this]
/-- Some are dropped. -/
structure Fewer (S : PHeap) (k m : Nat) : Prop where
  last : S.last = (m : Nat)
  faults : S.faults = (k : Nat)
  locked : S.locked = false
  keys : S.blocks.map (·.key) = (List.range (m - k)).map fun j => ((j : Nat) : Int) + ((k : Nat) + 1)
theorem Fewer.find {S : PHeap} {k m : Nat} (h : Fewer S k m) (hk : k < m) : ∃ x, S.find ((k : Int) + 1) = some x := by
  cases hx : S.find ((k : Int) + 1) with
  | some x => exact ⟨x, rfl⟩
  | none =>
    unfold PHeap.find at hx
    rw [List.find?_eq_none] at hx
    have h1 : ((k : Int) + 1) ∈ S.blocks.map (·.key) := by
      rw [h.keys]
      exact List.mem_map.2 ⟨0, List.mem_range.2 (by omega), by simp⟩
    obtain ⟨y, hy, hk⟩ := List.mem_map.1 h1
    exact absurd (by simp [hk]) (hx y hy)
theorem Fewer.drop {S : PHeap} {k m : Nat} (h : Fewer S k m) (hk : k < m) :
    PHeap.find { S with blocks := S.blocks.filter fun y => y.key != ((k : Int) + 1) } ((k : Int) + 1) = none ∧
    PHeap.miss { S with blocks := S.blocks.filter fun y => y.key != ((k : Int) + 1) } ((k : Int) + 1) = 17 ∧
    Fewer (PHeap.fault { S with blocks := S.blocks.filter fun y => y.key != ((k : Int) + 1) }) (k + 1) m := by
  refine ⟨?_, ?_, h.last, ?_, h.locked, ?_⟩
  · unfold PHeap.find
    rw [List.find?_eq_none]
    intro x hx
    have := (List.mem_filter.1 hx).2
    simpa using this
  · unfold PHeap.miss
    rw [if_neg]
    have := h.last
    show ¬ ((k : Int) + 1 = 0 ∨ S.last < (k : Int) + 1)
    omega
  · show S.faults + 1 = _
    rw [h.faults]
    rfl
  · show (S.blocks.filter fun y => y.key != ((k : Int) + 1)).map (·.key) = _
    have e : (S.blocks.filter fun y => y.key != ((k : Int) + 1)).map (·.key) = (S.blocks.map (·.key)).filter fun z => z != ((k : Int) + 1) := by
      rw [List.filter_map]
      rfl
    rw [e, h.keys]
    obtain ⟨d, hd⟩ : ∃ d, m - k = d + 1 := ⟨m - k - 1, by omega⟩
    rw [hd, show m - (k + 1) = d by omega, List.range_succ_eq_map]
    simp only [List.map_cons, List.map_map, List.filter_cons]
    rw [if_neg (by simp)]
    rw [List.filter_eq_self.2]
    · apply List.map_congr_left
      intro j _
      simp only [Function.comp]
      omega
    · intro z hz
      obtain ⟨j, _, rfl⟩ := List.mem_map.1 hz
      simp only [Function.comp, bne_iff_ne]
      omega
theorem Fewer.none {S : PHeap} {m : Nat} (h : Fewer S m m) : S.blocks = [] := by
  have := h.keys
  simpa using this
end Go.Proofs.YtmlnhjfdhjachaaGreat
