/-
  The routine that makes a version (layer 22): the act that is next. No condition.
-/
import Derived.Test.YtfelkkbgbgnpaaaShelf
namespace Go.Proofs.Ytfelkkbgbgnpaaa
set_option linter.unusedVariables false
open Go.ChangeShapes Go.WideShapes Go.ChangeAt Go.RowKit
open Go.ChangeMaps (setBlock)

theorem actL_at (l : List PAct) (k : Nat) (x : PAct) (h : l[k]? = some x) (j : Nat) (hj : j < 6) : (actL l)[k * 6 + j]? = (actC x)[j]? := by
  have := flat_get actC 6 (fun _ => rfl) l k j hj
  rw [actL, this, h]
  rfl
set_option maxRecDepth 100000 in
set_option maxHeartbeats 400000 in
theorem verAct_end {w : World} {b ar c : Nat} {s : PVer} (h : VerIn w b ar c s) (he : s.at_ = s.todo.length) :
    Calls Try.prog 106 #[.pointer (some ⟨b, 0, none⟩)] w fun e w' => e = .returned (.tuple #[s.act.1.val, .bool s.act.2]) ∧ Below w.heap.size w w' := by
  obtain ⟨todo, at_, block⟩ := s
  simp only at he
  subst he
  have hs : PVer.act ⟨todo, todo.length, block⟩ = (noAct, false) := by simp [PVer.act]
  rw [hs]
  rw [show noAct.val = .agg #[.int .i64 0, .int .u64 0, .int .i64 0, .int .u64 0, .int .u64 0, .string ⟨#[]⟩] from rfl]
  have hB : Blk w b 230 #[.slice (some ⟨ar, 0, none⟩) todo.length c, .int .i64 (todo.length : Nat), .int .u64 block] := h.blk
  have hlt := hB.lt
  have hl : todo.length ≤ 1000000 := h.len
  have c0 := hB.cell 0
  have c1 := hB.cell 1
  have c2 := hB.cell 2
  have B2 := Blk.new w 31 #[.int .i64 0, .int .u64 0, .int .i64 0, .int .u64 0, .int .u64 0, .string ⟨#[]⟩]
  replace h := Lib.hid h
  replace hB := Lib.hid hB
  replace B2 := Lib.hid B2
  go_enter Try.func106, Try.ntmps106
  go_wp2_with fail
  go_quiet (fail)
  go_wp2_with fail
  refine gen_world (α := fun W' => bodyPost _ _ _ _ _ W') (fun W' => Blk W' w.heap.size 31 #[.int .i64 0, .int .u64 0, .int .i64 0, .int .u64 0, .int .u64 0, .string ⟨#[]⟩] ∧ Below w.heap.size w W') ⟨?_, ?_⟩ ?_
  · refine Blk.eq_cs (cs := ((((((#[.int .i64 0, .int .u64 0, .int .i64 0, .int .u64 0, .int .u64 0, .string ⟨#[]⟩] : Array Value).setIfInBounds 0 (.int .i64 0)).setIfInBounds 1 (.int .u64 0)).setIfInBounds 2 (.int .i64 0)).setIfInBounds 3 (.int .u64 0)).setIfInBounds 4 (.int .u64 0)).setIfInBounds 5 (.string ⟨#[]⟩)) ?_ rfl
    have hB := B2.out
    (repeat first | with_reducible exact hB | with_reducible refine Blk.drewN ?_ _ | with_reducible refine Blk.drew ?_ | with_reducible refine Blk.alloc ?_ _ | with_reducible refine Blk.set_ ?_ _ _ | refine Blk.far ?_ (by simp; omega) _)
  · (repeat first | with_reducible exact Below.refl _ _ | with_reducible assumption | with_reducible refine Below.drew ?_ | with_reducible refine below_drewN ?_ _ | with_reducible refine Below.more_ ?_ _ | refine Below.setCell ?_ (by first | exact Nat.le_refl _ | (simp; done) | (simp; omega)) _)
  rintro W' ⟨g1, g2⟩
  have e0 := g1.cell 0
  have e1 := g1.cell 1
  have e2 := g1.cell 2
  have e3 := g1.cell 3
  have e4 := g1.cell 4
  have e5 := g1.cell 5
  refine bodyPost_ret (v := .tuple #[.agg #[.int .i64 0, .int .u64 0, .int .i64 0, .int .u64 0, .int .u64 0, .string ⟨#[]⟩], .bool false]) (by simp [results, Try.results106, go_sem, e0, e1, e2, e3, e4, e5]) rfl ⟨rfl, g2⟩
set_option maxRecDepth 100000 in
set_option maxHeartbeats 400000 in
theorem verAct_some {w : World} {b ar c : Nat} {s : PVer} (h : VerIn w b ar c s) (x : PAct) (hx : s.todo[s.at_]? = some x) :
    Calls Try.prog 106 #[.pointer (some ⟨b, 0, none⟩)] w fun e w' => e = .returned (.tuple #[s.act.1.val, .bool s.act.2]) ∧ Below w.heap.size w w' := by
  obtain ⟨todo, at_, block⟩ := s
  simp only at hx
  have hs : PVer.act ⟨todo, at_, block⟩ = (if 0 < at_ then { x with block := block } else x, true) := by simp [PVer.act, hx]
  rw [hs]
  clear hs
  have hk : x.kind ≠ 0 := h.kinds x (List.mem_of_getElem? hx)
  have hat : at_ < todo.length := (List.getElem?_eq_some_iff.mp hx).1
  have hB : Blk w b 230 #[.slice (some ⟨ar, 0, none⟩) todo.length c, .int .i64 (at_ : Nat), .int .u64 block] := h.blk
  have hlt := hB.lt
  have har := h.lt
  have hl : todo.length ≤ 1000000 := h.len
  have r := fun j hj u hu => h.got (at_ * 6 + j) u ((actL_at todo at_ x hx j hj).trans hu)
  obtain ⟨k, bb, cc, o, n, t⟩ := x
  simp only at hk
  have r0 : w.cell? ⟨ar, at_ * 6, none⟩ = some (.int .i64 k) := r 0 (by omega) _ rfl
  have r1 : w.cell? ⟨ar, at_ * 6 + 1, none⟩ = some (.int .u64 bb) := r 1 (by omega) _ rfl
  have r2 : w.cell? ⟨ar, at_ * 6 + 2, none⟩ = some (.int .i64 cc) := r 2 (by omega) _ rfl
  have r3 : w.cell? ⟨ar, at_ * 6 + 3, none⟩ = some (.int .u64 o) := r 3 (by omega) _ rfl
  have r4 : w.cell? ⟨ar, at_ * 6 + 4, none⟩ = some (.int .u64 n) := r 4 (by omega) _ rfl
  have r5 : w.cell? ⟨ar, at_ * 6 + 5, none⟩ = some (.string t) := r 5 (by omega) _ rfl
  clear r
  have c0 := hB.cell 0
  have c1 := hB.cell 1
  have c2 := hB.cell 2
  have B2 := Blk.new w 31 #[.int .i64 0, .int .u64 0, .int .i64 0, .int .u64 0, .int .u64 0, .string ⟨#[]⟩]
  have d1 : ((at_ : Int) == (todo.length : Int)) = false := by rw [beq_eq_false_iff_ne]; omega
  have i1 : (0 : Int) ≤ (at_ : Int) := by omega
  have i2 : (at_ : Int) < (todo.length : Int) := by omega
  replace h := Lib.hid h
  replace hx := Lib.hid hx
  replace hB := Lib.hid hB
  replace B2 := Lib.hid B2
  go_enter Try.func106, Try.ntmps106
  go_wp2_with fail
  go_quiet (fail)
  go_wp2_with fail
  go_region
  have B3 : Blk (((w.alloc (.cells #[.int .i64 0, .int .u64 0, .int .i64 0, .int .u64 0, .int .u64 0, .string ⟨#[]⟩] 31)).drewN (nq + 1)).alloc (.cells #[.int .i64 k, .int .u64 bb, .int .i64 cc, .int .u64 o, .int .u64 n, .string t] 31)) (w.alloc (.cells #[.int .i64 0, .int .u64 0, .int .i64 0, .int .u64 0, .int .u64 0, .string ⟨#[]⟩] 31)).heap.size 31 #[.int .i64 k, .int .u64 bb, .int .i64 cc, .int .u64 o, .int .u64 n, .string t] := Blk.new ((w.alloc (.cells #[.int .i64 0, .int .u64 0, .int .i64 0, .int .u64 0, .int .u64 0, .string ⟨#[]⟩] 31)).drewN (nq + 1)) 31 #[.int .i64 k, .int .u64 bb, .int .i64 cc, .int .u64 o, .int .u64 n, .string t]
  simp only [World.size_alloc] at B3
  clear r0 r1 r2 r3 r4 r5 c0 c1 c2
  refine gen_world (α := fun W' => Exit.then _ _ _ _ W') (fun W' => Blk W' w.heap.size 31 #[.int .i64 0, .int .u64 0, .int .i64 0, .int .u64 0, .int .u64 0, .string ⟨#[]⟩] ∧ Blk W' (w.heap.size + 1) 31 #[.int .i64 k, .int .u64 bb, .int .i64 cc, .int .u64 o, .int .u64 n, .string t] ∧ Blk W' b 230 #[.slice (some ⟨ar, 0, none⟩) todo.length c, .int .i64 (at_ : Nat), .int .u64 block] ∧ Below w.heap.size w W') ⟨?_, B3, ?_, ?_⟩ ?_
  · have B2 := B2.out
    (repeat first | with_reducible exact B2 | with_reducible refine Blk.drewN ?_ _ | with_reducible refine Blk.drew ?_ | with_reducible refine Blk.alloc ?_ _ | with_reducible refine Blk.set_ ?_ _ _ | refine Blk.far ?_ (by simp; omega) _)
  · have hB := hB.out
    (repeat first | with_reducible exact hB | with_reducible refine Blk.drewN ?_ _ | with_reducible refine Blk.drew ?_ | with_reducible refine Blk.alloc ?_ _ | with_reducible refine Blk.set_ ?_ _ _ | refine Blk.far ?_ (by simp; omega) _)
  · (repeat first | with_reducible exact Below.refl _ _ | with_reducible assumption | with_reducible refine Below.drew ?_ | with_reducible refine below_drewN ?_ _ | with_reducible refine Below.more_ ?_ _ | refine Below.setCell ?_ (by first | exact Nat.le_refl _ | (simp; done) | (simp; omega)) _)
  rintro W1 ⟨j1, j2, j3, j4⟩
  clear B3
  have z0 := j1.cell 0
  have z1 := j1.cell 1
  have z2 := j1.cell 2
  have z3 := j1.cell 3
  have z4 := j1.cell 4
  have z5 := j1.cell 5
  have a0 := j1.frozen 0
  have a1 := j1.frozen 1
  have a2 := j1.frozen 2
  have a3 := j1.frozen 3
  have a4 := j1.frozen 4
  have a5 := j1.frozen 5
  have b0 := j2.cell 0
  have b1 := j2.cell 1
  have b2 := j2.cell 2
  have b3 := j2.cell 3
  have b4 := j2.cell 4
  have b5 := j2.cell 5
  have bf := j2.frozen 1
  have c1 := j3.cell 1
  have c2 := j3.cell 2
  have kz : (k == 0) = false := by simp [hk]
  replace j1 := Lib.hid j1
  replace j2 := Lib.hid j2
  replace j3 := Lib.hid j3
  replace j4 := Lib.hid j4
  by_cases hp : 0 < at_
  · have d2 : decide ((0 : Int) < (at_ : Int)) = true := by simp; omega
    go_wp2_with fail
    go_region
    refine gen_world (α := fun W' => Exit.then _ _ _ _ W') (fun W' => Blk W' w.heap.size 31 #[.int .i64 k, .int .u64 block, .int .i64 cc, .int .u64 o, .int .u64 n, .string t] ∧ Below w.heap.size w W') ⟨?_, ?_⟩ ?_
    · refine Blk.eq_cs (cs := (((((((#[.int .i64 0, .int .u64 0, .int .i64 0, .int .u64 0, .int .u64 0, .string ⟨#[]⟩] : Array Value).setIfInBounds 0 (.int .i64 k)).setIfInBounds 1 (.int .u64 block)).setIfInBounds 2 (.int .i64 cc)).setIfInBounds 3 (.int .u64 o)).setIfInBounds 4 (.int .u64 n)).setIfInBounds 5 (.string t))) ?_ rfl
      have B2 := j1.out
      (repeat first | with_reducible exact B2 | with_reducible refine Blk.drewN ?_ _ | with_reducible refine Blk.drew ?_ | with_reducible refine Blk.alloc ?_ _ | with_reducible refine Blk.set_ ?_ _ _ | refine Blk.far ?_ (by simp; omega) _)
      exact Blk.far B2 (by show w.heap.size ≠ w.heap.size + 1; omega) _
    · have hB := j4.out
      repeat first | with_reducible exact hB | with_reducible refine Below.drew ?_ | refine Below.setCell ?_ (by first | exact Nat.le_refl _ | (simp; done) | (simp; omega)) _
    rintro W2 ⟨m1, m2⟩
    clear a0 a1 a2 a3 a4 a5 b0 b1 b2 b3 b4 b5 bf c1 c2 z0 z1 z2 z3 z4 z5
    have e0 := m1.cell 0
    have e1 := m1.cell 1
    have e2 := m1.cell 2
    have e3 := m1.cell 3
    have e4 := m1.cell 4
    have e5 := m1.cell 5
    replace m1 := Lib.hid m1
    replace m2 := Lib.hid m2
    go_wp2_with fail
    refine bodyPost_ret (v := .tuple #[.agg #[.int .i64 k, .int .u64 block, .int .i64 cc, .int .u64 o, .int .u64 n, .string t], .bool true]) (by simp [results, Try.results106, go_sem, e0, e1, e2, e3, e4, e5]) rfl ⟨by simp [PAct.val], m2.out⟩
  · have d2 : decide ((0 : Int) < (at_ : Int)) = false := by simp; omega
    go_wp2_with fail
    go_region
    refine gen_world (α := fun W' => Exit.then _ _ _ _ W') (fun W' => Blk W' w.heap.size 31 #[.int .i64 k, .int .u64 bb, .int .i64 cc, .int .u64 o, .int .u64 n, .string t] ∧ Below w.heap.size w W') ⟨?_, ?_⟩ ?_
    · refine Blk.eq_cs (cs := (((((((#[.int .i64 0, .int .u64 0, .int .i64 0, .int .u64 0, .int .u64 0, .string ⟨#[]⟩] : Array Value).setIfInBounds 0 (.int .i64 k)).setIfInBounds 1 (.int .u64 bb)).setIfInBounds 2 (.int .i64 cc)).setIfInBounds 3 (.int .u64 o)).setIfInBounds 4 (.int .u64 n)).setIfInBounds 5 (.string t))) ?_ rfl
      have B2 := j1.out
      (repeat first | with_reducible exact B2 | with_reducible refine Blk.drewN ?_ _ | with_reducible refine Blk.drew ?_ | with_reducible refine Blk.alloc ?_ _ | with_reducible refine Blk.set_ ?_ _ _ | refine Blk.far ?_ (by simp; omega) _)
    · have hB := j4.out
      repeat first | with_reducible exact hB | with_reducible refine Below.drew ?_ | refine Below.setCell ?_ (by first | exact Nat.le_refl _ | (simp; done) | (simp; omega)) _
    rintro W2 ⟨m1, m2⟩
    clear a0 a1 a2 a3 a4 a5 b0 b1 b2 b3 b4 b5 bf c1 c2 z0 z1 z2 z3 z4 z5
    have e0 := m1.cell 0
    have e1 := m1.cell 1
    have e2 := m1.cell 2
    have e3 := m1.cell 3
    have e4 := m1.cell 4
    have e5 := m1.cell 5
    replace m1 := Lib.hid m1
    replace m2 := Lib.hid m2
    go_wp2_with fail
    refine bodyPost_ret (v := .tuple #[.agg #[.int .i64 k, .int .u64 bb, .int .i64 cc, .int .u64 o, .int .u64 n, .string t], .bool true]) (by simp [results, Try.results106, go_sem, e0, e1, e2, e3, e4, e5]) rfl ⟨by simp [PAct.val], m2.out⟩
end Go.Proofs.Ytfelkkbgbgnpaaa
