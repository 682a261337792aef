import Derived.Test.YtfelkkbgbgnpaaaPin
import Derived.Deep.RegionWith
/-
  The routine that pins an epoch (layer 25): what it does next, part 2. No condition.
-/
namespace Go.Proofs.Ytfelkkbgbgnpaaa
set_option linter.unusedVariables false
open Go.ChangeShapes Go.WideShapes Go.ChangeAt Go.RowKit
open Go.ChangeMaps (setBlock)

set_option maxRecDepth 100000 in
set_option maxHeartbeats 40000000 in
theorem pinAct2_any {w : World} {b : Nat} {s : PPin} (h : PinIn w b s) (hpt : s.part = 2) : Calls Try.prog 61 #[.pointer (some ⟨b, 0, none⟩)] w fun e w' => e = .returned (.tuple #[.agg #[.int .i64 3, .int .u64 1, .int .i64 (3 + s.at_), .int .u64 0, .int .u64 (IntKind.u64.wrap (s.epoch + 1)), .string ⟨#[]⟩], .bool true]) ∧ Below w.heap.size w w' := by
  have hz1 : Below w.heap.size w (w.alloc (.cells #[.int .i64 0, .int .u64 0, .int .i64 0, .int .u64 0, .int .u64 0, .string ⟨#[]⟩] 31)) := (Below.refl _ _).alloc (Nat.le_refl _) _
  have hz2 : Below w.heap.size w ((w.alloc (.cells #[.int .i64 0, .int .u64 0, .int .i64 0, .int .u64 0, .int .u64 0, .string ⟨#[]⟩] 31)).alloc (.cells #[.int .i64 0, .int .u64 0, .int .i64 0, .int .u64 0, .int .u64 0, .string ⟨#[]⟩] 31)) := hz1.alloc (by simp) _
  have hCl := fun W hb (hp : s.part ≠ 0) => pinCell_any (w := W) (h.below hb) hp
  have hp5 := h.part
  generalize s.at_ = at_ at *
  obtain ⟨cfg, first, tried, part, pin, epoch, taken⟩ := s
  simp only at hp5 hpt
  subst hpt
  have c8 : w.cell? ⟨b, 8, none⟩ = some (.int .i64 2) := h.blk.cell 8
  have c10 : w.cell? ⟨b, 10, none⟩ = some (.int .u64 epoch) := h.blk.cell 10
  have he : 0 ≤ epoch ∧ epoch ≤ 18446744073709551615 := h.epoch
  have hlt := h.blk.lt
  have hB := h.blk
  have B2 := Blk.new (w.alloc (.cells #[.int .i64 0, .int .u64 0, .int .i64 0, .int .u64 0, .int .u64 0, .string ⟨#[]⟩] 31)) 31 #[.int .i64 0, .int .u64 0, .int .i64 0, .int .u64 0, .int .u64 0, .string ⟨#[]⟩]
  have B1 := (Blk.new w 31 #[.int .i64 0, .int .u64 0, .int .i64 0, .int .u64 0, .int .u64 0, .string ⟨#[]⟩]).alloc (.cells #[.int .i64 0, .int .u64 0, .int .i64 0, .int .u64 0, .int .u64 0, .string ⟨#[]⟩] 31)
  simp only [World.size_alloc] at B2
  replace h := Lib.hid h
  replace hB := Lib.hid hB
  replace B1 := Lib.hid B1
  replace B2 := Lib.hid B2
  replace hz1 := Lib.hid hz1
  replace hz2 := Lib.hid hz2
  replace hCl := Lib.hid hCl
  go_enter Try.func61, Try.ntmps61
  go_wp2_with fail
  go_region_with (go_at_call 110; refine (hCl.out _ (by first | exact hz2.out | exact hz2.out.drew | exact below_drewN hz2.out _) (by show ¬ _; simp)).mono ?_; rintro e w1 ⟨rfl, hb⟩; have hb1 := nx (b := ((w.alloc (.cells #[.int .i64 0, .int .u64 0, .int .i64 0, .int .u64 0, .int .u64 0, .string ⟨#[]⟩] 31)).alloc (.cells #[.int .i64 0, .int .u64 0, .int .i64 0, .int .u64 0, .int .u64 0, .string ⟨#[]⟩] 31)).drew) hz2.out.drew (by simp) hb; have hbb : w1.cell? ⟨b, 10, none⟩ = some (.int .u64 epoch) := (Blk.below (w := (((w.alloc (.cells #[.int .i64 0, .int .u64 0, .int .i64 0, .int .u64 0, .int .u64 0, .string ⟨#[]⟩] 31)).alloc (.cells #[.int .i64 0, .int .u64 0, .int .i64 0, .int .u64 0, .int .u64 0, .string ⟨#[]⟩] 31)).drew)) (((hB.out.alloc _).alloc _)) hb (by simp; omega)).cell 10; have A2 := Blk.below (w := (((w.alloc (.cells #[.int .i64 0, .int .u64 0, .int .i64 0, .int .u64 0, .int .u64 0, .string ⟨#[]⟩] 31)).alloc (.cells #[.int .i64 0, .int .u64 0, .int .i64 0, .int .u64 0, .int .u64 0, .string ⟨#[]⟩] 31)).drew)) B2.out hb (by simp); have A1 := Blk.below (w := (((w.alloc (.cells #[.int .i64 0, .int .u64 0, .int .i64 0, .int .u64 0, .int .u64 0, .string ⟨#[]⟩] 31)).alloc (.cells #[.int .i64 0, .int .u64 0, .int .i64 0, .int .u64 0, .int .u64 0, .string ⟨#[]⟩] 31)).drew)) B1.out hb (by simp; omega); have f0 := A2.frozen 0; have g0 := A2.cell 0; have h0 := A1.frozen 0; have k0 := A1.cell 0; have f1 := A2.frozen 1; have g1 := A2.cell 1; have h1 := A1.frozen 1; have k1 := A1.cell 1; have f2 := A2.frozen 2; have g2 := A2.cell 2; have h2 := A1.frozen 2; have k2 := A1.cell 2; have f3 := A2.frozen 3; have g3 := A2.cell 3; have h3 := A1.frozen 3; have k3 := A1.cell 3; have f4 := A2.frozen 4; have g4 := A2.cell 4; have h4 := A1.frozen 4; have k4 := A1.cell 4; have f5 := A2.frozen 5; have g5 := A2.cell 5; have h5 := A1.frozen 5; have k5 := A1.cell 5; have hsz := hb1.size; have hl1 := A1.lt; have hl2 := A2.lt; replace A1 := Lib.hid A1; replace A2 := Lib.hid A2; replace hb1 := Lib.hid hb1; clear hb)
  all_goals
    refine gen_world (α := fun W' => Exit.inBlock _ _ _ _ W') (fun W' => Blk W' (w.heap.size + 1) 31 #[.int .i64 3, .int .u64 1, .int .i64 (3 + at_), .int .u64 0, .int .u64 (IntKind.u64.wrap (epoch + 1)), .string ⟨#[]⟩] ∧ Blk W' w.heap.size 31 #[.int .i64 0, .int .u64 0, .int .i64 0, .int .u64 0, .int .u64 0, .string ⟨#[]⟩] ∧ Below w.heap.size w W') ⟨?_, ?_, ?_⟩ ?_
    · refine Blk.eq_cs (cs := (((((((#[.int .i64 0, .int .u64 0, .int .i64 0, .int .u64 0, .int .u64 0, .string ⟨#[]⟩] : Array Value).setIfInBounds 0 (.int .i64 3)).setIfInBounds 1 (.int .u64 1)).setIfInBounds 2 (.int .i64 (3 + at_))).setIfInBounds 3 (.int .u64 0)).setIfInBounds 4 (.int .u64 (IntKind.u64.wrap (epoch + 1)))).setIfInBounds 5 (.string ⟨#[]⟩))) ?_ rfl
      have hB := A2.out
      repeat first | with_reducible exact hB | with_reducible refine Blk.drewN ?_ _ | with_reducible refine Blk.drew ?_ | with_reducible refine Blk.set_ ?_ _ _
    · have hB := A1.out
      repeat first | with_reducible exact hB | with_reducible refine Blk.drewN ?_ _ | with_reducible refine Blk.drew ?_ | refine Blk.far ?_ (by show w.heap.size ≠ w.heap.size + 1; omega) _
    · have hB := hb1.out
      repeat first | with_reducible exact hB | with_reducible refine Below.drew ?_ | with_reducible refine below_drewN ?_ _ | refine Below.setCell ?_ (by first | exact Nat.le_refl _ | (simp; done) | (simp; omega)) _
    rintro W1 ⟨j1, j2, j3⟩
    clear f0 g0 h0 k0 f1 g1 h1 k1 f2 g2 h2 k2 f3 g3 h3 k3 f4 g4 h4 k4 f5 g5 h5 k5 hbb c8 c10
    have z0 := j1.cell 0
    have z1 := j1.cell 1
    have z2 := j1.cell 2
    have z3 := j1.cell 3
    have z4 := j1.cell 4
    have z5 := j1.cell 5
    have y0 := j2.frozen 0
    have y1 := j2.frozen 1
    have y2 := j2.frozen 2
    have y3 := j2.frozen 3
    have y4 := j2.frozen 4
    have y5 := j2.frozen 5
    have x0 := j2.cell 0
    have x1 := j2.cell 1
    have x2 := j2.cell 2
    have x3 := j2.cell 3
    have x4 := j2.cell 4
    have x5 := j2.cell 5
    replace j1 := Lib.hid j1
    replace j2 := Lib.hid j2
    replace j3 := Lib.hid j3
    go_wp2_with fail
    go_region
    go_wp2_with fail
    refine gen_world (α := fun W' => bodyPost _ _ _ _ _ W') (fun W' => Blk W' w.heap.size 31 #[.int .i64 3, .int .u64 1, .int .i64 (3 + at_), .int .u64 0, .int .u64 (IntKind.u64.wrap (epoch + 1)), .string ⟨#[]⟩] ∧ Below w.heap.size w W') ⟨?_, ?_⟩ ?_
    · refine Blk.eq_cs (cs := (((((((#[.int .i64 0, .int .u64 0, .int .i64 0, .int .u64 0, .int .u64 0, .string ⟨#[]⟩] : Array Value).setIfInBounds 0 (.int .i64 3)).setIfInBounds 1 (.int .u64 1)).setIfInBounds 2 (.int .i64 (3 + at_))).setIfInBounds 3 (.int .u64 0)).setIfInBounds 4 (.int .u64 (IntKind.u64.wrap (epoch + 1)))).setIfInBounds 5 (.string ⟨#[]⟩))) ?_ rfl
      have hB := j2.out
      repeat first | with_reducible exact hB | with_reducible refine Blk.drewN ?_ _ | with_reducible refine Blk.drew ?_ | with_reducible refine Blk.set_ ?_ _ _
    · have hB := j3.out
      repeat first | with_reducible exact hB | with_reducible refine Below.drew ?_ | with_reducible refine below_drewN ?_ _ | refine Below.setCell ?_ (by first | exact Nat.le_refl _ | (simp; done) | (simp; omega)) _
    rintro W' ⟨q1, q2⟩
    have e0 := q1.cell 0
    have e1 := q1.cell 1
    have e2 := q1.cell 2
    have e3 := q1.cell 3
    have e4 := q1.cell 4
    have e5 := q1.cell 5
    exact bodyPost_ret (v := .tuple #[.agg #[.int .i64 3, .int .u64 1, .int .i64 (3 + at_), .int .u64 0, .int .u64 (IntKind.u64.wrap (epoch + 1)), .string ⟨#[]⟩], .bool true]) (by simp [results, Try.results61, go_sem, e0, e1, e2, e3, e4, e5]) rfl ⟨rfl, q2⟩
end Go.Proofs.Ytfelkkbgbgnpaaa

/-
  The routine that pins an epoch (layer 25): what it does next, part 4. No condition.
-/
namespace Go.Proofs.Ytfelkkbgbgnpaaa
set_option linter.unusedVariables false
open Go.ChangeShapes Go.WideShapes Go.ChangeAt Go.RowKit
open Go.ChangeMaps (setBlock)

set_option maxRecDepth 100000 in
set_option maxHeartbeats 40000000 in
theorem pinAct4_any {w : World} {b : Nat} {s : PPin} (h : PinIn w b s) (hpt : s.part = 4) : Calls Try.prog 61 #[.pointer (some ⟨b, 0, none⟩)] w fun e w' => e = .returned (.tuple #[.agg #[.int .i64 2, .int .u64 1, .int .i64 (3 + s.at_), .int .u64 0, .int .u64 (IntKind.u64.wrap (s.epoch + 1)), .string ⟨#[]⟩], .bool true]) ∧ Below w.heap.size w w' := by
  have hz1 : Below w.heap.size w (w.alloc (.cells #[.int .i64 0, .int .u64 0, .int .i64 0, .int .u64 0, .int .u64 0, .string ⟨#[]⟩] 31)) := (Below.refl _ _).alloc (Nat.le_refl _) _
  have hz2 : Below w.heap.size w ((w.alloc (.cells #[.int .i64 0, .int .u64 0, .int .i64 0, .int .u64 0, .int .u64 0, .string ⟨#[]⟩] 31)).alloc (.cells #[.int .i64 0, .int .u64 0, .int .i64 0, .int .u64 0, .int .u64 0, .string ⟨#[]⟩] 31)) := hz1.alloc (by simp) _
  have hCl := fun W hb (hp : s.part ≠ 0) => pinCell_any (w := W) (h.below hb) hp
  have hp5 := h.part
  generalize s.at_ = at_ at *
  obtain ⟨cfg, first, tried, part, pin, epoch, taken⟩ := s
  simp only at hp5 hpt
  subst hpt
  have c8 : w.cell? ⟨b, 8, none⟩ = some (.int .i64 4) := h.blk.cell 8
  have c10 : w.cell? ⟨b, 10, none⟩ = some (.int .u64 epoch) := h.blk.cell 10
  have he : 0 ≤ epoch ∧ epoch ≤ 18446744073709551615 := h.epoch
  have hlt := h.blk.lt
  have hB := h.blk
  have B2 := Blk.new (w.alloc (.cells #[.int .i64 0, .int .u64 0, .int .i64 0, .int .u64 0, .int .u64 0, .string ⟨#[]⟩] 31)) 31 #[.int .i64 0, .int .u64 0, .int .i64 0, .int .u64 0, .int .u64 0, .string ⟨#[]⟩]
  have B1 := (Blk.new w 31 #[.int .i64 0, .int .u64 0, .int .i64 0, .int .u64 0, .int .u64 0, .string ⟨#[]⟩]).alloc (.cells #[.int .i64 0, .int .u64 0, .int .i64 0, .int .u64 0, .int .u64 0, .string ⟨#[]⟩] 31)
  simp only [World.size_alloc] at B2
  replace h := Lib.hid h
  replace hB := Lib.hid hB
  replace B1 := Lib.hid B1
  replace B2 := Lib.hid B2
  replace hz1 := Lib.hid hz1
  replace hz2 := Lib.hid hz2
  replace hCl := Lib.hid hCl
  go_enter Try.func61, Try.ntmps61
  go_wp2_with fail
  go_region_with (go_at_call 110; refine (hCl.out _ (by first | exact hz2.out | exact hz2.out.drew | exact below_drewN hz2.out _) (by show ¬ _; simp)).mono ?_; rintro e w1 ⟨rfl, hb⟩; have hb1 := nx (b := ((w.alloc (.cells #[.int .i64 0, .int .u64 0, .int .i64 0, .int .u64 0, .int .u64 0, .string ⟨#[]⟩] 31)).alloc (.cells #[.int .i64 0, .int .u64 0, .int .i64 0, .int .u64 0, .int .u64 0, .string ⟨#[]⟩] 31)).drew) hz2.out.drew (by simp) hb; have hbb : w1.cell? ⟨b, 10, none⟩ = some (.int .u64 epoch) := (Blk.below (w := (((w.alloc (.cells #[.int .i64 0, .int .u64 0, .int .i64 0, .int .u64 0, .int .u64 0, .string ⟨#[]⟩] 31)).alloc (.cells #[.int .i64 0, .int .u64 0, .int .i64 0, .int .u64 0, .int .u64 0, .string ⟨#[]⟩] 31)).drew)) (((hB.out.alloc _).alloc _)) hb (by simp; omega)).cell 10; have A2 := Blk.below (w := (((w.alloc (.cells #[.int .i64 0, .int .u64 0, .int .i64 0, .int .u64 0, .int .u64 0, .string ⟨#[]⟩] 31)).alloc (.cells #[.int .i64 0, .int .u64 0, .int .i64 0, .int .u64 0, .int .u64 0, .string ⟨#[]⟩] 31)).drew)) B2.out hb (by simp); have A1 := Blk.below (w := (((w.alloc (.cells #[.int .i64 0, .int .u64 0, .int .i64 0, .int .u64 0, .int .u64 0, .string ⟨#[]⟩] 31)).alloc (.cells #[.int .i64 0, .int .u64 0, .int .i64 0, .int .u64 0, .int .u64 0, .string ⟨#[]⟩] 31)).drew)) B1.out hb (by simp; omega); have f0 := A2.frozen 0; have g0 := A2.cell 0; have h0 := A1.frozen 0; have k0 := A1.cell 0; have f1 := A2.frozen 1; have g1 := A2.cell 1; have h1 := A1.frozen 1; have k1 := A1.cell 1; have f2 := A2.frozen 2; have g2 := A2.cell 2; have h2 := A1.frozen 2; have k2 := A1.cell 2; have f3 := A2.frozen 3; have g3 := A2.cell 3; have h3 := A1.frozen 3; have k3 := A1.cell 3; have f4 := A2.frozen 4; have g4 := A2.cell 4; have h4 := A1.frozen 4; have k4 := A1.cell 4; have f5 := A2.frozen 5; have g5 := A2.cell 5; have h5 := A1.frozen 5; have k5 := A1.cell 5; have hsz := hb1.size; have hl1 := A1.lt; have hl2 := A2.lt; replace A1 := Lib.hid A1; replace A2 := Lib.hid A2; replace hb1 := Lib.hid hb1; clear hb)
  all_goals
    refine gen_world (α := fun W' => Exit.inBlock _ _ _ _ W') (fun W' => Blk W' (w.heap.size + 1) 31 #[.int .i64 2, .int .u64 1, .int .i64 (3 + at_), .int .u64 0, .int .u64 (IntKind.u64.wrap (epoch + 1)), .string ⟨#[]⟩] ∧ Blk W' w.heap.size 31 #[.int .i64 0, .int .u64 0, .int .i64 0, .int .u64 0, .int .u64 0, .string ⟨#[]⟩] ∧ Below w.heap.size w W') ⟨?_, ?_, ?_⟩ ?_
    · refine Blk.eq_cs (cs := (((((((#[.int .i64 0, .int .u64 0, .int .i64 0, .int .u64 0, .int .u64 0, .string ⟨#[]⟩] : Array Value).setIfInBounds 0 (.int .i64 2)).setIfInBounds 1 (.int .u64 1)).setIfInBounds 2 (.int .i64 (3 + at_))).setIfInBounds 3 (.int .u64 0)).setIfInBounds 4 (.int .u64 (IntKind.u64.wrap (epoch + 1)))).setIfInBounds 5 (.string ⟨#[]⟩))) ?_ rfl
      have hB := A2.out
      repeat first | with_reducible exact hB | with_reducible refine Blk.drewN ?_ _ | with_reducible refine Blk.drew ?_ | with_reducible refine Blk.set_ ?_ _ _
    · have hB := A1.out
      repeat first | with_reducible exact hB | with_reducible refine Blk.drewN ?_ _ | with_reducible refine Blk.drew ?_ | refine Blk.far ?_ (by show w.heap.size ≠ w.heap.size + 1; omega) _
    · have hB := hb1.out
      repeat first | with_reducible exact hB | with_reducible refine Below.drew ?_ | with_reducible refine below_drewN ?_ _ | refine Below.setCell ?_ (by first | exact Nat.le_refl _ | (simp; done) | (simp; omega)) _
    rintro W1 ⟨j1, j2, j3⟩
    clear f0 g0 h0 k0 f1 g1 h1 k1 f2 g2 h2 k2 f3 g3 h3 k3 f4 g4 h4 k4 f5 g5 h5 k5 hbb c8 c10
    have z0 := j1.cell 0
    have z1 := j1.cell 1
    have z2 := j1.cell 2
    have z3 := j1.cell 3
    have z4 := j1.cell 4
    have z5 := j1.cell 5
    have y0 := j2.frozen 0
    have y1 := j2.frozen 1
    have y2 := j2.frozen 2
    have y3 := j2.frozen 3
    have y4 := j2.frozen 4
    have y5 := j2.frozen 5
    have x0 := j2.cell 0
    have x1 := j2.cell 1
    have x2 := j2.cell 2
    have x3 := j2.cell 3
    have x4 := j2.cell 4
    have x5 := j2.cell 5
    replace j1 := Lib.hid j1
    replace j2 := Lib.hid j2
    replace j3 := Lib.hid j3
    go_wp2_with fail
    go_region
    go_wp2_with fail
    refine gen_world (α := fun W' => bodyPost _ _ _ _ _ W') (fun W' => Blk W' w.heap.size 31 #[.int .i64 2, .int .u64 1, .int .i64 (3 + at_), .int .u64 0, .int .u64 (IntKind.u64.wrap (epoch + 1)), .string ⟨#[]⟩] ∧ Below w.heap.size w W') ⟨?_, ?_⟩ ?_
    · refine Blk.eq_cs (cs := (((((((#[.int .i64 0, .int .u64 0, .int .i64 0, .int .u64 0, .int .u64 0, .string ⟨#[]⟩] : Array Value).setIfInBounds 0 (.int .i64 2)).setIfInBounds 1 (.int .u64 1)).setIfInBounds 2 (.int .i64 (3 + at_))).setIfInBounds 3 (.int .u64 0)).setIfInBounds 4 (.int .u64 (IntKind.u64.wrap (epoch + 1)))).setIfInBounds 5 (.string ⟨#[]⟩))) ?_ rfl
      have hB := j2.out
      repeat first | with_reducible exact hB | with_reducible refine Blk.drewN ?_ _ | with_reducible refine Blk.drew ?_ | with_reducible refine Blk.set_ ?_ _ _
    · have hB := j3.out
      repeat first | with_reducible exact hB | with_reducible refine Below.drew ?_ | with_reducible refine below_drewN ?_ _ | refine Below.setCell ?_ (by first | exact Nat.le_refl _ | (simp; done) | (simp; omega)) _
    rintro W' ⟨q1, q2⟩
    have e0 := q1.cell 0
    have e1 := q1.cell 1
    have e2 := q1.cell 2
    have e3 := q1.cell 3
    have e4 := q1.cell 4
    have e5 := q1.cell 5
    exact bodyPost_ret (v := .tuple #[.agg #[.int .i64 2, .int .u64 1, .int .i64 (3 + at_), .int .u64 0, .int .u64 (IntKind.u64.wrap (epoch + 1)), .string ⟨#[]⟩], .bool true]) (by simp [results, Try.results61, go_sem, e0, e1, e2, e3, e4, e5]) rfl ⟨rfl, q2⟩
end Go.Proofs.Ytfelkkbgbgnpaaa

/-
  The routine that pins an epoch (layer 25): what it does next. No condition.
-/
namespace Go.Proofs.Ytfelkkbgbgnpaaa
set_option linter.unusedVariables false
open Go.ChangeShapes Go.WideShapes Go.ChangeAt Go.RowKit
open Go.ChangeMaps (setBlock)

set_option maxRecDepth 100000 in
set_option maxHeartbeats 4000000 in
theorem pinAct_any {w : World} {b : Nat} {s : PPin} (h : PinIn w b s) : Calls Try.prog 61 #[.pointer (some ⟨b, 0, none⟩)] w fun e w' => e = .returned (.tuple #[s.act.1.val, .bool s.act.2]) ∧ Below w.heap.size w w' := by
  have hA : s.act = if s.part = 1 ∨ s.part = 3 then (⟨1, 1, 0, 0, 0, ByteArray.empty⟩, true) else if s.part = 2 then (⟨3, 1, 3 + s.at_, 0, IntKind.u64.wrap (s.epoch + 1), ByteArray.empty⟩, true) else if s.part = 4 then (⟨2, 1, 3 + s.at_, 0, IntKind.u64.wrap (s.epoch + 1), ByteArray.empty⟩, true) else (noAct, false) := rfl
  have hz1 : Below w.heap.size w (w.alloc (.cells #[.int .i64 0, .int .u64 0, .int .i64 0, .int .u64 0, .int .u64 0, .string ⟨#[]⟩] 31)) := (Below.refl _ _).alloc (Nat.le_refl _) _
  have hz2 : Below w.heap.size w ((w.alloc (.cells #[.int .i64 0, .int .u64 0, .int .i64 0, .int .u64 0, .int .u64 0, .string ⟨#[]⟩] 31)).alloc (.cells #[.int .i64 0, .int .u64 0, .int .i64 0, .int .u64 0, .int .u64 0, .string ⟨#[]⟩] 31)) := hz1.alloc (by simp) _
  have hCl := fun W hb (hp : s.part ≠ 0) => pinCell_any (w := W) (h.below hb) hp
  have hp5 := h.part
  rw [hA]
  clear hA
  generalize hAt : s.at_ = at_ at *
  obtain ⟨cfg, first, tried, part, pin, epoch, taken⟩ := s
  simp only at hp5 ⊢
  have c8 : w.cell? ⟨b, 8, none⟩ = some (.int .i64 part) := h.blk.cell 8
  have c10 : w.cell? ⟨b, 10, none⟩ = some (.int .u64 epoch) := h.blk.cell 10
  have he : 0 ≤ epoch ∧ epoch ≤ 18446744073709551615 := h.epoch
  have hlt := h.blk.lt
  have hB := h.blk
  have B2 := Blk.new (w.alloc (.cells #[.int .i64 0, .int .u64 0, .int .i64 0, .int .u64 0, .int .u64 0, .string ⟨#[]⟩] 31)) 31 #[.int .i64 0, .int .u64 0, .int .i64 0, .int .u64 0, .int .u64 0, .string ⟨#[]⟩]
  have B1 := (Blk.new w 31 #[.int .i64 0, .int .u64 0, .int .i64 0, .int .u64 0, .int .u64 0, .string ⟨#[]⟩]).alloc (.cells #[.int .i64 0, .int .u64 0, .int .i64 0, .int .u64 0, .int .u64 0, .string ⟨#[]⟩] 31)
  simp only [World.size_alloc] at B2
  replace h := Lib.hid h
  replace hB := Lib.hid hB
  replace B1 := Lib.hid B1
  replace B2 := Lib.hid B2
  replace hz1 := Lib.hid hz1
  replace hz2 := Lib.hid hz2
  replace hCl := Lib.hid hCl
  have hcase : part = 0 ∨ part = 1 ∨ part = 2 ∨ part = 3 ∨ part = 4 ∨ part = 5 := by omega
  rcases hcase with rfl | rfl | rfl | rfl | rfl | rfl
  · as_aux_lemma =>
      simp (config := { decide := true }) only [if_false]
      rw [show PAct.val noAct = .agg #[.int .i64 0, .int .u64 0, .int .i64 0, .int .u64 0, .int .u64 0, .string ⟨#[]⟩] from rfl]
      go_enter Try.func61, Try.ntmps61
      go_wp2_with fail
      go_region
      go_wp2_with fail
      refine bodyPost_ret (v := .tuple #[.agg #[.int .i64 0, .int .u64 0, .int .i64 0, .int .u64 0, .int .u64 0, .string ⟨#[]⟩], .bool false]) (by simp [results, Try.results61, go_sem]) rfl ⟨rfl, ?_⟩
      (repeat first | exact Below.refl _ _ | assumption | refine Below.drew ?_ | refine below_drewN ?_ _ | refine Below.more_ ?_ _ | refine Below.setCell ?_ (by first | exact Nat.le_refl _ | (simp; done) | (simp; omega)) _)
  · as_aux_lemma =>
      simp (config := { decide := true }) only [if_true, if_false]
      rw [show PAct.val ⟨1, 1, 0, 0, 0, ByteArray.empty⟩ = .agg #[.int .i64 1, .int .u64 1, .int .i64 0, .int .u64 0, .int .u64 0, .string ⟨#[]⟩] from rfl]
      go_enter Try.func61, Try.ntmps61
      go_wp2_with fail
      go_region
      go_wp2_with fail
      refine bodyPost_ret (v := .tuple #[.agg #[.int .i64 1, .int .u64 1, .int .i64 0, .int .u64 0, .int .u64 0, .string ⟨#[]⟩], .bool true]) (by simp [results, Try.results61, go_sem]) rfl ⟨rfl, ?_⟩
      (repeat first | exact Below.refl _ _ | assumption | refine Below.drew ?_ | refine below_drewN ?_ _ | refine Below.more_ ?_ _ | refine Below.setCell ?_ (by first | exact Nat.le_refl _ | (simp; done) | (simp; omega)) _)
  · simp (config := { decide := true }) only [if_true, if_false]
    have hq := pinAct2_any h.out rfl
    rw [hAt] at hq
    exact hq
  · as_aux_lemma =>
      simp (config := { decide := true }) only [if_true, if_false]
      rw [show PAct.val ⟨1, 1, 0, 0, 0, ByteArray.empty⟩ = .agg #[.int .i64 1, .int .u64 1, .int .i64 0, .int .u64 0, .int .u64 0, .string ⟨#[]⟩] from rfl]
      go_enter Try.func61, Try.ntmps61
      go_wp2_with fail
      go_region
      go_wp2_with fail
      refine bodyPost_ret (v := .tuple #[.agg #[.int .i64 1, .int .u64 1, .int .i64 0, .int .u64 0, .int .u64 0, .string ⟨#[]⟩], .bool true]) (by simp [results, Try.results61, go_sem]) rfl ⟨rfl, ?_⟩
      (repeat first | exact Below.refl _ _ | assumption | refine Below.drew ?_ | refine below_drewN ?_ _ | refine Below.more_ ?_ _ | refine Below.setCell ?_ (by first | exact Nat.le_refl _ | (simp; done) | (simp; omega)) _)
  · simp (config := { decide := true }) only [if_true, if_false]
    have hq := pinAct4_any h.out rfl
    rw [hAt] at hq
    exact hq
  · as_aux_lemma =>
      simp (config := { decide := true }) only [if_false]
      rw [show PAct.val noAct = .agg #[.int .i64 0, .int .u64 0, .int .i64 0, .int .u64 0, .int .u64 0, .string ⟨#[]⟩] from rfl]
      go_enter Try.func61, Try.ntmps61
      go_wp2_with fail
      go_region
      go_wp2_with fail
      refine bodyPost_ret (v := .tuple #[.agg #[.int .i64 0, .int .u64 0, .int .i64 0, .int .u64 0, .int .u64 0, .string ⟨#[]⟩], .bool false]) (by simp [results, Try.results61, go_sem]) rfl ⟨rfl, ?_⟩
      (repeat first | exact Below.refl _ _ | assumption | refine Below.drew ?_ | refine below_drewN ?_ _ | refine Below.more_ ?_ _ | refine Below.setCell ?_ (by first | exact Nat.le_refl _ | (simp; done) | (simp; omega)) _)
end Go.Proofs.Ytfelkkbgbgnpaaa
