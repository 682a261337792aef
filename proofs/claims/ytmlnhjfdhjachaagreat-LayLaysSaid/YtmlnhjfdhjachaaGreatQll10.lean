import Derived.Deep.RegionWith
import Derived.Test.YtmlnhjfdhjachaaGreatQll9
/-
  The routine that pins an epoch (layer 25): what it does next, part 2. No condition.
-/
namespace Go.Proofs.YtmlnhjfdhjachaaGreat
set_option linter.unusedVariables false
open Go.ChangeShapes Go.WideShapes Go.ChangeAt Go.RowKit
open Go.ChangeMaps (setBlock)

set_option maxRecDepth 100000 in
set_option maxHeartbeats 40000000 in
theorem pinAct2_any {w : World} {b : Nat} {s : PPin} (h : PinIn w b s) (hpt : s.part = 2) : Calls Tryz.prog 38 #[.pointer (some ⟨b, 0, none⟩)] w fun e w' => e = .returned (.tuple #[.agg #[.int .i64 3, .int .u64 1, .int .i64 (3 + s.at_), .int .u64 0, .int .u64 (IntKind.u64.wrap (s.epoch + 1)), .string ⟨#[]⟩], .bool true]) ∧ Below w.heap.size w w' := by
  have hz1 : Below w.heap.size w (w.alloc (.cells #[.int .i64 0, .int .u64 0, .int .i64 0, .int .u64 0, .int .u64 0, .string ⟨#[]⟩] 31)) := (Below.refl _ _).alloc (Nat.le_refl _) _
  have hz2 : Below w.heap.size w ((w.alloc (.cells #[.int .i64 0, .int .u64 0, .int .i64 0, .int .u64 0, .int .u64 0, .string ⟨#[]⟩] 31)).alloc (.cells #[.int .i64 0, .int .u64 0, .int .i64 0, .int .u64 0, .int .u64 0, .string ⟨#[]⟩] 31)) := hz1.alloc (by simp) _
  have hCl := fun W hb (hp : s.part ≠ 0) => pinCell_any (w := W) (h.below hb) hp
  have hp5 := h.part
  generalize s.at_ = at_ at *
  obtain ⟨cfg, first, tried, part, pin, epoch, taken⟩ := s
  simp only at hp5 hpt
  subst hpt
  have c8 : w.cell? ⟨b, 8, none⟩ = some (.int .i64 2) := h.blk.cell 8
  have c10 : w.cell? ⟨b, 10, none⟩ = some (.int .u64 epoch) := h.blk.cell 10
  have he : 0 ≤ epoch ∧ epoch ≤ 18446744073709551615 := h.epoch
  have hlt := h.blk.lt
  have hB := h.blk
  have B2 := Blk.new (w.alloc (.cells #[.int .i64 0, .int .u64 0, .int .i64 0, .int .u64 0, .int .u64 0, .string ⟨#[]⟩] 31)) 31 #[.int .i64 0, .int .u64 0, .int .i64 0, .int .u64 0, .int .u64 0, .string ⟨#[]⟩]
  have B1 := (Blk.new w 31 #[.int .i64 0, .int .u64 0, .int .i64 0, .int .u64 0, .int .u64 0, .string ⟨#[]⟩]).alloc (.cells #[.int .i64 0, .int .u64 0, .int .i64 0, .int .u64 0, .int .u64 0, .string ⟨#[]⟩] 31)
  simp only [World.size_alloc] at B2
  replace h := Lib.hid h
  replace hB := Lib.hid hB
  replace B1 := Lib.hid B1
  replace B2 := Lib.hid B2
  replace hz1 := Lib.hid hz1
  replace hz2 := Lib.hid hz2
  replace hCl := Lib.hid hCl
  go_enter Tryz.func38, Tryz.ntmps38
  go_wp2_with fail
  go_region_with (go_at_call 74; refine (hCl.out _ (by first | exact hz2.out | exact hz2.out.drew | exact below_drewN hz2.out _) (by show ¬ _; simp)).mono ?_; rintro e w1 ⟨rfl, hb⟩; have hb1 := nx (b := ((w.alloc (.cells #[.int .i64 0, .int .u64 0, .int .i64 0, .int .u64 0, .int .u64 0, .string ⟨#[]⟩] 31)).alloc (.cells #[.int .i64 0, .int .u64 0, .int .i64 0, .int .u64 0, .int .u64 0, .string ⟨#[]⟩] 31)).drew) hz2.out.drew (by simp) hb; have hbb : w1.cell? ⟨b, 10, none⟩ = some (.int .u64 epoch) := (Blk.below (w := (((w.alloc (.cells #[.int .i64 0, .int .u64 0, .int .i64 0, .int .u64 0, .int .u64 0, .string ⟨#[]⟩] 31)).alloc (.cells #[.int .i64 0, .int .u64 0, .int .i64 0, .int .u64 0, .int .u64 0, .string ⟨#[]⟩] 31)).drew)) (((hB.out.alloc _).alloc _)) hb (by simp; omega)).cell 10; have A2 := Blk.below (w := (((w.alloc (.cells #[.int .i64 0, .int .u64 0, .int .i64 0, .int .u64 0, .int .u64 0, .string ⟨#[]⟩] 31)).alloc (.cells #[.int .i64 0, .int .u64 0, .int .i64 0, .int .u64 0, .int .u64 0, .string ⟨#[]⟩] 31)).drew)) B2.out hb (by simp); have A1 := Blk.below (w := (((w.alloc (.cells #[.int .i64 0, .int .u64 0, .int .i64 0, .int .u64 0, .int .u64 0, .string ⟨#[]⟩] 31)).alloc (.cells #[.int .i64 0, .int .u64 0, .int .i64 0, .int .u64 0, .int .u64 0, .string ⟨#[]⟩] 31)).drew)) B1.out hb (by simp; omega); have f0 := A2.frozen 0; have g0 := A2.cell 0; have h0 := A1.frozen 0; have k0 := A1.cell 0; have f1 := A2.frozen 1; have g1 := A2.cell 1; have h1 := A1.frozen 1; have k1 := A1.cell 1; have f2 := A2.frozen 2; have g2 := A2.cell 2; have h2 := A1.frozen 2; have k2 := A1.cell 2; have f3 := A2.frozen 3; have g3 := A2.cell 3; have h3 := A1.frozen 3; have k3 := A1.cell 3; have f4 := A2.frozen 4; have g4 := A2.cell 4; have h4 := A1.frozen 4; have k4 := A1.cell 4; have f5 := A2.frozen 5; have g5 := A2.cell 5; have h5 := A1.frozen 5; have k5 := A1.cell 5; have hsz := hb1.size; have hl1 := A1.lt; have hl2 := A2.lt; replace A1 := Lib.hid A1; replace A2 := Lib.hid A2; replace hb1 := Lib.hid hb1; clear hb)
  all_goals
    refine gen_world (α := fun W' => Exit.inBlock _ _ _ _ W') (fun W' => Blk W' (w.heap.size + 1) 31 #[.int .i64 3, .int .u64 1, .int .i64 (3 + at_), .int .u64 0, .int .u64 (IntKind.u64.wrap (epoch + 1)), .string ⟨#[]⟩] ∧ Blk W' w.heap.size 31 #[.int .i64 0, .int .u64 0, .int .i64 0, .int .u64 0, .int .u64 0, .string ⟨#[]⟩] ∧ Below w.heap.size w W') ⟨?_, ?_, ?_⟩ ?_
    · refine Blk.eq_cs (cs := (((((((#[.int .i64 0, .int .u64 0, .int .i64 0, .int .u64 0, .int .u64 0, .string ⟨#[]⟩] : Array Value).setIfInBounds 0 (.int .i64 3)).setIfInBounds 1 (.int .u64 1)).setIfInBounds 2 (.int .i64 (3 + at_))).setIfInBounds 3 (.int .u64 0)).setIfInBounds 4 (.int .u64 (IntKind.u64.wrap (epoch + 1)))).setIfInBounds 5 (.string ⟨#[]⟩))) ?_ rfl
      have hB := A2.out
      repeat first | with_reducible exact hB | with_reducible refine Blk.drewN ?_ _ | with_reducible refine Blk.drew ?_ | with_reducible refine Blk.set_ ?_ _ _
    · have hB := A1.out
      repeat first | with_reducible exact hB | with_reducible refine Blk.drewN ?_ _ | with_reducible refine Blk.drew ?_ | refine Blk.far ?_ (by show w.heap.size ≠ w.heap.size + 1; omega) _
    · have hB := hb1.out
      repeat first | with_reducible exact hB | with_reducible refine Below.drew ?_ | with_reducible refine below_drewN ?_ _ | refine Below.setCell ?_ (by first | exact Nat.le_refl _ | (simp; done) | (simp; omega)) _
    rintro W1 ⟨j1, j2, j3⟩
    clear f0 g0 h0 k0 f1 g1 h1 k1 f2 g2 h2 k2 f3 g3 h3 k3 f4 g4 h4 k4 f5 g5 h5 k5 hbb c8 c10
    have z0 := j1.cell 0
    have z1 := j1.cell 1
    have z2 := j1.cell 2
    have z3 := j1.cell 3
    have z4 := j1.cell 4
    have z5 := j1.cell 5
    have y0 := j2.frozen 0
    have y1 := j2.frozen 1
    have y2 := j2.frozen 2
    have y3 := j2.frozen 3
    have y4 := j2.frozen 4
    have y5 := j2.frozen 5
    have x0 := j2.cell 0
    have x1 := j2.cell 1
    have x2 := j2.cell 2
    have x3 := j2.cell 3
    have x4 := j2.cell 4
    have x5 := j2.cell 5
    replace j1 := Lib.hid j1
    replace j2 := Lib.hid j2
    replace j3 := Lib.hid j3
    go_wp2_with fail
    go_region
    go_wp2_with fail
    refine gen_world (α := fun W' => bodyPost _ _ _ _ _ W') (fun W' => Blk W' w.heap.size 31 #[.int .i64 3, .int .u64 1, .int .i64 (3 + at_), .int .u64 0, .int .u64 (IntKind.u64.wrap (epoch + 1)), .string ⟨#[]⟩] ∧ Below w.heap.size w W') ⟨?_, ?_⟩ ?_
    · refine Blk.eq_cs (cs := (((((((#[.int .i64 0, .int .u64 0, .int .i64 0, .int .u64 0, .int .u64 0, .string ⟨#[]⟩] : Array Value).setIfInBounds 0 (.int .i64 3)).setIfInBounds 1 (.int .u64 1)).setIfInBounds 2 (.int .i64 (3 + at_))).setIfInBounds 3 (.int .u64 0)).setIfInBounds 4 (.int .u64 (IntKind.u64.wrap (epoch + 1)))).setIfInBounds 5 (.string ⟨#[]⟩))) ?_ rfl
      have hB := j2.out
      repeat first | with_reducible exact hB | with_reducible refine Blk.drewN ?_ _ | with_reducible refine Blk.drew ?_ | with_reducible refine Blk.set_ ?_ _ _
    · have hB := j3.out
      repeat first | with_reducible exact hB | with_reducible refine Below.drew ?_ | with_reducible refine below_drewN ?_ _ | refine Below.setCell ?_ (by first | exact Nat.le_refl _ | (simp; done) | (simp; omega)) _
    rintro W' ⟨q1, q2⟩
    have e0 := q1.cell 0
    have e1 := q1.cell 1
    have e2 := q1.cell 2
    have e3 := q1.cell 3
    have e4 := q1.cell 4
    have e5 := q1.cell 5
    exact bodyPost_ret (v := .tuple #[.agg #[.int .i64 3, .int .u64 1, .int .i64 (3 + at_), .int .u64 0, .int .u64 (IntKind.u64.wrap (epoch + 1)), .string ⟨#[]⟩], .bool true]) (by simp [results, Tryz.results38, go_sem, e0, e1, e2, e3, e4, e5]) rfl ⟨rfl, q2⟩
end Go.Proofs.YtmlnhjfdhjachaaGreat

/-
  The routine that pins an epoch (layer 25): what it does next, part 4. No condition.
-/
namespace Go.Proofs.YtmlnhjfdhjachaaGreat
set_option linter.unusedVariables false
open Go.ChangeShapes Go.WideShapes Go.ChangeAt Go.RowKit
open Go.ChangeMaps (setBlock)

set_option maxRecDepth 100000 in
set_option maxHeartbeats 40000000 in
theorem pinAct4_any {w : World} {b : Nat} {s : PPin} (h : PinIn w b s) (hpt : s.part = 4) : Calls Tryz.prog 38 #[.pointer (some ⟨b, 0, none⟩)] w fun e w' => e = .returned (.tuple #[.agg #[.int .i64 2, .int .u64 1, .int .i64 (3 + s.at_), .int .u64 0, .int .u64 (IntKind.u64.wrap (s.epoch + 1)), .string ⟨#[]⟩], .bool true]) ∧ Below w.heap.size w w' := by
  have hz1 : Below w.heap.size w (w.alloc (.cells #[.int .i64 0, .int .u64 0, .int .i64 0, .int .u64 0, .int .u64 0, .string ⟨#[]⟩] 31)) := (Below.refl _ _).alloc (Nat.le_refl _) _
  have hz2 : Below w.heap.size w ((w.alloc (.cells #[.int .i64 0, .int .u64 0, .int .i64 0, .int .u64 0, .int .u64 0, .string ⟨#[]⟩] 31)).alloc (.cells #[.int .i64 0, .int .u64 0, .int .i64 0, .int .u64 0, .int .u64 0, .string ⟨#[]⟩] 31)) := hz1.alloc (by simp) _
  have hCl := fun W hb (hp : s.part ≠ 0) => pinCell_any (w := W) (h.below hb) hp
  have hp5 := h.part
  generalize s.at_ = at_ at *
  obtain ⟨cfg, first, tried, part, pin, epoch, taken⟩ := s
  simp only at hp5 hpt
  subst hpt
  have c8 : w.cell? ⟨b, 8, none⟩ = some (.int .i64 4) := h.blk.cell 8
  have c10 : w.cell? ⟨b, 10, none⟩ = some (.int .u64 epoch) := h.blk.cell 10
  have he : 0 ≤ epoch ∧ epoch ≤ 18446744073709551615 := h.epoch
  have hlt := h.blk.lt
  have hB := h.blk
  have B2 := Blk.new (w.alloc (.cells #[.int .i64 0, .int .u64 0, .int .i64 0, .int .u64 0, .int .u64 0, .string ⟨#[]⟩] 31)) 31 #[.int .i64 0, .int .u64 0, .int .i64 0, .int .u64 0, .int .u64 0, .string ⟨#[]⟩]
  have B1 := (Blk.new w 31 #[.int .i64 0, .int .u64 0, .int .i64 0, .int .u64 0, .int .u64 0, .string ⟨#[]⟩]).alloc (.cells #[.int .i64 0, .int .u64 0, .int .i64 0, .int .u64 0, .int .u64 0, .string ⟨#[]⟩] 31)
  simp only [World.size_alloc] at B2
  replace h := Lib.hid h
  replace hB := Lib.hid hB
  replace B1 := Lib.hid B1
  replace B2 := Lib.hid B2
  replace hz1 := Lib.hid hz1
  replace hz2 := Lib.hid hz2
  replace hCl := Lib.hid hCl
  go_enter Tryz.func38, Tryz.ntmps38
  go_wp2_with fail
  go_region_with (go_at_call 74; refine (hCl.out _ (by first | exact hz2.out | exact hz2.out.drew | exact below_drewN hz2.out _) (by show ¬ _; simp)).mono ?_; rintro e w1 ⟨rfl, hb⟩; have hb1 := nx (b := ((w.alloc (.cells #[.int .i64 0, .int .u64 0, .int .i64 0, .int .u64 0, .int .u64 0, .string ⟨#[]⟩] 31)).alloc (.cells #[.int .i64 0, .int .u64 0, .int .i64 0, .int .u64 0, .int .u64 0, .string ⟨#[]⟩] 31)).drew) hz2.out.drew (by simp) hb; have hbb : w1.cell? ⟨b, 10, none⟩ = some (.int .u64 epoch) := (Blk.below (w := (((w.alloc (.cells #[.int .i64 0, .int .u64 0, .int .i64 0, .int .u64 0, .int .u64 0, .string ⟨#[]⟩] 31)).alloc (.cells #[.int .i64 0, .int .u64 0, .int .i64 0, .int .u64 0, .int .u64 0, .string ⟨#[]⟩] 31)).drew)) (((hB.out.alloc _).alloc _)) hb (by simp; omega)).cell 10; have A2 := Blk.below (w := (((w.alloc (.cells #[.int .i64 0, .int .u64 0, .int .i64 0, .int .u64 0, .int .u64 0, .string ⟨#[]⟩] 31)).alloc (.cells #[.int .i64 0, .int .u64 0, .int .i64 0, .int .u64 0, .int .u64 0, .string ⟨#[]⟩] 31)).drew)) B2.out hb (by simp); have A1 := Blk.below (w := (((w.alloc (.cells #[.int .i64 0, .int .u64 0, .int .i64 0, .int .u64 0, .int .u64 0, .string ⟨#[]⟩] 31)).alloc (.cells #[.int .i64 0, .int .u64 0, .int .i64 0, .int .u64 0, .int .u64 0, .string ⟨#[]⟩] 31)).drew)) B1.out hb (by simp; omega); have f0 := A2.frozen 0; have g0 := A2.cell 0; have h0 := A1.frozen 0; have k0 := A1.cell 0; have f1 := A2.frozen 1; have g1 := A2.cell 1; have h1 := A1.frozen 1; have k1 := A1.cell 1; have f2 := A2.frozen 2; have g2 := A2.cell 2; have h2 := A1.frozen 2; have k2 := A1.cell 2; have f3 := A2.frozen 3; have g3 := A2.cell 3; have h3 := A1.frozen 3; have k3 := A1.cell 3; have f4 := A2.frozen 4; have g4 := A2.cell 4; have h4 := A1.frozen 4; have k4 := A1.cell 4; have f5 := A2.frozen 5; have g5 := A2.cell 5; have h5 := A1.frozen 5; have k5 := A1.cell 5; have hsz := hb1.size; have hl1 := A1.lt; have hl2 := A2.lt; replace A1 := Lib.hid A1; replace A2 := Lib.hid A2; replace hb1 := Lib.hid hb1; clear hb)
  all_goals
    refine gen_world (α := fun W' => Exit.inBlock _ _ _ _ W') (fun W' => Blk W' (w.heap.size + 1) 31 #[.int .i64 2, .int .u64 1, .int .i64 (3 + at_), .int .u64 0, .int .u64 (IntKind.u64.wrap (epoch + 1)), .string ⟨#[]⟩] ∧ Blk W' w.heap.size 31 #[.int .i64 0, .int .u64 0, .int .i64 0, .int .u64 0, .int .u64 0, .string ⟨#[]⟩] ∧ Below w.heap.size w W') ⟨?_, ?_, ?_⟩ ?_
    · refine Blk.eq_cs (cs := (((((((#[.int .i64 0, .int .u64 0, .int .i64 0, .int .u64 0, .int .u64 0, .string ⟨#[]⟩] : Array Value).setIfInBounds 0 (.int .i64 2)).setIfInBounds 1 (.int .u64 1)).setIfInBounds 2 (.int .i64 (3 + at_))).setIfInBounds 3 (.int .u64 0)).setIfInBounds 4 (.int .u64 (IntKind.u64.wrap (epoch + 1)))).setIfInBounds 5 (.string ⟨#[]⟩))) ?_ rfl
      have hB := A2.out
      repeat first | with_reducible exact hB | with_reducible refine Blk.drewN ?_ _ | with_reducible refine Blk.drew ?_ | with_reducible refine Blk.set_ ?_ _ _
    · have hB := A1.out
      repeat first | with_reducible exact hB | with_reducible refine Blk.drewN ?_ _ | with_reducible refine Blk.drew ?_ | refine Blk.far ?_ (by show w.heap.size ≠ w.heap.size + 1; omega) _
    · have hB := hb1.out
      repeat first | with_reducible exact hB | with_reducible refine Below.drew ?_ | with_reducible refine below_drewN ?_ _ | refine Below.setCell ?_ (by first | exact Nat.le_refl _ | (simp; done) | (simp; omega)) _
    rintro W1 ⟨j1, j2, j3⟩
    clear f0 g0 h0 k0 f1 g1 h1 k1 f2 g2 h2 k2 f3 g3 h3 k3 f4 g4 h4 k4 f5 g5 h5 k5 hbb c8 c10
    have z0 := j1.cell 0
    have z1 := j1.cell 1
    have z2 := j1.cell 2
    have z3 := j1.cell 3
    have z4 := j1.cell 4
    have z5 := j1.cell 5
    have y0 := j2.frozen 0
    have y1 := j2.frozen 1
    have y2 := j2.frozen 2
    have y3 := j2.frozen 3
    have y4 := j2.frozen 4
    have y5 := j2.frozen 5
    have x0 := j2.cell 0
    have x1 := j2.cell 1
    have x2 := j2.cell 2
    have x3 := j2.cell 3
    have x4 := j2.cell 4
    have x5 := j2.cell 5
    replace j1 := Lib.hid j1
    replace j2 := Lib.hid j2
    replace j3 := Lib.hid j3
    go_wp2_with fail
    go_region
    go_wp2_with fail
    refine gen_world (α := fun W' => bodyPost _ _ _ _ _ W') (fun W' => Blk W' w.heap.size 31 #[.int .i64 2, .int .u64 1, .int .i64 (3 + at_), .int .u64 0, .int .u64 (IntKind.u64.wrap (epoch + 1)), .string ⟨#[]⟩] ∧ Below w.heap.size w W') ⟨?_, ?_⟩ ?_
    · refine Blk.eq_cs (cs := (((((((#[.int .i64 0, .int .u64 0, .int .i64 0, .int .u64 0, .int .u64 0, .string ⟨#[]⟩] : Array Value).setIfInBounds 0 (.int .i64 2)).setIfInBounds 1 (.int .u64 1)).setIfInBounds 2 (.int .i64 (3 + at_))).setIfInBounds 3 (.int .u64 0)).setIfInBounds 4 (.int .u64 (IntKind.u64.wrap (epoch + 1)))).setIfInBounds 5 (.string ⟨#[]⟩))) ?_ rfl
      have hB := j2.out
      repeat first | with_reducible exact hB | with_reducible refine Blk.drewN ?_ _ | with_reducible refine Blk.drew ?_ | with_reducible refine Blk.set_ ?_ _ _
    · have hB := j3.out
      repeat first | with_reducible exact hB | with_reducible refine Below.drew ?_ | with_reducible refine below_drewN ?_ _ | refine Below.setCell ?_ (by first | exact Nat.le_refl _ | (simp; done) | (simp; omega)) _
    rintro W' ⟨q1, q2⟩
    have e0 := q1.cell 0
    have e1 := q1.cell 1
    have e2 := q1.cell 2
    have e3 := q1.cell 3
    have e4 := q1.cell 4
    have e5 := q1.cell 5
    exact bodyPost_ret (v := .tuple #[.agg #[.int .i64 2, .int .u64 1, .int .i64 (3 + at_), .int .u64 0, .int .u64 (IntKind.u64.wrap (epoch + 1)), .string ⟨#[]⟩], .bool true]) (by simp [results, Tryz.results38, go_sem, e0, e1, e2, e3, e4, e5]) rfl ⟨rfl, q2⟩
end Go.Proofs.YtmlnhjfdhjachaaGreat

/-
  The routine that pins an epoch (layer 25): what it does next. No condition.
-/
namespace Go.Proofs.YtmlnhjfdhjachaaGreat
set_option linter.unusedVariables false
open Go.ChangeShapes Go.WideShapes Go.ChangeAt Go.RowKit
open Go.ChangeMaps (setBlock)

set_option maxRecDepth 100000 in
set_option maxHeartbeats 4000000 in
theorem pinAct_any {w : World} {b : Nat} {s : PPin} (h : PinIn w b s) : Calls Tryz.prog 38 #[.pointer (some ⟨b, 0, none⟩)] w fun e w' => e = .returned (.tuple #[s.act.1.val, .bool s.act.2]) ∧ Below w.heap.size w w' := by
  have hA : s.act = if s.part = 1 ∨ s.part = 3 then (⟨1, 1, 0, 0, 0, ByteArray.empty⟩, true) else if s.part = 2 then (⟨3, 1, 3 + s.at_, 0, IntKind.u64.wrap (s.epoch + 1), ByteArray.empty⟩, true) else if s.part = 4 then (⟨2, 1, 3 + s.at_, 0, IntKind.u64.wrap (s.epoch + 1), ByteArray.empty⟩, true) else (noAct, false) := rfl
  have hz1 : Below w.heap.size w (w.alloc (.cells #[.int .i64 0, .int .u64 0, .int .i64 0, .int .u64 0, .int .u64 0, .string ⟨#[]⟩] 31)) := (Below.refl _ _).alloc (Nat.le_refl _) _
  have hz2 : Below w.heap.size w ((w.alloc (.cells #[.int .i64 0, .int .u64 0, .int .i64 0, .int .u64 0, .int .u64 0, .string ⟨#[]⟩] 31)).alloc (.cells #[.int .i64 0, .int .u64 0, .int .i64 0, .int .u64 0, .int .u64 0, .string ⟨#[]⟩] 31)) := hz1.alloc (by simp) _
  have hCl := fun W hb (hp : s.part ≠ 0) => pinCell_any (w := W) (h.below hb) hp
  have hp5 := h.part
  rw [hA]
  clear hA
  generalize hAt : s.at_ = at_ at *
  obtain ⟨cfg, first, tried, part, pin, epoch, taken⟩ := s
  simp only at hp5 ⊢
  have c8 : w.cell? ⟨b, 8, none⟩ = some (.int .i64 part) := h.blk.cell 8
  have c10 : w.cell? ⟨b, 10, none⟩ = some (.int .u64 epoch) := h.blk.cell 10
  have he : 0 ≤ epoch ∧ epoch ≤ 18446744073709551615 := h.epoch
  have hlt := h.blk.lt
  have hB := h.blk
  have B2 := Blk.new (w.alloc (.cells #[.int .i64 0, .int .u64 0, .int .i64 0, .int .u64 0, .int .u64 0, .string ⟨#[]⟩] 31)) 31 #[.int .i64 0, .int .u64 0, .int .i64 0, .int .u64 0, .int .u64 0, .string ⟨#[]⟩]
  have B1 := (Blk.new w 31 #[.int .i64 0, .int .u64 0, .int .i64 0, .int .u64 0, .int .u64 0, .string ⟨#[]⟩]).alloc (.cells #[.int .i64 0, .int .u64 0, .int .i64 0, .int .u64 0, .int .u64 0, .string ⟨#[]⟩] 31)
  simp only [World.size_alloc] at B2
  replace h := Lib.hid h
  replace hB := Lib.hid hB
  replace B1 := Lib.hid B1
  replace B2 := Lib.hid B2
  replace hz1 := Lib.hid hz1
  replace hz2 := Lib.hid hz2
  replace hCl := Lib.hid hCl
  have hcase : part = 0 ∨ part = 1 ∨ part = 2 ∨ part = 3 ∨ part = 4 ∨ part = 5 := by omega
  rcases hcase with rfl | rfl | rfl | rfl | rfl | rfl
  · as_aux_lemma =>
      simp (config := { decide := true }) only [if_false]
      rw [show PAct.val noAct = .agg #[.int .i64 0, .int .u64 0, .int .i64 0, .int .u64 0, .int .u64 0, .string ⟨#[]⟩] from rfl]
      go_enter Tryz.func38, Tryz.ntmps38
      go_wp2_with fail
      go_region
      go_wp2_with fail
      refine bodyPost_ret (v := .tuple #[.agg #[.int .i64 0, .int .u64 0, .int .i64 0, .int .u64 0, .int .u64 0, .string ⟨#[]⟩], .bool false]) (by simp [results, Tryz.results38, go_sem]) rfl ⟨rfl, ?_⟩
      (repeat first | exact Below.refl _ _ | assumption | refine Below.drew ?_ | refine below_drewN ?_ _ | refine Below.more_ ?_ _ | refine Below.setCell ?_ (by first | exact Nat.le_refl _ | (simp; done) | (simp; omega)) _)
  · as_aux_lemma =>
      simp (config := { decide := true }) only [if_true, if_false]
      rw [show PAct.val ⟨1, 1, 0, 0, 0, ByteArray.empty⟩ = .agg #[.int .i64 1, .int .u64 1, .int .i64 0, .int .u64 0, .int .u64 0, .string ⟨#[]⟩] from rfl]
      go_enter Tryz.func38, Tryz.ntmps38
      go_wp2_with fail
      go_region
      go_wp2_with fail
      refine bodyPost_ret (v := .tuple #[.agg #[.int .i64 1, .int .u64 1, .int .i64 0, .int .u64 0, .int .u64 0, .string ⟨#[]⟩], .bool true]) (by simp [results, Tryz.results38, go_sem]) rfl ⟨rfl, ?_⟩
      (repeat first | exact Below.refl _ _ | assumption | refine Below.drew ?_ | refine below_drewN ?_ _ | refine Below.more_ ?_ _ | refine Below.setCell ?_ (by first | exact Nat.le_refl _ | (simp; done) | (simp; omega)) _)
  · simp (config := { decide := true }) only [if_true, if_false]
    have hq := pinAct2_any h.out rfl
    rw [hAt] at hq
    exact hq
  · as_aux_lemma =>
      simp (config := { decide := true }) only [if_true, if_false]
      rw [show PAct.val ⟨1, 1, 0, 0, 0, ByteArray.empty⟩ = .agg #[.int .i64 1, .int .u64 1, .int .i64 0, .int .u64 0, .int .u64 0, .string ⟨#[]⟩] from rfl]
      go_enter Tryz.func38, Tryz.ntmps38
      go_wp2_with fail
      go_region
      go_wp2_with fail
      refine bodyPost_ret (v := .tuple #[.agg #[.int .i64 1, .int .u64 1, .int .i64 0, .int .u64 0, .int .u64 0, .string ⟨#[]⟩], .bool true]) (by simp [results, Tryz.results38, go_sem]) rfl ⟨rfl, ?_⟩
      (repeat first | exact Below.refl _ _ | assumption | refine Below.drew ?_ | refine below_drewN ?_ _ | refine Below.more_ ?_ _ | refine Below.setCell ?_ (by first | exact Nat.le_refl _ | (simp; done) | (simp; omega)) _)
  · simp (config := { decide := true }) only [if_true, if_false]
    have hq := pinAct4_any h.out rfl
    rw [hAt] at hq
    exact hq
  · as_aux_lemma =>
      simp (config := { decide := true }) only [if_false]
      rw [show PAct.val noAct = .agg #[.int .i64 0, .int .u64 0, .int .i64 0, .int .u64 0, .int .u64 0, .string ⟨#[]⟩] from rfl]
      go_enter Tryz.func38, Tryz.ntmps38
      go_wp2_with fail
      go_region
      go_wp2_with fail
      refine bodyPost_ret (v := .tuple #[.agg #[.int .i64 0, .int .u64 0, .int .i64 0, .int .u64 0, .int .u64 0, .string ⟨#[]⟩], .bool false]) (by simp [results, Tryz.results38, go_sem]) rfl ⟨rfl, ?_⟩
      (repeat first | exact Below.refl _ _ | assumption | refine Below.drew ?_ | refine below_drewN ?_ _ | refine Below.more_ ?_ _ | refine Below.setCell ?_ (by first | exact Nat.le_refl _ | (simp; done) | (simp; omega)) _)
end Go.Proofs.YtmlnhjfdhjachaaGreat

/-
  The routine that pins an epoch (layer 25): what it takes. No condition.
-/
namespace Go.Proofs.YtmlnhjfdhjachaaGreat
set_option linter.unusedVariables false
open Go.ChangeShapes Go.WideShapes Go.ChangeAt Go.RowKit
open Go.ChangeMaps (setBlock)

/-- What comes of a swap. -/
def PPin.swapped (s : PPin) (x : Int) : PPin :=
  if x = 0 then { s with part := 3 }
  else if s.tried + 1 = s.cfg.pins then { s with tried := s.tried + 1, pin := 0, epoch := 0, taken := true, part := 5 }
  else { s with tried := s.tried + 1 }
set_option maxRecDepth 100000 in
set_option maxHeartbeats 4000000 in
theorem swapped_any {w : World} {b : Nat} {s : PPin} (h : PinIn w b s) (hp2 : s.part = 2) (htp : s.tried < s.cfg.pins) (x : Int) : Calls Tryz.prog 80 #[.pointer (some ⟨b, 0, none⟩), .int .u64 x] w fun e w' => e = .returned (.tuple #[]) ∧ PinIn w' b (s.swapped x) ∧ Chg (fun k => k = b) w w' := by
  have hS : s.swapped x = if x = 0 then { s with part := 3 } else if s.tried + 1 = s.cfg.pins then { s with tried := s.tried + 1, pin := 0, epoch := 0, taken := true, part := 5 } else { s with tried := s.tried + 1 } := rfl
  rw [hS]
  clear hS
  obtain ⟨⟨a, p, sh, q, t, z⟩, first, tried, part, pin, epoch, taken⟩ := s
  simp only at hp2
  subst hp2
  have hr := h.right (by show ¬ _; simp)
  have hf := h.first (by show ¬ _; simp)
  have ht := h.tried (by show ¬ _; simp)
  have hp := hr.pins
  simp only at htp hf ht hp
  have hB : Blk w b 148 #[.int .i64 a, .int .i64 p, .int .i64 sh, .int .i64 q, .int .i64 t, .int .u64 z, .int .i64 first, .int .i64 tried, .int .i64 2, .int .i64 pin, .int .u64 epoch, .bool taken] := h.blk
  have c1 := hB.cell 1
  have f1 := hB.frozen 1
  have c7 := hB.cell 7
  have f7 := hB.frozen 7
  have c8 := hB.cell 8
  have f8 := hB.frozen 8
  have c9 := hB.cell 9
  have f9 := hB.frozen 9
  have c10 := hB.cell 10
  have f10 := hB.frozen 10
  have c11 := hB.cell 11
  have f11 := hB.frozen 11
  have hlt := hB.lt
  have he := h.epoch
  simp only at he
  replace h := Lib.hid h
  replace hB := Lib.hid hB
  replace hr := Lib.hid hr
  by_cases hx : x = 0
  · subst hx
    simp only [if_true]
    go_enter Tryz.func80, Tryz.ntmps80
    go_wp2_with fail
    refine gen_world (α := fun W' => bodyPost _ _ _ _ _ W') (fun W' => Blk W' b 148 #[.int .i64 a, .int .i64 p, .int .i64 sh, .int .i64 q, .int .i64 t, .int .u64 z, .int .i64 first, .int .i64 tried, .int .i64 3, .int .i64 pin, .int .u64 epoch, .bool taken] ∧ Chg (fun k => k = b) w W') ⟨?_, ?_⟩ ?_
    · refine Blk.eq_cs (cs := ((#[.int .i64 a, .int .i64 p, .int .i64 sh, .int .i64 q, .int .i64 t, .int .u64 z, .int .i64 first, .int .i64 tried, .int .i64 2, .int .i64 pin, .int .u64 epoch, .bool taken] : Array Value).setIfInBounds 8 (.int .i64 3))) ?_ rfl
      have hB := hB.out
      (repeat first | with_reducible exact hB | with_reducible refine Blk.drewN ?_ _ | with_reducible refine Blk.drew ?_ | with_reducible refine Blk.alloc ?_ _ | with_reducible refine Blk.set_ ?_ _ _ | refine Blk.far ?_ (by simp; omega) _)
    · have hC := Chg.refl (fun k => k = b) w
      repeat first | with_reducible exact hC | with_reducible refine Chg.drew ?_ | with_reducible refine Chg.drewN ?_ _ | refine Chg.setCell ?_ (by left; rfl) _
    rintro W' ⟨g1, g2⟩
    exact bodyPost_ret (v := .tuple #[]) (results_none (by kernel_rfl) _ _ _) rfl ⟨rfl, ⟨g1, fun _ => hr.out, fun _ => hf, fun _ => ht, by show (0 : Int) ≤ 3 ∧ (3 : Int) ≤ 5; decide, he⟩, g2⟩
  · rw [if_neg hx]
    have d1 : (x == 0) = false := by simp [hx]
    have hw : IntKind.i64.wrap (tried + 1) = tried + 1 := IntWalk.i64_in _ (by omega)
    by_cases hq : tried + 1 = p
    · rw [if_pos hq]
      have d2 : (tried + 1 == p) = true := by simp [hq]
      replace hq := Lib.hid hq
      go_enter Tryz.func80, Tryz.ntmps80
      go_wp2_with fail
      go_quiet (fail)
      go_wp2_with fail
      refine gen_world (α := fun W' => bodyPost _ _ _ _ _ W') (fun W' => Blk W' b 148 #[.int .i64 a, .int .i64 p, .int .i64 sh, .int .i64 q, .int .i64 t, .int .u64 z, .int .i64 first, .int .i64 (tried + 1), .int .i64 5, .int .i64 0, .int .u64 0, .bool true] ∧ Chg (fun k => k = b) w W') ⟨?_, ?_⟩ ?_
      · refine Blk.eq_cs (cs := ((((((#[.int .i64 a, .int .i64 p, .int .i64 sh, .int .i64 q, .int .i64 t, .int .u64 z, .int .i64 first, .int .i64 tried, .int .i64 2, .int .i64 pin, .int .u64 epoch, .bool taken] : Array Value).setIfInBounds 7 (.int .i64 (tried + 1))).setIfInBounds 9 (.int .i64 0)).setIfInBounds 10 (.int .u64 0)).setIfInBounds 11 (.bool true)).setIfInBounds 8 (.int .i64 5))) ?_ rfl
        have hB := hB.out
        (repeat first | with_reducible exact hB | with_reducible refine Blk.drewN ?_ _ | with_reducible refine Blk.drew ?_ | with_reducible refine Blk.alloc ?_ _ | with_reducible refine Blk.set_ ?_ _ _ | refine Blk.far ?_ (by simp; omega) _)
      · have hC := Chg.refl (fun k => k = b) w
        repeat first | with_reducible exact hC | with_reducible refine Chg.drew ?_ | with_reducible refine Chg.drewN ?_ _ | refine Chg.setCell ?_ (by left; rfl) _
      rintro W' ⟨g1, g2⟩
      exact bodyPost_end (v := .tuple #[]) (results_none (by kernel_rfl) _ _ _) rfl ⟨rfl, ⟨g1, fun _ => hr.out, fun _ => hf, fun _ => by show 0 ≤ tried + 1 ∧ tried + 1 ≤ p; omega, by show (0 : Int) ≤ 5 ∧ (5 : Int) ≤ 5; decide, by show (0 : Int) ≤ 0 ∧ (0 : Int) ≤ _; decide⟩, g2⟩
    · rw [if_neg hq]
      have d2 : (tried + 1 == p) = false := by simp [hq]
      replace hq := Lib.hid hq
      go_enter Tryz.func80, Tryz.ntmps80
      go_wp2_with fail
      go_quiet (fail)
      go_wp2_with fail
      refine gen_world (α := fun W' => bodyPost _ _ _ _ _ W') (fun W' => Blk W' b 148 #[.int .i64 a, .int .i64 p, .int .i64 sh, .int .i64 q, .int .i64 t, .int .u64 z, .int .i64 first, .int .i64 (tried + 1), .int .i64 2, .int .i64 pin, .int .u64 epoch, .bool taken] ∧ Chg (fun k => k = b) w W') ⟨?_, ?_⟩ ?_
      · refine Blk.eq_cs (cs := ((#[.int .i64 a, .int .i64 p, .int .i64 sh, .int .i64 q, .int .i64 t, .int .u64 z, .int .i64 first, .int .i64 tried, .int .i64 2, .int .i64 pin, .int .u64 epoch, .bool taken] : Array Value).setIfInBounds 7 (.int .i64 (tried + 1)))) ?_ rfl
        have hB := hB.out
        (repeat first | with_reducible exact hB | with_reducible refine Blk.drewN ?_ _ | with_reducible refine Blk.drew ?_ | with_reducible refine Blk.alloc ?_ _ | with_reducible refine Blk.set_ ?_ _ _ | refine Blk.far ?_ (by simp; omega) _)
      · have hC := Chg.refl (fun k => k = b) w
        repeat first | with_reducible exact hC | with_reducible refine Chg.drew ?_ | with_reducible refine Chg.drewN ?_ _ | refine Chg.setCell ?_ (by left; rfl) _
      rintro W' ⟨g1, g2⟩
      exact bodyPost_end (v := .tuple #[]) (results_none (by kernel_rfl) _ _ _) rfl ⟨rfl, ⟨g1, fun _ => hr.out, fun _ => hf, fun _ => by show 0 ≤ tried + 1 ∧ tried + 1 ≤ p; omega, by show (0 : Int) ≤ 2 ∧ (2 : Int) ≤ 5; decide, he⟩, g2⟩
set_option maxRecDepth 100000 in
set_option maxHeartbeats 4000000 in
theorem pinTake_any {w : World} {b : Nat} {s : PPin} (h : PinIn w b s) (htp : s.part = 2 → s.tried < s.cfg.pins) (g : PGot) (hg : g.Ok) : Calls Tryz.prog 49 #[.pointer (some ⟨b, 0, none⟩), g.val] w fun e w' => e = .returned (.tuple #[]) ∧ PinIn w' b (s.take g) ∧ Chg (fun k => k = b) w w' := by
  obtain ⟨gw, gt⟩ := g
  rw [show PGot.val ⟨gw, gt⟩ = .agg #[.int .u64 gw, .string gt] from rfl]
  have hgw : 0 ≤ gw ∧ gw ≤ 18446744073709551615 := hg
  have hz : Below w.heap.size w (w.alloc (.cells #[.int .u64 gw, .string gt] 52)) := (Below.refl _ _).alloc (Nat.le_refl _) _
  have hz0 := h.below hz
  have hT : s.take ⟨gw, gt⟩ = if s.part = 1 then { s with epoch := gw, part := 2 } else if s.part = 2 then s.swapped gw else if s.part = 4 then { s with part := 3 } else if s.part = 3 then (if gw = s.epoch then { s with pin := s.at_, part := 5 } else { s with epoch := gw, part := 4 }) else s := by
    unfold PPin.take PPin.swapped
    rfl
  rw [hT]
  clear hT
  have hp5 := h.part
  have hAt : s.part ≠ 0 → s.at_ = (s.first + s.tried) % s.cfg.pins := fun _ => rfl
  generalize s.at_ = at_ at *
  obtain ⟨⟨a, p, sh, q, t, z⟩, first, tried, part, pin, epoch, taken⟩ := s
  simp only at hp5 htp hAt ⊢
  have he : 0 ≤ epoch ∧ epoch ≤ 18446744073709551615 := h.epoch
  have hlt := h.blk.lt
  replace hz := Lib.hid hz
  have hcase : part = 0 ∨ part = 1 ∨ part = 2 ∨ part = 3 ∨ part = 4 ∨ part = 5 := by omega
  rcases hcase with rfl | rfl | rfl | rfl | rfl | rfl
  · as_aux_lemma =>
      simp (config := { decide := true }) only [if_false]
      have hBz : Blk (w.alloc (.cells #[.int .u64 gw, .string gt] 52)) b 148 #[.int .i64 a, .int .i64 p, .int .i64 sh, .int .i64 q, .int .i64 t, .int .u64 z, .int .i64 first, .int .i64 tried, .int .i64 0, .int .i64 pin, .int .u64 epoch, .bool taken] := hz0.blk
      have hBw : Blk w b 148 #[.int .i64 a, .int .i64 p, .int .i64 sh, .int .i64 q, .int .i64 t, .int .u64 z, .int .i64 first, .int .i64 tried, .int .i64 0, .int .i64 pin, .int .u64 epoch, .bool taken] := h.blk
      have c1 := hBw.cell 1
      have f1 := hBw.frozen 1
      have c6 := hBw.cell 6
      have f6 := hBw.frozen 6
      have c7 := hBw.cell 7
      have f7 := hBw.frozen 7
      have c8 := hBw.cell 8
      have f8 := hBw.frozen 8
      have c9 := hBw.cell 9
      have f9 := hBw.frozen 9
      have c10 := hBw.cell 10
      have f10 := hBw.frozen 10
      have c11 := hBw.cell 11
      have f11 := hBw.frozen 11
      replace h := Lib.hid h
      replace hz0 := Lib.hid hz0
      replace hBz := Lib.hid hBz
      replace hBw := Lib.hid hBw
      go_enter Tryz.func49, Tryz.ntmps49
      go_wp2_with fail
      exact bodyPost_end (v := .tuple #[]) (results_none (by kernel_rfl) _ _ _) rfl ⟨rfl, hz0.out, Chg.of_below hz.out _⟩
  · as_aux_lemma =>
      simp (config := { decide := true }) only [if_true]
      have hBz : Blk (w.alloc (.cells #[.int .u64 gw, .string gt] 52)) b 148 #[.int .i64 a, .int .i64 p, .int .i64 sh, .int .i64 q, .int .i64 t, .int .u64 z, .int .i64 first, .int .i64 tried, .int .i64 1, .int .i64 pin, .int .u64 epoch, .bool taken] := hz0.blk
      have hBw : Blk w b 148 #[.int .i64 a, .int .i64 p, .int .i64 sh, .int .i64 q, .int .i64 t, .int .u64 z, .int .i64 first, .int .i64 tried, .int .i64 1, .int .i64 pin, .int .u64 epoch, .bool taken] := h.blk
      have c1 := hBw.cell 1
      have f1 := hBw.frozen 1
      have c6 := hBw.cell 6
      have f6 := hBw.frozen 6
      have c7 := hBw.cell 7
      have f7 := hBw.frozen 7
      have c8 := hBw.cell 8
      have f8 := hBw.frozen 8
      have c9 := hBw.cell 9
      have f9 := hBw.frozen 9
      have c10 := hBw.cell 10
      have f10 := hBw.frozen 10
      have c11 := hBw.cell 11
      have f11 := hBw.frozen 11
      have hr := h.right (by show ¬ _; simp)
      have hf := h.first (by show ¬ _; simp)
      have ht := h.tried (by show ¬ _; simp)
      have hp := hr.pins
      simp only at hf ht hp
      replace hr := Lib.hid hr
      replace h := Lib.hid h
      replace hz0 := Lib.hid hz0
      replace hBz := Lib.hid hBz
      replace hBw := Lib.hid hBw
      go_enter Tryz.func49, Tryz.ntmps49
      go_wp2_with fail
      refine gen_world (α := fun W' => bodyPost _ _ _ _ _ W') (fun W' => Blk W' b 148 #[.int .i64 a, .int .i64 p, .int .i64 sh, .int .i64 q, .int .i64 t, .int .u64 z, .int .i64 first, .int .i64 tried, .int .i64 2, .int .i64 pin, .int .u64 gw, .bool taken] ∧ Chg (fun k => k = b) w W') ⟨?_, ?_⟩ ?_
      · refine Blk.eq_cs (cs := (((#[.int .i64 a, .int .i64 p, .int .i64 sh, .int .i64 q, .int .i64 t, .int .u64 z, .int .i64 first, .int .i64 tried, .int .i64 1, .int .i64 pin, .int .u64 epoch, .bool taken] : Array Value).setIfInBounds 10 (.int .u64 gw)).setIfInBounds 8 (.int .i64 2))) ?_ rfl
        have hB := hBw.out
        (repeat first | with_reducible exact hB | with_reducible refine Blk.drewN ?_ _ | with_reducible refine Blk.drew ?_ | with_reducible refine Blk.alloc ?_ _ | with_reducible refine Blk.set_ ?_ _ _ | refine Blk.far ?_ (by simp; omega) _)
      · have hC := Chg.refl (fun k => k = b) w
        repeat first | with_reducible exact hC | with_reducible refine Chg.drew ?_ | with_reducible refine Chg.drewN ?_ _ | with_reducible refine Chg.alloc ?_ _ | refine Chg.setCell ?_ (by left; rfl) _
      rintro W' ⟨g1, g2⟩
      exact bodyPost_end (v := .tuple #[]) (results_none (by kernel_rfl) _ _ _) rfl ⟨rfl, ⟨g1, fun _ => hr.out, fun _ => hf, fun _ => ht, by show (0 : Int) ≤ 2 ∧ (2 : Int) ≤ 5; decide, hgw⟩, g2⟩
  · as_aux_lemma =>
      simp (config := { decide := true }) only [if_true, if_false]
      have hBz : Blk (w.alloc (.cells #[.int .u64 gw, .string gt] 52)) b 148 #[.int .i64 a, .int .i64 p, .int .i64 sh, .int .i64 q, .int .i64 t, .int .u64 z, .int .i64 first, .int .i64 tried, .int .i64 2, .int .i64 pin, .int .u64 epoch, .bool taken] := hz0.blk
      have hBw : Blk w b 148 #[.int .i64 a, .int .i64 p, .int .i64 sh, .int .i64 q, .int .i64 t, .int .u64 z, .int .i64 first, .int .i64 tried, .int .i64 2, .int .i64 pin, .int .u64 epoch, .bool taken] := h.blk
      have c1 := hBw.cell 1
      have f1 := hBw.frozen 1
      have c6 := hBw.cell 6
      have f6 := hBw.frozen 6
      have c7 := hBw.cell 7
      have f7 := hBw.frozen 7
      have c8 := hBw.cell 8
      have f8 := hBw.frozen 8
      have c9 := hBw.cell 9
      have f9 := hBw.frozen 9
      have c10 := hBw.cell 10
      have f10 := hBw.frozen 10
      have c11 := hBw.cell 11
      have f11 := hBw.frozen 11
      have hSw := swapped_any hz0 rfl (htp rfl) gw
      replace hSw := Lib.hid hSw
      replace h := Lib.hid h
      replace hz0 := Lib.hid hz0
      replace hBz := Lib.hid hBz
      replace hBw := Lib.hid hBw
      go_enter Tryz.func49, Tryz.ntmps49
      go_wp2_with fail
      refine (hSw.out).mono ?_; rintro e w2 ⟨rfl, hR, hC⟩
      go_wp2_with fail
      exact bodyPost_end (v := .tuple #[]) (results_none (by kernel_rfl) _ _ _) rfl ⟨rfl, hR, (Chg.of_below hz.out _).trans hC fun i hi => Or.inl hi⟩
  · as_aux_lemma =>
      simp (config := { decide := true }) only [if_true, if_false]
      have hBz : Blk (w.alloc (.cells #[.int .u64 gw, .string gt] 52)) b 148 #[.int .i64 a, .int .i64 p, .int .i64 sh, .int .i64 q, .int .i64 t, .int .u64 z, .int .i64 first, .int .i64 tried, .int .i64 3, .int .i64 pin, .int .u64 epoch, .bool taken] := hz0.blk
      have hBw : Blk w b 148 #[.int .i64 a, .int .i64 p, .int .i64 sh, .int .i64 q, .int .i64 t, .int .u64 z, .int .i64 first, .int .i64 tried, .int .i64 3, .int .i64 pin, .int .u64 epoch, .bool taken] := h.blk
      have c1 := hBw.cell 1
      have f1 := hBw.frozen 1
      have c6 := hBw.cell 6
      have f6 := hBw.frozen 6
      have c7 := hBw.cell 7
      have f7 := hBw.frozen 7
      have c8 := hBw.cell 8
      have f8 := hBw.frozen 8
      have c9 := hBw.cell 9
      have f9 := hBw.frozen 9
      have c10 := hBw.cell 10
      have f10 := hBw.frozen 10
      have c11 := hBw.cell 11
      have f11 := hBw.frozen 11
      have hr := h.right (by show ¬ _; simp)
      have hf := h.first (by show ¬ _; simp)
      have ht := h.tried (by show ¬ _; simp)
      have hp := hr.pins
      simp only at hf ht hp
      replace hr := Lib.hid hr
      have hat := hAt (by simp)
      have hm : (first + tried).tmod p = at_ := by rw [Int.tmod_eq_emod_of_nonneg (by omega), hat]
      have hw : IntKind.i64.wrap (first + tried) = first + tried := IntWalk.i64_in _ (by omega)
      have hp0 : ¬ p = 0 := by omega
      have hp1 : ¬ p = -1 := by omega
      have hpp : 0 < p := by omega
      have hpz : (p == 0) = false := by rw [beq_eq_false_iff_ne]; omega
      replace hat := Lib.hid hat
      clear hAt
      replace h := Lib.hid h
      replace hz0 := Lib.hid hz0
      replace hBz := Lib.hid hBz
      replace hBw := Lib.hid hBw
      by_cases hq : gw = epoch
      · subst hq
        simp only [if_true]
        go_enter Tryz.func49, Tryz.ntmps49
        go_wp2_with fail
        go_quiet (fail)
        go_wp2_with fail
        go_region
        go_wp2_with fail
        refine gen_world (α := fun W' => bodyPost _ _ _ _ _ W') (fun W' => Blk W' b 148 #[.int .i64 a, .int .i64 p, .int .i64 sh, .int .i64 q, .int .i64 t, .int .u64 z, .int .i64 first, .int .i64 tried, .int .i64 5, .int .i64 at_, .int .u64 gw, .bool taken] ∧ Chg (fun k => k = b) w W') ⟨?_, ?_⟩ ?_
        · refine Blk.eq_cs (cs := (((#[.int .i64 a, .int .i64 p, .int .i64 sh, .int .i64 q, .int .i64 t, .int .u64 z, .int .i64 first, .int .i64 tried, .int .i64 3, .int .i64 pin, .int .u64 gw, .bool taken] : Array Value).setIfInBounds 9 (.int .i64 at_)).setIfInBounds 8 (.int .i64 5))) ?_ rfl
          have hB := hBw.out
          (repeat first | with_reducible exact hB | with_reducible refine Blk.drewN ?_ _ | with_reducible refine Blk.drew ?_ | with_reducible refine Blk.alloc ?_ _ | with_reducible refine Blk.set_ ?_ _ _ | refine Blk.far ?_ (by simp; omega) _)
        · have hC := Chg.refl (fun k => k = b) w
          repeat first | with_reducible exact hC | with_reducible refine Chg.drew ?_ | with_reducible refine Chg.drewN ?_ _ | with_reducible refine Chg.alloc ?_ _ | refine Chg.setCell ?_ (by left; rfl) _
        rintro W' ⟨g1, g2⟩
        exact bodyPost_end (v := .tuple #[]) (results_none (by kernel_rfl) _ _ _) rfl ⟨rfl, ⟨g1, fun _ => hr.out, fun _ => hf, fun _ => ht, by show (0 : Int) ≤ 5 ∧ (5 : Int) ≤ 5; decide, he⟩, g2⟩
      · rw [if_neg hq]
        have d1 : (gw == epoch) = false := by simp [hq]
        replace hq := Lib.hid hq
        go_enter Tryz.func49, Tryz.ntmps49
        go_wp2_with fail
        go_quiet (fail)
        go_wp2_with fail
        refine gen_world (α := fun W' => bodyPost _ _ _ _ _ W') (fun W' => Blk W' b 148 #[.int .i64 a, .int .i64 p, .int .i64 sh, .int .i64 q, .int .i64 t, .int .u64 z, .int .i64 first, .int .i64 tried, .int .i64 4, .int .i64 pin, .int .u64 gw, .bool taken] ∧ Chg (fun k => k = b) w W') ⟨?_, ?_⟩ ?_
        · refine Blk.eq_cs (cs := (((#[.int .i64 a, .int .i64 p, .int .i64 sh, .int .i64 q, .int .i64 t, .int .u64 z, .int .i64 first, .int .i64 tried, .int .i64 3, .int .i64 pin, .int .u64 epoch, .bool taken] : Array Value).setIfInBounds 10 (.int .u64 gw)).setIfInBounds 8 (.int .i64 4))) ?_ rfl
          have hB := hBw.out
          (repeat first | with_reducible exact hB | with_reducible refine Blk.drewN ?_ _ | with_reducible refine Blk.drew ?_ | with_reducible refine Blk.alloc ?_ _ | with_reducible refine Blk.set_ ?_ _ _ | refine Blk.far ?_ (by simp; omega) _)
        · have hC := Chg.refl (fun k => k = b) w
          repeat first | with_reducible exact hC | with_reducible refine Chg.drew ?_ | with_reducible refine Chg.drewN ?_ _ | with_reducible refine Chg.alloc ?_ _ | refine Chg.setCell ?_ (by left; rfl) _
        rintro W' ⟨g1, g2⟩
        exact bodyPost_ret (v := .tuple #[]) (results_none (by kernel_rfl) _ _ _) rfl ⟨rfl, ⟨g1, fun _ => hr.out, fun _ => hf, fun _ => ht, by show (0 : Int) ≤ 4 ∧ (4 : Int) ≤ 5; decide, hgw⟩, g2⟩
  · as_aux_lemma =>
      simp (config := { decide := true }) only [if_true, if_false]
      have hBz : Blk (w.alloc (.cells #[.int .u64 gw, .string gt] 52)) b 148 #[.int .i64 a, .int .i64 p, .int .i64 sh, .int .i64 q, .int .i64 t, .int .u64 z, .int .i64 first, .int .i64 tried, .int .i64 4, .int .i64 pin, .int .u64 epoch, .bool taken] := hz0.blk
      have hBw : Blk w b 148 #[.int .i64 a, .int .i64 p, .int .i64 sh, .int .i64 q, .int .i64 t, .int .u64 z, .int .i64 first, .int .i64 tried, .int .i64 4, .int .i64 pin, .int .u64 epoch, .bool taken] := h.blk
      have c1 := hBw.cell 1
      have f1 := hBw.frozen 1
      have c6 := hBw.cell 6
      have f6 := hBw.frozen 6
      have c7 := hBw.cell 7
      have f7 := hBw.frozen 7
      have c8 := hBw.cell 8
      have f8 := hBw.frozen 8
      have c9 := hBw.cell 9
      have f9 := hBw.frozen 9
      have c10 := hBw.cell 10
      have f10 := hBw.frozen 10
      have c11 := hBw.cell 11
      have f11 := hBw.frozen 11
      have hr := h.right (by show ¬ _; simp)
      have hf := h.first (by show ¬ _; simp)
      have ht := h.tried (by show ¬ _; simp)
      have hp := hr.pins
      simp only at hf ht hp
      replace hr := Lib.hid hr
      replace h := Lib.hid h
      replace hz0 := Lib.hid hz0
      replace hBz := Lib.hid hBz
      replace hBw := Lib.hid hBw
      go_enter Tryz.func49, Tryz.ntmps49
      go_wp2_with fail
      refine gen_world (α := fun W' => bodyPost _ _ _ _ _ W') (fun W' => Blk W' b 148 #[.int .i64 a, .int .i64 p, .int .i64 sh, .int .i64 q, .int .i64 t, .int .u64 z, .int .i64 first, .int .i64 tried, .int .i64 3, .int .i64 pin, .int .u64 epoch, .bool taken] ∧ Chg (fun k => k = b) w W') ⟨?_, ?_⟩ ?_
      · refine Blk.eq_cs (cs := ((#[.int .i64 a, .int .i64 p, .int .i64 sh, .int .i64 q, .int .i64 t, .int .u64 z, .int .i64 first, .int .i64 tried, .int .i64 4, .int .i64 pin, .int .u64 epoch, .bool taken] : Array Value).setIfInBounds 8 (.int .i64 3))) ?_ rfl
        have hB := hBw.out
        (repeat first | with_reducible exact hB | with_reducible refine Blk.drewN ?_ _ | with_reducible refine Blk.drew ?_ | with_reducible refine Blk.alloc ?_ _ | with_reducible refine Blk.set_ ?_ _ _ | refine Blk.far ?_ (by simp; omega) _)
      · have hC := Chg.refl (fun k => k = b) w
        repeat first | with_reducible exact hC | with_reducible refine Chg.drew ?_ | with_reducible refine Chg.drewN ?_ _ | with_reducible refine Chg.alloc ?_ _ | refine Chg.setCell ?_ (by left; rfl) _
      rintro W' ⟨g1, g2⟩
      exact bodyPost_end (v := .tuple #[]) (results_none (by kernel_rfl) _ _ _) rfl ⟨rfl, ⟨g1, fun _ => hr.out, fun _ => hf, fun _ => ht, by show (0 : Int) ≤ 3 ∧ (3 : Int) ≤ 5; decide, he⟩, g2⟩
  · as_aux_lemma =>
      simp (config := { decide := true }) only [if_false]
      have hBz : Blk (w.alloc (.cells #[.int .u64 gw, .string gt] 52)) b 148 #[.int .i64 a, .int .i64 p, .int .i64 sh, .int .i64 q, .int .i64 t, .int .u64 z, .int .i64 first, .int .i64 tried, .int .i64 5, .int .i64 pin, .int .u64 epoch, .bool taken] := hz0.blk
      have hBw : Blk w b 148 #[.int .i64 a, .int .i64 p, .int .i64 sh, .int .i64 q, .int .i64 t, .int .u64 z, .int .i64 first, .int .i64 tried, .int .i64 5, .int .i64 pin, .int .u64 epoch, .bool taken] := h.blk
      have c1 := hBw.cell 1
      have f1 := hBw.frozen 1
      have c6 := hBw.cell 6
      have f6 := hBw.frozen 6
      have c7 := hBw.cell 7
      have f7 := hBw.frozen 7
      have c8 := hBw.cell 8
      have f8 := hBw.frozen 8
      have c9 := hBw.cell 9
      have f9 := hBw.frozen 9
      have c10 := hBw.cell 10
      have f10 := hBw.frozen 10
      have c11 := hBw.cell 11
      have f11 := hBw.frozen 11
      replace h := Lib.hid h
      replace hz0 := Lib.hid hz0
      replace hBz := Lib.hid hBz
      replace hBw := Lib.hid hBw
      go_enter Tryz.func49, Tryz.ntmps49
      go_wp2_with fail
      exact bodyPost_end (v := .tuple #[]) (results_none (by kernel_rfl) _ _ _) rfl ⟨rfl, hz0.out, Chg.of_below hz.out _⟩
end Go.Proofs.YtmlnhjfdhjachaaGreat

/-
  The routine that pins an epoch (layer 25): how it is made. No condition.
-/
namespace Go.Proofs.YtmlnhjfdhjachaaGreat
set_option linter.unusedVariables false
open Go.ChangeShapes Go.WideShapes Go.ChangeAt Go.RowKit
open Go.ChangeMaps (setBlock)

def newPin (c : PCfg) (th : Int) : PPin := ⟨c, th % c.pins, 0, 1, 0, 0, false⟩
set_option maxRecDepth 100000 in
set_option maxHeartbeats 1000000 in
theorem pinNew_any (c : PCfg) (hc : c.Right) (th : Int) (hth : 0 ≤ th ∧ th ≤ 9223372036854775807) (w : World) :
    Calls Tryz.prog 37 #[c.val, .int .i64 th] w fun e w' => ∃ b, e = .returned (.pointer (some ⟨b, 0, none⟩)) ∧ PinIn w' b (newPin c th) ∧ w.heap.size ≤ b ∧ Below w.heap.size w w' := by
  have hR := fun W => right_cfg c W
  rw [(PCfg.right_iff c).2 hc] at hR
  have hp := hc.pins
  have fin : ∀ (W : World) (b : Nat), Blk W b 148 #[.int .i64 c.cap, .int .i64 c.pins, .int .i64 c.shelves, .int .i64 c.queue, .int .i64 c.watchers, .int .u64 c.seed, .int .i64 (th % c.pins), .int .i64 0, .int .i64 1, .int .i64 0, .int .u64 0, .bool false] → PinIn W b (newPin c th) := fun W b h =>
    ⟨h, fun _ => hc, fun _ => ⟨Int.emod_nonneg _ (by omega), Int.emod_lt_of_pos _ (by omega)⟩, fun _ => by show (0 : Int) ≤ 0 ∧ (0 : Int) ≤ c.pins; omega, by show (0 : Int) ≤ 1 ∧ (1 : Int) ≤ 5; decide, by show (0 : Int) ≤ 0 ∧ (0 : Int) ≤ 18446744073709551615; decide⟩
  generalize newPin c th = N at *
  clear hc
  obtain ⟨a, p, s, q, t, z⟩ := c
  simp only at hp fin
  have hm : th.tmod p = th % p := Int.tmod_eq_emod_of_nonneg hth.1
  have hp0 : ¬ p = 0 := by omega
  have hp1 : ¬ p = -1 := by omega
  have hpp : 0 < p := by omega
  have hpz : (p == 0) = false := by rw [beq_eq_false_iff_ne]; omega
  have hn0 : decide (th < 0) = false := by simp; omega
  rw [show PCfg.val ⟨a, p, s, q, t, z⟩ = .agg #[.int .i64 a, .int .i64 p, .int .i64 s, .int .i64 q, .int .i64 t, .int .u64 z] from rfl] at *
  have B1 := Blk.new w 24 #[.int .i64 a, .int .i64 p, .int .i64 s, .int .i64 q, .int .i64 t, .int .u64 z]
  have hz : Below w.heap.size w (w.alloc (.cells #[.int .i64 a, .int .i64 p, .int .i64 s, .int .i64 q, .int .i64 t, .int .u64 z] 24)) := (Below.refl _ _).alloc (Nat.le_refl _) _
  replace B1 := Lib.hid B1
  replace hz := Lib.hid hz
  replace hR := Lib.hid hR
  replace fin := Lib.hid fin
  go_enter Tryz.func37, Tryz.ntmps37
  go_wp2_with fail
  refine (hR.out _).mono ?_; rintro e w1 ⟨rfl, hb⟩
  have B2 := B1.out.below hb (by simp)
  have hb' := nx hz.out (Nat.le_refl _) hb
  have d0 := B2.cell 0
  have d1 := B2.cell 1
  have d2 := B2.cell 2
  have d3 := B2.cell 3
  have d4 := B2.cell 4
  have d5 := B2.cell 5
  clear hb
  replace B2 := Lib.hid B2
  replace hb' := Lib.hid hb'
  go_wp2_with fail
  go_still_tail 6, (by kernel_rfl)
  change wpList _ _ _ _ _ w1.drew
  go_wp2_with fail
  go_ret
  exact ⟨w1.heap.size, rfl, fin.out _ _ (Blk.new w1.drew _ _), hb'.out.size, hb'.out.drew.alloc hb'.out.size _⟩
end Go.Proofs.YtmlnhjfdhjachaaGreat

/-
  Pinning an epoch (layer 25): the plain law of its steps. No condition.
-/
namespace Go.Proofs.YtmlnhjfdhjachaaGreat
set_option linter.unusedVariables false
open Go.ChangeShapes Go.WideShapes Go.ChangeAt Go.RowKit
open Go.ChangeMaps (setBlock)

/-- What holds of each routine that was made right, and of what it became. -/
structure PinInv (c : PCfg) (s : PPin) : Prop where
  right : c.Right
  cfg : s.cfg = c
  part : 1 ≤ s.part ∧ s.part ≤ 5
  first : 0 ≤ s.first ∧ s.first < c.pins
  tried : 0 ≤ s.tried ∧ s.tried ≤ c.pins
  one : s.part = 1 → s.tried = 0
  two : s.part = 2 ∨ s.part = 3 ∨ s.part = 4 → s.tried < c.pins
theorem u64_span (n : Int) : 0 ≤ IntKind.u64.wrap n ∧ IntKind.u64.wrap n ≤ 18446744073709551615 := by rw [IntKind.wrap_u64]; omega
theorem PinInv.take {c : PCfg} {s : PPin} (h : PinInv c s) (g : PGot) : PinInv c (s.take g) := by
  obtain ⟨h1, h2, h3, h4, h5, h6, h7⟩ := h
  have hp := h1.pins
  unfold PPin.take
  by_cases p1 : s.part = 1
  · rw [if_pos p1]
    exact ⟨h1, h2, by show (1 : Int) ≤ 2 ∧ (2 : Int) ≤ 5; decide, h4, h5, fun e => (by cases e), fun _ => by show s.tried < c.pins; have := h6 p1; omega⟩
  rw [if_neg p1]
  by_cases p2 : s.part = 2
  · rw [if_pos p2]
    have := h7 (.inl p2)
    by_cases hg : g.word = 0
    · rw [if_pos hg]
      exact ⟨h1, h2, by show (1 : Int) ≤ 3 ∧ (3 : Int) ≤ 5; decide, h4, h5, fun e => (by cases e), fun _ => this⟩
    rw [if_neg hg]
    by_cases ht : s.tried + 1 = s.cfg.pins
    · rw [if_pos ht]
      rw [h2] at ht
      exact ⟨h1, h2, by show (1 : Int) ≤ 5 ∧ (5 : Int) ≤ 5; decide, h4, by show 0 ≤ s.tried + 1 ∧ s.tried + 1 ≤ c.pins; omega, fun e => (by cases e), fun e => (by rcases e with e | e | e <;> cases e)⟩
    rw [if_neg ht]
    rw [h2] at ht
    exact ⟨h1, h2, h3, h4, by show 0 ≤ s.tried + 1 ∧ s.tried + 1 ≤ c.pins; omega, fun e => absurd e p1, fun _ => by show s.tried + 1 < c.pins; omega⟩
  rw [if_neg p2]
  by_cases p4 : s.part = 4
  · rw [if_pos p4]
    exact ⟨h1, h2, by show (1 : Int) ≤ 3 ∧ (3 : Int) ≤ 5; decide, h4, h5, fun e => (by cases e), fun _ => h7 (.inr (.inr p4))⟩
  rw [if_neg p4]
  by_cases p3 : s.part = 3
  · rw [if_pos p3]
    have := h7 (.inr (.inl p3))
    by_cases hg : g.word = s.epoch
    · rw [if_pos hg]
      exact ⟨h1, h2, by show (1 : Int) ≤ 5 ∧ (5 : Int) ≤ 5; decide, h4, h5, fun e => (by cases e), fun e => (by rcases e with e | e | e <;> cases e)⟩
    rw [if_neg hg]
    exact ⟨h1, h2, by show (1 : Int) ≤ 4 ∧ (4 : Int) ≤ 5; decide, h4, h5, fun e => (by cases e), fun _ => this⟩
  rw [if_neg p3]
  exact ⟨h1, h2, h3, h4, h5, h6, h7⟩
theorem PinInv.at_ok {c : PCfg} {s : PPin} (h : PinInv c s) : 0 ≤ s.at_ ∧ s.at_ < c.pins ∧ c.pins ≤ 8 := by
  have := h.right.pins
  unfold PPin.at_
  rw [h.cfg]
  exact ⟨Int.emod_nonneg _ (by omega), Int.emod_lt_of_pos _ (by omega), this.2⟩
theorem PPin.act1 {s : PPin} (h : s.part = 1 ∨ s.part = 3) : s.act = (⟨1, 1, ((0 : Nat) : Int), 0, 0, ByteArray.empty⟩, true) := by unfold PPin.act; rw [if_pos h]; rfl
theorem PPin.act2 {s : PPin} (h : s.part = 2) (k : Nat) (hk : s.at_ = k) : s.act = (⟨3, 1, ((3 + k : Nat) : Int), 0, IntKind.u64.wrap (s.epoch + 1), ByteArray.empty⟩, true) := by
  unfold PPin.act
  rw [if_neg (by omega), if_pos h, hk, show ((3 + k : Nat) : Int) = 3 + (k : Int) by omega]
theorem PPin.act4 {s : PPin} (h : s.part = 4) (k : Nat) (hk : s.at_ = k) : s.act = (⟨2, 1, ((3 + k : Nat) : Int), 0, IntKind.u64.wrap (s.epoch + 1), ByteArray.empty⟩, true) := by
  unfold PPin.act
  rw [if_neg (by omega), if_neg (by omega), if_pos h, hk, show ((3 + k : Nat) : Int) = 3 + (k : Int) by omega]
theorem PPin.act5 {s : PPin} (h : s.part = 5) : s.act = (noAct, false) := by
  unfold PPin.act
  rw [if_neg (by omega), if_neg (by omega), if_neg (by omega)]
theorem PPin.result5 {s : PPin} (h : s.part = 5) : s.result = ((s.pin, s.epoch, s.taken), true) := by unfold PPin.result; rw [if_pos h]
theorem PPin.resultN {s : PPin} (h : s.part ≠ 5) : s.result = ((0, 0, false), false) := by unfold PPin.result; rw [if_neg h]
theorem PPin.take1 {s : PPin} (h : s.part = 1) (g : PGot) : s.take g = { s with epoch := g.word, part := 2 } := by unfold PPin.take; rw [if_pos h]
theorem PPin.take2a {s : PPin} (h : s.part = 2) (g : PGot) (hg : g.word = 0) : s.take g = { s with part := 3 } := by unfold PPin.take; rw [if_neg (by omega), if_pos h, if_pos hg]
theorem PPin.take2b {s : PPin} (h : s.part = 2) (g : PGot) (hg : g.word ≠ 0) (ht : s.tried + 1 = s.cfg.pins) : s.take g = { s with tried := s.tried + 1, pin := 0, epoch := 0, taken := true, part := 5 } := by unfold PPin.take; rw [if_neg (by omega), if_pos h, if_neg hg, if_pos ht]
theorem PPin.take2c {s : PPin} (h : s.part = 2) (g : PGot) (hg : g.word ≠ 0) (ht : s.tried + 1 ≠ s.cfg.pins) : s.take g = { s with tried := s.tried + 1 } := by unfold PPin.take; rw [if_neg (by omega), if_pos h, if_neg hg, if_neg ht]
theorem PPin.take3a {s : PPin} (h : s.part = 3) (g : PGot) (hg : g.word = s.epoch) : s.take g = { s with pin := s.at_, part := 5 } := by unfold PPin.take; rw [if_neg (by omega), if_neg (by omega), if_neg (by omega), if_pos h, if_pos hg]
theorem PPin.take5 {s : PPin} (h : s.part = 5) (g : PGot) : s.take g = s := by unfold PPin.take; rw [if_neg (by omega), if_neg (by omega), if_neg (by omega), if_neg (by omega)]
theorem PinInv.feed {c : PCfg} {s0 : PPin} (h : PinInv c s0) : ∀ Q : List PGot, PinInv c (feed PPin.take s0 Q)
  | [] => h
  | g :: Q => PinInv.feed (h.take g) Q
theorem PinInv.is {c : PCfg} {s : PPin} (h : PinInv c s) : s.result.2 = !s.act.2 ∧ (s.act.2 = false → s.act.1 = noAct) := by
  obtain ⟨k, hk⟩ : ∃ k : Nat, s.at_ = k := ⟨s.at_.toNat, by have := h.at_ok; omega⟩
  have := h.part
  rcases (by omega : s.part = 1 ∨ s.part = 2 ∨ s.part = 3 ∨ s.part = 4 ∨ s.part = 5) with p | p | p | p | p
  · rw [PPin.act1 (.inl p), PPin.resultN (by omega)]; exact ⟨rfl, fun e => by cases e⟩
  · rw [PPin.act2 p k hk, PPin.resultN (by omega)]; exact ⟨rfl, fun e => by cases e⟩
  · rw [PPin.act1 (.inr p), PPin.resultN (by omega)]; exact ⟨rfl, fun e => by cases e⟩
  · rw [PPin.act4 p k hk, PPin.resultN (by omega)]; exact ⟨rfl, fun e => by cases e⟩
  · rw [PPin.act5 p, PPin.result5 p]; exact ⟨rfl, fun _ => rfl⟩
end Go.Proofs.YtmlnhjfdhjachaaGreat

/-
  The routine that pins an epoch (layer 25), as a routine. No condition.
-/
namespace Go.Proofs.YtmlnhjfdhjachaaGreat
set_option linter.unusedVariables false
open Go.ChangeShapes Go.WideShapes Go.ChangeAt Go.RowKit
open Go.ChangeMaps (setBlock)

/-- A routine that was made right, where it lies. -/
structure PinOk (c : PCfg) (w : World) (b : Nat) (s : PPin) : Prop where
  lies : PinIn w b s
  inv : PinInv c s
theorem PinOk.keep {c : PCfg} {w w' : World} {b : Nat} {s : PPin} (h : PinOk c w b s) (hb : w'.heap[b]? = w.heap[b]?) : PinOk c w' b s := ⟨h.lies.keep hb, h.inv⟩
theorem PinOk.below {c : PCfg} {w w' : World} {b : Nat} {s : PPin} (h : PinOk c w b s) (hb : Below w.heap.size w w') : PinOk c w' b s := ⟨h.lies.below hb, h.inv⟩
def PinR (c : PCfg) (w : World) (Q : Nat → Prop) (b : Nat) (s : PPin) : Prop := In Q w ∧ Q b ∧ PinOk c w b s
theorem newPin_inv (c : PCfg) (hc : c.Right) (th : Int) (hth : 0 ≤ th) : PinInv c (newPin c th) :=
  ⟨hc, rfl, by show (1 : Int) ≤ 1 ∧ (1 : Int) ≤ 5; decide, ⟨Int.emod_nonneg _ (by have := hc.pins; omega), Int.emod_lt_of_pos _ (by have := hc.pins; omega)⟩, by have := hc.pins; show (0 : Int) ≤ 0 ∧ (0 : Int) ≤ c.pins; omega, fun _ => rfl, fun e => by rcases e with e | e | e <;> cases e⟩
theorem pinAct_ok {c : PCfg} {s : PPin} (h : PinInv c s) : (s.act).1.Ok := by
  obtain ⟨k, hk⟩ : ∃ k : Nat, s.at_ = k := ⟨s.at_.toNat, by have := h.at_ok; omega⟩
  have ha := h.at_ok
  have k0 : (-9223372036854775808 : Int) ≤ 0 ∧ (0 : Int) ≤ 9223372036854775807 := by decide
  have k1 : (-9223372036854775808 : Int) ≤ 1 ∧ (1 : Int) ≤ 9223372036854775807 := by decide
  have k2 : (-9223372036854775808 : Int) ≤ 2 ∧ (2 : Int) ≤ 9223372036854775807 := by decide
  have k3 : (-9223372036854775808 : Int) ≤ 3 ∧ (3 : Int) ≤ 9223372036854775807 := by decide
  have kc : (-9223372036854775808 : Int) ≤ ((3 + k : Nat) : Int) ∧ ((3 + k : Nat) : Int) ≤ 9223372036854775807 := by omega
  have z : (0 : Int) ≤ 0 ∧ (0 : Int) ≤ 18446744073709551615 := by decide
  have z1 : (0 : Int) ≤ 1 ∧ (1 : Int) ≤ 18446744073709551615 := by decide
  have hE : ByteArray.empty.size ≤ 9223372036854775807 := by decide
  have := h.part
  rcases (by omega : s.part = 1 ∨ s.part = 2 ∨ s.part = 3 ∨ s.part = 4 ∨ s.part = 5) with p | p | p | p | p
  · rw [PPin.act1 (.inl p)]; exact ⟨k1, z1, k0, z, z, hE⟩
  · rw [PPin.act2 p k hk]; exact ⟨k3, z1, kc, z, u64_span _, hE⟩
  · rw [PPin.act1 (.inr p)]; exact ⟨k1, z1, k0, z, z, hE⟩
  · rw [PPin.act4 p k hk]; exact ⟨k2, z1, kc, z, u64_span _, hE⟩
  · rw [PPin.act5 p]; exact ⟨k0, z, k0, z, z, hE⟩
def pinRout (c : PCfg) : Rout PPin where
  T := 91
  fAct := 38
  fTake := 49
  mAct := fun _ _ => by kernel_rfl
  mTake := fun _ _ => by kernel_rfl
  nAct := fun _ _ => by kernel_rfl
  nTake := fun _ _ => by kernel_rfl
  eAct := fun _ _ => by kernel_rfl
  eTake := fun _ _ => by kernel_rfl
  R := PinR c
  own := fun h => h.1
  hG := fun h => h.2.1
  keep := fun ⟨h1, h2, h3⟩ hs hk => ⟨h1.mono hs, h2, h3.keep (hk _ h2)⟩
  act := PPin.act
  take := PPin.take
  okA := fun h => pinAct_ok h.2.2.inv
  cAct := fun ⟨_, _, h⟩ => pinAct_any h.lies
  cTake := fun {w G b s} g ⟨h1, h2, h3⟩ hg _ => (pinTake_any h3.lies (fun e => by rw [h3.inv.cfg]; exact h3.inv.two (.inl e)) g hg).mono fun e w' ⟨he, hv, hc⟩ => ⟨he, ⟨h1.nw hc.size, .inl h2, hv, h3.inv.take g⟩, hc.mono fun i hi => by rw [hi]; exact h2⟩
theorem pinNew_ok (c : PCfg) (hc : c.Right) (th : Int) (hth : 0 ≤ th ∧ th ≤ 9223372036854775807) (w : World) :
    Calls Tryz.prog 37 #[c.val, .int .i64 th] w fun e w' => ∃ b, e = .returned (.pointer (some ⟨b, 0, none⟩)) ∧ PinOk c w' b (newPin c th) ∧ w.heap.size ≤ b ∧ Below w.heap.size w w' :=
  (pinNew_any c hc th hth w).mono fun e w' ⟨b, he, h1, h2, h3⟩ => ⟨b, he, ⟨h1, newPin_inv c hc th hth.1⟩, h2, h3⟩
theorem can_pin {c : PCfg} {S : PHeap} {s : PPin} (h : PinInv c s) : (pinRout c).can S s = !(decide (s.part = 5)) := by
  show ((PPin.act s).2 && S.ready (PPin.act s).1) = _
  obtain ⟨k, hk⟩ : ∃ k : Nat, s.at_ = k := ⟨s.at_.toNat, by have := h.at_ok; omega⟩
  have := h.part
  rcases (by omega : s.part = 1 ∨ s.part = 2 ∨ s.part = 3 ∨ s.part = 4 ∨ s.part = 5) with p | p | p | p | p
  · rw [PPin.act1 (.inl p), ready_load, p]; rfl
  · rw [PPin.act2 p k hk, ready_swap, p]; rfl
  · rw [PPin.act1 (.inr p), ready_load, p]; rfl
  · rw [PPin.act4 p k hk, ready_store, p]; rfl
  · rw [PPin.act5 p, p]; rfl
end Go.Proofs.YtmlnhjfdhjachaaGreat

/-
  The document's pinning on a tape (layer 25). No condition.
-/
namespace Go.Proofs.YtmlnhjfdhjachaaGreat
set_option linter.unusedVariables false
open Go.ChangeShapes Go.WideShapes Go.ChangeAt Go.RowKit
open Go.ChangeMaps (setBlock)

end Go.Proofs.YtmlnhjfdhjachaaGreat

/-
  A routine within another one, answered from a tape from some place on: how both go on side by side. No condition.
-/
namespace Go.Proofs.YtmlnhjfdhjachaaGreat
set_option linter.unusedVariables false
open Go.ChangeShapes Go.WideShapes Go.ChangeAt Go.RowKit
open Go.ChangeMaps (setBlock)

section
variable {σ : Type}
/-- The tape isn't over; a routine began at the place a, and stands where the tape does; it had an act at each place before. -/
structure FedA (a : Nat) (act : σ → PAct × Bool) (take : σ → PGot → σ) (s0 : σ) (Q : List PGot) (T : PTape) (s : σ) : Prop where
  over : T.over = false
  got : T.got = Q
  low : a ≤ T.at_
  at_ : T.at_ ≤ Q.length
  idle : T.act = noAct
  st : s = feed take s0 ((Q.drop a).take (T.at_ - a))
  live : ∀ i, i < T.at_ - a → (act (feed take s0 ((Q.drop a).take i))).2 = true
/-- The tape is over: the act that is next is the routine's. -/
structure EndedA (a : Nat) (act : σ → PAct × Bool) (take : σ → PGot → σ) (s0 : σ) (Q : List PGot) (T : PTape) : Prop where
  over : T.over = true
  got : T.got = Q
  low : a ≤ Q.length
  at_ : T.at_ ≤ Q.length
  next : act (feed take s0 (Q.drop a)) = (T.act, true)
  live : ∀ i, i < Q.length - a → (act (feed take s0 ((Q.drop a).take i))).2 = true
/-- What is known of a tape that is over. -/
structure Ends (a : Nat) (act : σ → PAct × Bool) (take : σ → PGot → σ) (s0 : σ) (Q : List PGot) (E : PTape → Prop) : Prop where
  over : ∀ T, E T → T.over = true
  got : ∀ T, E T → T.got = Q
  of : ∀ T, EndedA a act take s0 Q T → E T
variable {act : σ → PAct × Bool} {take : σ → PGot → σ}
/-- A tape that is over at the start stays as it is. -/
theorem Ends.same (s0 : σ) {Q : List PGot} {T0 : PTape} (h : T0.over = true) (hq : T0.got = Q) : Ends (Q.length + 1) act take s0 Q (fun T => T = T0) :=
  ⟨fun _ e => by rw [e]; exact h, fun _ e => by rw [e]; exact hq, fun T e => absurd e.low (by omega)⟩
theorem FedA.start (s0 : σ) (Q : List PGot) (T : PTape) (h1 : T.over = false) (h2 : T.at_ ≤ Q.length) (h3 : T.act = noAct) (h4 : T.got = Q) : FedA T.at_ act take s0 Q T s0 :=
  ⟨h1, h4, Nat.le_refl _, h2, h3, by rw [Nat.sub_self]; rfl, fun i hi => absurd hi (by omega)⟩
/-- A routine within another one: while it has acts, the other one goes as it goes. -/
structure Within {τ : Type} (act : σ → PAct × Bool) (take : σ → PGot → σ) (actC : τ → PAct × Bool) (takeC : τ → PGot → τ) (emb : Nat → σ → τ) : Prop where
  hact : ∀ k s, (act s).2 = true → actC (emb k s) = act s
  htake : ∀ k s g, (act s).2 = true → takeC (emb k s) g = emb (k + 1) (take s g)
variable {τ : Type} {actC : τ → PAct × Bool} {takeC : τ → PGot → τ} {emb : Nat → σ → τ}
/-- Behind the tape's own end: where the routine is done it stays. -/
theorem FedA.done {s0 s : σ} {Q : List PGot} {T : PTape} (h : FedA 0 act take s0 Q T s) (hd : ∀ g, take s g = s) : feed take s0 Q = s := by
  have e : feed take s0 Q = feed take (feed take s0 (Q.take T.at_)) (Q.drop T.at_) := by
    conv => lhs; rw [← List.take_append_drop T.at_ Q]
    exact List.foldl_append
  have h1 : s = feed take s0 (Q.take T.at_) := by have := h.st; simpa using this
  rw [e, ← h1]
  exact feed_done hd _
end
end Go.Proofs.YtmlnhjfdhjachaaGreat

/-
  The document's pinning on a fresh tape, told step by step (layer 25). No condition.
-/
namespace Go.Proofs.YtmlnhjfdhjachaaGreat
set_option linter.unusedVariables false
open Go.ChangeShapes Go.WideShapes Go.ChangeAt Go.RowKit
open Go.ChangeMaps (setBlock)

end Go.Proofs.YtmlnhjfdhjachaaGreat

/-
  The document's looking for a key's shelf on a tape (layer 23). No condition.
-/
namespace Go.Proofs.YtmlnhjfdhjachaaGreat
set_option linter.unusedVariables false
open Go.ChangeShapes Go.WideShapes Go.ChangeAt Go.RowKit
open Go.ChangeMaps (setBlock)

/-- Where it stands: at the k-th place; with a block, or none. -/
def findAt (c : PCfg) (key : ByteArray) (k : Nat) (blk : Int) : PFind := ⟨c, key, sumP c.seed key, k, blk, 0, 0, true⟩
def findEnd (c : PCfg) (key : ByteArray) (k : Nat) (blk kind shelf : Int) : PFind := ⟨c, key, sumP c.seed key, k, blk, kind, shelf, true⟩
theorem findAt_act0 (c : PCfg) (key : ByteArray) (k : Nat) : (findAt c key k 0).act = (⟨1, 1, 3 + c.pins + c.cap + 2 * placeP (sumP c.seed key) c.shelves k, 0, 0, ByteArray.empty⟩, true) := by
  simp [PFind.act, PFind.idle, findAt, PFind.place]
theorem findAt_act (c : PCfg) (key : ByteArray) (k : Nat) (b : Int) (hb : b ≠ 0) : (findAt c key k b).act = (⟨6, b, 0, 0, 0, ByteArray.empty⟩, true) := by
  simp [PFind.act, PFind.idle, findAt, hb]
theorem findAt_take0 (c : PCfg) (key : ByteArray) (k : Nat) (g : PGot) : (findAt c key k 0).take g = if g.word = 0 then findEnd c key k 0 2 (placeP (sumP c.seed key) c.shelves k) else findAt c key k g.word := by
  simp [PFind.take, PFind.idle, findAt, findEnd, PFind.place]
theorem findAt_take (c : PCfg) (key : ByteArray) (k : Nat) (b : Int) (hb : b ≠ 0) (g : PGot) : (findAt c key k b).take g = if g.text = key then findEnd c key k b 1 (placeP (sumP c.seed key) c.shelves k) else if (k : Int) + 1 = c.shelves then findEnd c key (k + 1) 0 3 0 else findAt c key (k + 1) 0 := by
  simp [PFind.take, PFind.idle, findAt, findEnd, PFind.place, hb]
  rfl
theorem newFind_at (c : PCfg) (hc : c.Right) (key : ByteArray) : newFind c key = findAt c key 0 0 := by
  unfold newFind findAt
  rw [(PCfg.right_iff c).2 hc]
  rfl
end Go.Proofs.YtmlnhjfdhjachaaGreat

/-
  The document's looking for a key on a tape from some place on (layer 23). No condition.
-/
namespace Go.Proofs.YtmlnhjfdhjachaaGreat
set_option linter.unusedVariables false
open Go.ChangeShapes Go.WideShapes Go.ChangeAt Go.RowKit
open Go.ChangeMaps (setBlock)

end Go.Proofs.YtmlnhjfdhjachaaGreat
