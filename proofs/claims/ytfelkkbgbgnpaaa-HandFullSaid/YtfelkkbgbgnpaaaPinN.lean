import Derived.Test.YtfelkkbgbgnpaaaPin
/-
  The routine that pins an epoch (layer 25): what it takes. No condition.
-/
namespace Go.Proofs.Ytfelkkbgbgnpaaa
set_option linter.unusedVariables false
open Go.ChangeShapes Go.WideShapes Go.ChangeAt Go.RowKit
open Go.ChangeMaps (setBlock)

/-- What comes of a swap. -/
def PPin.swapped (s : PPin) (x : Int) : PPin :=
  if x = 0 then { s with part := 3 }
  else if s.tried + 1 = s.cfg.pins then { s with tried := s.tried + 1, pin := 0, epoch := 0, taken := true, part := 5 }
  else { s with tried := s.tried + 1 }
set_option maxRecDepth 100000 in
set_option maxHeartbeats 4000000 in
theorem swapped_any {w : World} {b : Nat} {s : PPin} (h : PinIn w b s) (hp2 : s.part = 2) (htp : s.tried < s.cfg.pins) (x : Int) : Calls Try.prog 120 #[.pointer (some ⟨b, 0, none⟩), .int .u64 x] w fun e w' => e = .returned (.tuple #[]) ∧ PinIn w' b (s.swapped x) ∧ Chg (fun k => k = b) w w' := by
  have hS : s.swapped x = if x = 0 then { s with part := 3 } else if s.tried + 1 = s.cfg.pins then { s with tried := s.tried + 1, pin := 0, epoch := 0, taken := true, part := 5 } else { s with tried := s.tried + 1 } := rfl
  rw [hS]
  clear hS
  obtain ⟨⟨a, p, sh, q, t, z⟩, first, tried, part, pin, epoch, taken⟩ := s
  simp only at hp2
  subst hp2
  have hr := h.right (by show ¬ _; simp)
  have hf := h.first (by show ¬ _; simp)
  have ht := h.tried (by show ¬ _; simp)
  have hp := hr.pins
  simp only at htp hf ht hp
  have hB : Blk w b 193 #[.int .i64 a, .int .i64 p, .int .i64 sh, .int .i64 q, .int .i64 t, .int .u64 z, .int .i64 first, .int .i64 tried, .int .i64 2, .int .i64 pin, .int .u64 epoch, .bool taken] := h.blk
  have c1 := hB.cell 1
  have f1 := hB.frozen 1
  have c7 := hB.cell 7
  have f7 := hB.frozen 7
  have c8 := hB.cell 8
  have f8 := hB.frozen 8
  have c9 := hB.cell 9
  have f9 := hB.frozen 9
  have c10 := hB.cell 10
  have f10 := hB.frozen 10
  have c11 := hB.cell 11
  have f11 := hB.frozen 11
  have hlt := hB.lt
  have he := h.epoch
  simp only at he
  replace h := Lib.hid h
  replace hB := Lib.hid hB
  replace hr := Lib.hid hr
  by_cases hx : x = 0
  · subst hx
    simp only [if_true]
    go_enter Try.func120, Try.ntmps120
    go_wp2_with fail
    refine gen_world (α := fun W' => bodyPost _ _ _ _ _ W') (fun W' => Blk W' b 193 #[.int .i64 a, .int .i64 p, .int .i64 sh, .int .i64 q, .int .i64 t, .int .u64 z, .int .i64 first, .int .i64 tried, .int .i64 3, .int .i64 pin, .int .u64 epoch, .bool taken] ∧ Chg (fun k => k = b) w W') ⟨?_, ?_⟩ ?_
    · refine Blk.eq_cs (cs := ((#[.int .i64 a, .int .i64 p, .int .i64 sh, .int .i64 q, .int .i64 t, .int .u64 z, .int .i64 first, .int .i64 tried, .int .i64 2, .int .i64 pin, .int .u64 epoch, .bool taken] : Array Value).setIfInBounds 8 (.int .i64 3))) ?_ rfl
      have hB := hB.out
      (repeat first | with_reducible exact hB | with_reducible refine Blk.drewN ?_ _ | with_reducible refine Blk.drew ?_ | with_reducible refine Blk.alloc ?_ _ | with_reducible refine Blk.set_ ?_ _ _ | refine Blk.far ?_ (by simp; omega) _)
    · have hC := Chg.refl (fun k => k = b) w
      repeat first | with_reducible exact hC | with_reducible refine Chg.drew ?_ | with_reducible refine Chg.drewN ?_ _ | refine Chg.setCell ?_ (by left; rfl) _
    rintro W' ⟨g1, g2⟩
    exact bodyPost_ret (v := .tuple #[]) (results_none (by kernel_rfl) _ _ _) rfl ⟨rfl, ⟨g1, fun _ => hr.out, fun _ => hf, fun _ => ht, by show (0 : Int) ≤ 3 ∧ (3 : Int) ≤ 5; decide, he⟩, g2⟩
  · rw [if_neg hx]
    have d1 : (x == 0) = false := by simp [hx]
    have hw : IntKind.i64.wrap (tried + 1) = tried + 1 := IntWalk.i64_in _ (by omega)
    by_cases hq : tried + 1 = p
    · rw [if_pos hq]
      have d2 : (tried + 1 == p) = true := by simp [hq]
      replace hq := Lib.hid hq
      go_enter Try.func120, Try.ntmps120
      go_wp2_with fail
      go_quiet (fail)
      go_wp2_with fail
      refine gen_world (α := fun W' => bodyPost _ _ _ _ _ W') (fun W' => Blk W' b 193 #[.int .i64 a, .int .i64 p, .int .i64 sh, .int .i64 q, .int .i64 t, .int .u64 z, .int .i64 first, .int .i64 (tried + 1), .int .i64 5, .int .i64 0, .int .u64 0, .bool true] ∧ Chg (fun k => k = b) w W') ⟨?_, ?_⟩ ?_
      · refine Blk.eq_cs (cs := ((((((#[.int .i64 a, .int .i64 p, .int .i64 sh, .int .i64 q, .int .i64 t, .int .u64 z, .int .i64 first, .int .i64 tried, .int .i64 2, .int .i64 pin, .int .u64 epoch, .bool taken] : Array Value).setIfInBounds 7 (.int .i64 (tried + 1))).setIfInBounds 9 (.int .i64 0)).setIfInBounds 10 (.int .u64 0)).setIfInBounds 11 (.bool true)).setIfInBounds 8 (.int .i64 5))) ?_ rfl
        have hB := hB.out
        (repeat first | with_reducible exact hB | with_reducible refine Blk.drewN ?_ _ | with_reducible refine Blk.drew ?_ | with_reducible refine Blk.alloc ?_ _ | with_reducible refine Blk.set_ ?_ _ _ | refine Blk.far ?_ (by simp; omega) _)
      · have hC := Chg.refl (fun k => k = b) w
        repeat first | with_reducible exact hC | with_reducible refine Chg.drew ?_ | with_reducible refine Chg.drewN ?_ _ | refine Chg.setCell ?_ (by left; rfl) _
      rintro W' ⟨g1, g2⟩
      exact bodyPost_end (v := .tuple #[]) (results_none (by kernel_rfl) _ _ _) rfl ⟨rfl, ⟨g1, fun _ => hr.out, fun _ => hf, fun _ => by show 0 ≤ tried + 1 ∧ tried + 1 ≤ p; omega, by show (0 : Int) ≤ 5 ∧ (5 : Int) ≤ 5; decide, by show (0 : Int) ≤ 0 ∧ (0 : Int) ≤ _; decide⟩, g2⟩
    · rw [if_neg hq]
      have d2 : (tried + 1 == p) = false := by simp [hq]
      replace hq := Lib.hid hq
      go_enter Try.func120, Try.ntmps120
      go_wp2_with fail
      go_quiet (fail)
      go_wp2_with fail
      refine gen_world (α := fun W' => bodyPost _ _ _ _ _ W') (fun W' => Blk W' b 193 #[.int .i64 a, .int .i64 p, .int .i64 sh, .int .i64 q, .int .i64 t, .int .u64 z, .int .i64 first, .int .i64 (tried + 1), .int .i64 2, .int .i64 pin, .int .u64 epoch, .bool taken] ∧ Chg (fun k => k = b) w W') ⟨?_, ?_⟩ ?_
      · refine Blk.eq_cs (cs := ((#[.int .i64 a, .int .i64 p, .int .i64 sh, .int .i64 q, .int .i64 t, .int .u64 z, .int .i64 first, .int .i64 tried, .int .i64 2, .int .i64 pin, .int .u64 epoch, .bool taken] : Array Value).setIfInBounds 7 (.int .i64 (tried + 1)))) ?_ rfl
        have hB := hB.out
        (repeat first | with_reducible exact hB | with_reducible refine Blk.drewN ?_ _ | with_reducible refine Blk.drew ?_ | with_reducible refine Blk.alloc ?_ _ | with_reducible refine Blk.set_ ?_ _ _ | refine Blk.far ?_ (by simp; omega) _)
      · have hC := Chg.refl (fun k => k = b) w
        repeat first | with_reducible exact hC | with_reducible refine Chg.drew ?_ | with_reducible refine Chg.drewN ?_ _ | refine Chg.setCell ?_ (by left; rfl) _
      rintro W' ⟨g1, g2⟩
      exact bodyPost_end (v := .tuple #[]) (results_none (by kernel_rfl) _ _ _) rfl ⟨rfl, ⟨g1, fun _ => hr.out, fun _ => hf, fun _ => by show 0 ≤ tried + 1 ∧ tried + 1 ≤ p; omega, by show (0 : Int) ≤ 2 ∧ (2 : Int) ≤ 5; decide, he⟩, g2⟩
set_option maxRecDepth 100000 in
set_option maxHeartbeats 4000000 in
theorem pinTake_any {w : World} {b : Nat} {s : PPin} (h : PinIn w b s) (htp : s.part = 2 → s.tried < s.cfg.pins) (g : PGot) (hg : g.Ok) : Calls Try.prog 70 #[.pointer (some ⟨b, 0, none⟩), g.val] w fun e w' => e = .returned (.tuple #[]) ∧ PinIn w' b (s.take g) ∧ Chg (fun k => k = b) w w' := by
  obtain ⟨gw, gt⟩ := g
  rw [show PGot.val ⟨gw, gt⟩ = .agg #[.int .u64 gw, .string gt] from rfl]
  have hgw : 0 ≤ gw ∧ gw ≤ 18446744073709551615 := hg
  have hz : Below w.heap.size w (w.alloc (.cells #[.int .u64 gw, .string gt] 53)) := (Below.refl _ _).alloc (Nat.le_refl _) _
  have hz0 := h.below hz
  have hT : s.take ⟨gw, gt⟩ = if s.part = 1 then { s with epoch := gw, part := 2 } else if s.part = 2 then s.swapped gw else if s.part = 4 then { s with part := 3 } else if s.part = 3 then (if gw = s.epoch then { s with pin := s.at_, part := 5 } else { s with epoch := gw, part := 4 }) else s := by
    unfold PPin.take PPin.swapped
    rfl
  rw [hT]
  clear hT
  have hp5 := h.part
  have hAt : s.part ≠ 0 → s.at_ = (s.first + s.tried) % s.cfg.pins := fun _ => rfl
  generalize s.at_ = at_ at *
  obtain ⟨⟨a, p, sh, q, t, z⟩, first, tried, part, pin, epoch, taken⟩ := s
  simp only at hp5 htp hAt ⊢
  have he : 0 ≤ epoch ∧ epoch ≤ 18446744073709551615 := h.epoch
  have hlt := h.blk.lt
  replace hz := Lib.hid hz
  have hcase : part = 0 ∨ part = 1 ∨ part = 2 ∨ part = 3 ∨ part = 4 ∨ part = 5 := by omega
  rcases hcase with rfl | rfl | rfl | rfl | rfl | rfl
  · as_aux_lemma =>
      simp (config := { decide := true }) only [if_false]
      have hBz : Blk (w.alloc (.cells #[.int .u64 gw, .string gt] 53)) b 193 #[.int .i64 a, .int .i64 p, .int .i64 sh, .int .i64 q, .int .i64 t, .int .u64 z, .int .i64 first, .int .i64 tried, .int .i64 0, .int .i64 pin, .int .u64 epoch, .bool taken] := hz0.blk
      have hBw : Blk w b 193 #[.int .i64 a, .int .i64 p, .int .i64 sh, .int .i64 q, .int .i64 t, .int .u64 z, .int .i64 first, .int .i64 tried, .int .i64 0, .int .i64 pin, .int .u64 epoch, .bool taken] := h.blk
      have c1 := hBw.cell 1
      have f1 := hBw.frozen 1
      have c6 := hBw.cell 6
      have f6 := hBw.frozen 6
      have c7 := hBw.cell 7
      have f7 := hBw.frozen 7
      have c8 := hBw.cell 8
      have f8 := hBw.frozen 8
      have c9 := hBw.cell 9
      have f9 := hBw.frozen 9
      have c10 := hBw.cell 10
      have f10 := hBw.frozen 10
      have c11 := hBw.cell 11
      have f11 := hBw.frozen 11
      replace h := Lib.hid h
      replace hz0 := Lib.hid hz0
      replace hBz := Lib.hid hBz
      replace hBw := Lib.hid hBw
      go_enter Try.func70, Try.ntmps70
      go_wp2_with fail
      exact bodyPost_end (v := .tuple #[]) (results_none (by kernel_rfl) _ _ _) rfl ⟨rfl, hz0.out, Chg.of_below hz.out _⟩
  · as_aux_lemma =>
      simp (config := { decide := true }) only [if_true]
      have hBz : Blk (w.alloc (.cells #[.int .u64 gw, .string gt] 53)) b 193 #[.int .i64 a, .int .i64 p, .int .i64 sh, .int .i64 q, .int .i64 t, .int .u64 z, .int .i64 first, .int .i64 tried, .int .i64 1, .int .i64 pin, .int .u64 epoch, .bool taken] := hz0.blk
      have hBw : Blk w b 193 #[.int .i64 a, .int .i64 p, .int .i64 sh, .int .i64 q, .int .i64 t, .int .u64 z, .int .i64 first, .int .i64 tried, .int .i64 1, .int .i64 pin, .int .u64 epoch, .bool taken] := h.blk
      have c1 := hBw.cell 1
      have f1 := hBw.frozen 1
      have c6 := hBw.cell 6
      have f6 := hBw.frozen 6
      have c7 := hBw.cell 7
      have f7 := hBw.frozen 7
      have c8 := hBw.cell 8
      have f8 := hBw.frozen 8
      have c9 := hBw.cell 9
      have f9 := hBw.frozen 9
      have c10 := hBw.cell 10
      have f10 := hBw.frozen 10
      have c11 := hBw.cell 11
      have f11 := hBw.frozen 11
      have hr := h.right (by show ¬ _; simp)
      have hf := h.first (by show ¬ _; simp)
      have ht := h.tried (by show ¬ _; simp)
      have hp := hr.pins
      simp only at hf ht hp
      replace hr := Lib.hid hr
      replace h := Lib.hid h
      replace hz0 := Lib.hid hz0
      replace hBz := Lib.hid hBz
      replace hBw := Lib.hid hBw
      go_enter Try.func70, Try.ntmps70
      go_wp2_with fail
      refine gen_world (α := fun W' => bodyPost _ _ _ _ _ W') (fun W' => Blk W' b 193 #[.int .i64 a, .int .i64 p, .int .i64 sh, .int .i64 q, .int .i64 t, .int .u64 z, .int .i64 first, .int .i64 tried, .int .i64 2, .int .i64 pin, .int .u64 gw, .bool taken] ∧ Chg (fun k => k = b) w W') ⟨?_, ?_⟩ ?_
      · refine Blk.eq_cs (cs := (((#[.int .i64 a, .int .i64 p, .int .i64 sh, .int .i64 q, .int .i64 t, .int .u64 z, .int .i64 first, .int .i64 tried, .int .i64 1, .int .i64 pin, .int .u64 epoch, .bool taken] : Array Value).setIfInBounds 10 (.int .u64 gw)).setIfInBounds 8 (.int .i64 2))) ?_ rfl
        have hB := hBw.out
        (repeat first | with_reducible exact hB | with_reducible refine Blk.drewN ?_ _ | with_reducible refine Blk.drew ?_ | with_reducible refine Blk.alloc ?_ _ | with_reducible refine Blk.set_ ?_ _ _ | refine Blk.far ?_ (by simp; omega) _)
      · have hC := Chg.refl (fun k => k = b) w
        repeat first | with_reducible exact hC | with_reducible refine Chg.drew ?_ | with_reducible refine Chg.drewN ?_ _ | with_reducible refine Chg.alloc ?_ _ | refine Chg.setCell ?_ (by left; rfl) _
      rintro W' ⟨g1, g2⟩
      exact bodyPost_end (v := .tuple #[]) (results_none (by kernel_rfl) _ _ _) rfl ⟨rfl, ⟨g1, fun _ => hr.out, fun _ => hf, fun _ => ht, by show (0 : Int) ≤ 2 ∧ (2 : Int) ≤ 5; decide, hgw⟩, g2⟩
  · as_aux_lemma =>
      simp (config := { decide := true }) only [if_true, if_false]
      have hBz : Blk (w.alloc (.cells #[.int .u64 gw, .string gt] 53)) b 193 #[.int .i64 a, .int .i64 p, .int .i64 sh, .int .i64 q, .int .i64 t, .int .u64 z, .int .i64 first, .int .i64 tried, .int .i64 2, .int .i64 pin, .int .u64 epoch, .bool taken] := hz0.blk
      have hBw : Blk w b 193 #[.int .i64 a, .int .i64 p, .int .i64 sh, .int .i64 q, .int .i64 t, .int .u64 z, .int .i64 first, .int .i64 tried, .int .i64 2, .int .i64 pin, .int .u64 epoch, .bool taken] := h.blk
      have c1 := hBw.cell 1
      have f1 := hBw.frozen 1
      have c6 := hBw.cell 6
      have f6 := hBw.frozen 6
      have c7 := hBw.cell 7
      have f7 := hBw.frozen 7
      have c8 := hBw.cell 8
      have f8 := hBw.frozen 8
      have c9 := hBw.cell 9
      have f9 := hBw.frozen 9
      have c10 := hBw.cell 10
      have f10 := hBw.frozen 10
      have c11 := hBw.cell 11
      have f11 := hBw.frozen 11
      have hSw := swapped_any hz0 rfl (htp rfl) gw
      replace hSw := Lib.hid hSw
      replace h := Lib.hid h
      replace hz0 := Lib.hid hz0
      replace hBz := Lib.hid hBz
      replace hBw := Lib.hid hBw
      go_enter Try.func70, Try.ntmps70
      go_wp2_with fail
      refine (hSw.out).mono ?_; rintro e w2 ⟨rfl, hR, hC⟩
      go_wp2_with fail
      exact bodyPost_end (v := .tuple #[]) (results_none (by kernel_rfl) _ _ _) rfl ⟨rfl, hR, (Chg.of_below hz.out _).trans hC fun i hi => Or.inl hi⟩
  · as_aux_lemma =>
      simp (config := { decide := true }) only [if_true, if_false]
      have hBz : Blk (w.alloc (.cells #[.int .u64 gw, .string gt] 53)) b 193 #[.int .i64 a, .int .i64 p, .int .i64 sh, .int .i64 q, .int .i64 t, .int .u64 z, .int .i64 first, .int .i64 tried, .int .i64 3, .int .i64 pin, .int .u64 epoch, .bool taken] := hz0.blk
      have hBw : Blk w b 193 #[.int .i64 a, .int .i64 p, .int .i64 sh, .int .i64 q, .int .i64 t, .int .u64 z, .int .i64 first, .int .i64 tried, .int .i64 3, .int .i64 pin, .int .u64 epoch, .bool taken] := h.blk
      have c1 := hBw.cell 1
      have f1 := hBw.frozen 1
      have c6 := hBw.cell 6
      have f6 := hBw.frozen 6
      have c7 := hBw.cell 7
      have f7 := hBw.frozen 7
      have c8 := hBw.cell 8
      have f8 := hBw.frozen 8
      have c9 := hBw.cell 9
      have f9 := hBw.frozen 9
      have c10 := hBw.cell 10
      have f10 := hBw.frozen 10
      have c11 := hBw.cell 11
      have f11 := hBw.frozen 11
      have hr := h.right (by show ¬ _; simp)
      have hf := h.first (by show ¬ _; simp)
      have ht := h.tried (by show ¬ _; simp)
      have hp := hr.pins
      simp only at hf ht hp
      replace hr := Lib.hid hr
      have hat := hAt (by simp)
      have hm : (first + tried).tmod p = at_ := by rw [Int.tmod_eq_emod_of_nonneg (by omega), hat]
      have hw : IntKind.i64.wrap (first + tried) = first + tried := IntWalk.i64_in _ (by omega)
      have hp0 : ¬ p = 0 := by omega
      have hp1 : ¬ p = -1 := by omega
      have hpp : 0 < p := by omega
      have hpz : (p == 0) = false := by rw [beq_eq_false_iff_ne]; omega
      replace hat := Lib.hid hat
      clear hAt
      replace h := Lib.hid h
      replace hz0 := Lib.hid hz0
      replace hBz := Lib.hid hBz
      replace hBw := Lib.hid hBw
      by_cases hq : gw = epoch
      · subst hq
        simp only [if_true]
        go_enter Try.func70, Try.ntmps70
        go_wp2_with fail
        go_quiet (fail)
        go_wp2_with fail
        go_region
        go_wp2_with fail
        refine gen_world (α := fun W' => bodyPost _ _ _ _ _ W') (fun W' => Blk W' b 193 #[.int .i64 a, .int .i64 p, .int .i64 sh, .int .i64 q, .int .i64 t, .int .u64 z, .int .i64 first, .int .i64 tried, .int .i64 5, .int .i64 at_, .int .u64 gw, .bool taken] ∧ Chg (fun k => k = b) w W') ⟨?_, ?_⟩ ?_
        · refine Blk.eq_cs (cs := (((#[.int .i64 a, .int .i64 p, .int .i64 sh, .int .i64 q, .int .i64 t, .int .u64 z, .int .i64 first, .int .i64 tried, .int .i64 3, .int .i64 pin, .int .u64 gw, .bool taken] : Array Value).setIfInBounds 9 (.int .i64 at_)).setIfInBounds 8 (.int .i64 5))) ?_ rfl
          have hB := hBw.out
          (repeat first | with_reducible exact hB | with_reducible refine Blk.drewN ?_ _ | with_reducible refine Blk.drew ?_ | with_reducible refine Blk.alloc ?_ _ | with_reducible refine Blk.set_ ?_ _ _ | refine Blk.far ?_ (by simp; omega) _)
        · have hC := Chg.refl (fun k => k = b) w
          repeat first | with_reducible exact hC | with_reducible refine Chg.drew ?_ | with_reducible refine Chg.drewN ?_ _ | with_reducible refine Chg.alloc ?_ _ | refine Chg.setCell ?_ (by left; rfl) _
        rintro W' ⟨g1, g2⟩
        exact bodyPost_end (v := .tuple #[]) (results_none (by kernel_rfl) _ _ _) rfl ⟨rfl, ⟨g1, fun _ => hr.out, fun _ => hf, fun _ => ht, by show (0 : Int) ≤ 5 ∧ (5 : Int) ≤ 5; decide, he⟩, g2⟩
      · rw [if_neg hq]
        have d1 : (gw == epoch) = false := by simp [hq]
        replace hq := Lib.hid hq
        go_enter Try.func70, Try.ntmps70
        go_wp2_with fail
        go_quiet (fail)
        go_wp2_with fail
        refine gen_world (α := fun W' => bodyPost _ _ _ _ _ W') (fun W' => Blk W' b 193 #[.int .i64 a, .int .i64 p, .int .i64 sh, .int .i64 q, .int .i64 t, .int .u64 z, .int .i64 first, .int .i64 tried, .int .i64 4, .int .i64 pin, .int .u64 gw, .bool taken] ∧ Chg (fun k => k = b) w W') ⟨?_, ?_⟩ ?_
        · refine Blk.eq_cs (cs := (((#[.int .i64 a, .int .i64 p, .int .i64 sh, .int .i64 q, .int .i64 t, .int .u64 z, .int .i64 first, .int .i64 tried, .int .i64 3, .int .i64 pin, .int .u64 epoch, .bool taken] : Array Value).setIfInBounds 10 (.int .u64 gw)).setIfInBounds 8 (.int .i64 4))) ?_ rfl
          have hB := hBw.out
          (repeat first | with_reducible exact hB | with_reducible refine Blk.drewN ?_ _ | with_reducible refine Blk.drew ?_ | with_reducible refine Blk.alloc ?_ _ | with_reducible refine Blk.set_ ?_ _ _ | refine Blk.far ?_ (by simp; omega) _)
        · have hC := Chg.refl (fun k => k = b) w
          repeat first | with_reducible exact hC | with_reducible refine Chg.drew ?_ | with_reducible refine Chg.drewN ?_ _ | with_reducible refine Chg.alloc ?_ _ | refine Chg.setCell ?_ (by left; rfl) _
        rintro W' ⟨g1, g2⟩
        exact bodyPost_ret (v := .tuple #[]) (results_none (by kernel_rfl) _ _ _) rfl ⟨rfl, ⟨g1, fun _ => hr.out, fun _ => hf, fun _ => ht, by show (0 : Int) ≤ 4 ∧ (4 : Int) ≤ 5; decide, hgw⟩, g2⟩
  · as_aux_lemma =>
      simp (config := { decide := true }) only [if_true, if_false]
      have hBz : Blk (w.alloc (.cells #[.int .u64 gw, .string gt] 53)) b 193 #[.int .i64 a, .int .i64 p, .int .i64 sh, .int .i64 q, .int .i64 t, .int .u64 z, .int .i64 first, .int .i64 tried, .int .i64 4, .int .i64 pin, .int .u64 epoch, .bool taken] := hz0.blk
      have hBw : Blk w b 193 #[.int .i64 a, .int .i64 p, .int .i64 sh, .int .i64 q, .int .i64 t, .int .u64 z, .int .i64 first, .int .i64 tried, .int .i64 4, .int .i64 pin, .int .u64 epoch, .bool taken] := h.blk
      have c1 := hBw.cell 1
      have f1 := hBw.frozen 1
      have c6 := hBw.cell 6
      have f6 := hBw.frozen 6
      have c7 := hBw.cell 7
      have f7 := hBw.frozen 7
      have c8 := hBw.cell 8
      have f8 := hBw.frozen 8
      have c9 := hBw.cell 9
      have f9 := hBw.frozen 9
      have c10 := hBw.cell 10
      have f10 := hBw.frozen 10
      have c11 := hBw.cell 11
      have f11 := hBw.frozen 11
      have hr := h.right (by show ¬ _; simp)
      have hf := h.first (by show ¬ _; simp)
      have ht := h.tried (by show ¬ _; simp)
      have hp := hr.pins
      simp only at hf ht hp
      replace hr := Lib.hid hr
      replace h := Lib.hid h
      replace hz0 := Lib.hid hz0
      replace hBz := Lib.hid hBz
      replace hBw := Lib.hid hBw
      go_enter Try.func70, Try.ntmps70
      go_wp2_with fail
      refine gen_world (α := fun W' => bodyPost _ _ _ _ _ W') (fun W' => Blk W' b 193 #[.int .i64 a, .int .i64 p, .int .i64 sh, .int .i64 q, .int .i64 t, .int .u64 z, .int .i64 first, .int .i64 tried, .int .i64 3, .int .i64 pin, .int .u64 epoch, .bool taken] ∧ Chg (fun k => k = b) w W') ⟨?_, ?_⟩ ?_
      · refine Blk.eq_cs (cs := ((#[.int .i64 a, .int .i64 p, .int .i64 sh, .int .i64 q, .int .i64 t, .int .u64 z, .int .i64 first, .int .i64 tried, .int .i64 4, .int .i64 pin, .int .u64 epoch, .bool taken] : Array Value).setIfInBounds 8 (.int .i64 3))) ?_ rfl
        have hB := hBw.out
        (repeat first | with_reducible exact hB | with_reducible refine Blk.drewN ?_ _ | with_reducible refine Blk.drew ?_ | with_reducible refine Blk.alloc ?_ _ | with_reducible refine Blk.set_ ?_ _ _ | refine Blk.far ?_ (by simp; omega) _)
      · have hC := Chg.refl (fun k => k = b) w
        repeat first | with_reducible exact hC | with_reducible refine Chg.drew ?_ | with_reducible refine Chg.drewN ?_ _ | with_reducible refine Chg.alloc ?_ _ | refine Chg.setCell ?_ (by left; rfl) _
      rintro W' ⟨g1, g2⟩
      exact bodyPost_end (v := .tuple #[]) (results_none (by kernel_rfl) _ _ _) rfl ⟨rfl, ⟨g1, fun _ => hr.out, fun _ => hf, fun _ => ht, by show (0 : Int) ≤ 3 ∧ (3 : Int) ≤ 5; decide, he⟩, g2⟩
  · as_aux_lemma =>
      simp (config := { decide := true }) only [if_false]
      have hBz : Blk (w.alloc (.cells #[.int .u64 gw, .string gt] 53)) b 193 #[.int .i64 a, .int .i64 p, .int .i64 sh, .int .i64 q, .int .i64 t, .int .u64 z, .int .i64 first, .int .i64 tried, .int .i64 5, .int .i64 pin, .int .u64 epoch, .bool taken] := hz0.blk
      have hBw : Blk w b 193 #[.int .i64 a, .int .i64 p, .int .i64 sh, .int .i64 q, .int .i64 t, .int .u64 z, .int .i64 first, .int .i64 tried, .int .i64 5, .int .i64 pin, .int .u64 epoch, .bool taken] := h.blk
      have c1 := hBw.cell 1
      have f1 := hBw.frozen 1
      have c6 := hBw.cell 6
      have f6 := hBw.frozen 6
      have c7 := hBw.cell 7
      have f7 := hBw.frozen 7
      have c8 := hBw.cell 8
      have f8 := hBw.frozen 8
      have c9 := hBw.cell 9
      have f9 := hBw.frozen 9
      have c10 := hBw.cell 10
      have f10 := hBw.frozen 10
      have c11 := hBw.cell 11
      have f11 := hBw.frozen 11
      replace h := Lib.hid h
      replace hz0 := Lib.hid hz0
      replace hBz := Lib.hid hBz
      replace hBw := Lib.hid hBw
      go_enter Try.func70, Try.ntmps70
      go_wp2_with fail
      exact bodyPost_end (v := .tuple #[]) (results_none (by kernel_rfl) _ _ _) rfl ⟨rfl, hz0.out, Chg.of_below hz.out _⟩
end Go.Proofs.Ytfelkkbgbgnpaaa

/-
  The routine that pins an epoch (layer 25): how it is made. No condition.
-/
namespace Go.Proofs.Ytfelkkbgbgnpaaa
set_option linter.unusedVariables false
open Go.ChangeShapes Go.WideShapes Go.ChangeAt Go.RowKit
open Go.ChangeMaps (setBlock)

def newPin (c : PCfg) (th : Int) : PPin := ⟨c, th % c.pins, 0, 1, 0, 0, false⟩
set_option maxRecDepth 100000 in
set_option maxHeartbeats 1000000 in
theorem pinNew_any (c : PCfg) (hc : c.Right) (th : Int) (hth : 0 ≤ th ∧ th ≤ 9223372036854775807) (w : World) :
    Calls Try.prog 60 #[c.val, .int .i64 th] w fun e w' => ∃ b, e = .returned (.pointer (some ⟨b, 0, none⟩)) ∧ PinIn w' b (newPin c th) ∧ w.heap.size ≤ b ∧ Below w.heap.size w w' := by
  have hR := fun W => right_cfg c W
  rw [(PCfg.right_iff c).2 hc] at hR
  have hp := hc.pins
  have fin : ∀ (W : World) (b : Nat), Blk W b 193 #[.int .i64 c.cap, .int .i64 c.pins, .int .i64 c.shelves, .int .i64 c.queue, .int .i64 c.watchers, .int .u64 c.seed, .int .i64 (th % c.pins), .int .i64 0, .int .i64 1, .int .i64 0, .int .u64 0, .bool false] → PinIn W b (newPin c th) := fun W b h =>
    ⟨h, fun _ => hc, fun _ => ⟨Int.emod_nonneg _ (by omega), Int.emod_lt_of_pos _ (by omega)⟩, fun _ => by show (0 : Int) ≤ 0 ∧ (0 : Int) ≤ c.pins; omega, by show (0 : Int) ≤ 1 ∧ (1 : Int) ≤ 5; decide, by show (0 : Int) ≤ 0 ∧ (0 : Int) ≤ 18446744073709551615; decide⟩
  generalize newPin c th = N at *
  clear hc
  obtain ⟨a, p, s, q, t, z⟩ := c
  simp only at hp fin
  have hm : th.tmod p = th % p := Int.tmod_eq_emod_of_nonneg hth.1
  have hp0 : ¬ p = 0 := by omega
  have hp1 : ¬ p = -1 := by omega
  have hpp : 0 < p := by omega
  have hpz : (p == 0) = false := by rw [beq_eq_false_iff_ne]; omega
  have hn0 : decide (th < 0) = false := by simp; omega
  rw [show PCfg.val ⟨a, p, s, q, t, z⟩ = .agg #[.int .i64 a, .int .i64 p, .int .i64 s, .int .i64 q, .int .i64 t, .int .u64 z] from rfl] at *
  have B1 := Blk.new w 24 #[.int .i64 a, .int .i64 p, .int .i64 s, .int .i64 q, .int .i64 t, .int .u64 z]
  have hz : Below w.heap.size w (w.alloc (.cells #[.int .i64 a, .int .i64 p, .int .i64 s, .int .i64 q, .int .i64 t, .int .u64 z] 24)) := (Below.refl _ _).alloc (Nat.le_refl _) _
  replace B1 := Lib.hid B1
  replace hz := Lib.hid hz
  replace hR := Lib.hid hR
  replace fin := Lib.hid fin
  go_enter Try.func60, Try.ntmps60
  go_wp2_with fail
  refine (hR.out _).mono ?_; rintro e w1 ⟨rfl, hb⟩
  have B2 := B1.out.below hb (by simp)
  have hb' := nx hz.out (Nat.le_refl _) hb
  have d0 := B2.cell 0
  have d1 := B2.cell 1
  have d2 := B2.cell 2
  have d3 := B2.cell 3
  have d4 := B2.cell 4
  have d5 := B2.cell 5
  clear hb
  replace B2 := Lib.hid B2
  replace hb' := Lib.hid hb'
  go_wp2_with fail
  go_still_tail 6, (by kernel_rfl)
  change wpList _ _ _ _ _ w1.drew
  go_wp2_with fail
  go_ret
  exact ⟨w1.heap.size, rfl, fin.out _ _ (Blk.new w1.drew _ _), hb'.out.size, hb'.out.drew.alloc hb'.out.size _⟩
end Go.Proofs.Ytfelkkbgbgnpaaa
