/-
  The routine that reads a chain of versions (layer 24): what it takes. No condition.
-/
import Derived.Test.YtpldnbdcpihjcaaChain
namespace Go.Proofs.Ytpldnbdcpihjcaa
set_option linter.unusedVariables false
open Go.ChangeShapes Go.WideShapes Go.ChangeAt Go.RowKit
open Go.ChangeMaps (setBlock)

theorem chg_setCell {w W : World} {b : Nat} (h : Chg (fun k => k = b) w W) (i : Nat) (v : Value) : Chg (fun k => k = b) w (W.setCell ⟨b, i, none⟩ v) := Chg.setCell h (by left; rfl) v
set_option maxRecDepth 100000 in
set_option maxHeartbeats 2000000 in
theorem end_any {w : World} {b : Nat} {cell epoch block part vblock passed : Int} {has : Bool} {text : ByteArray} (hB : Blk w b 137 #[.int .i64 cell, .int .u64 epoch, .int .u64 block, .int .i64 part, .bool has, .string text, .int .u64 vblock, .int .i64 passed]) (hs : Bool) (t : ByteArray) : Calls Try.prog 126 #[.pointer (some ⟨b, 0, none⟩), .bool hs, .string t] w fun e w' => e = .returned (.tuple #[]) ∧ Blk w' b 137 #[.int .i64 cell, .int .u64 epoch, .int .u64 block, .int .i64 6, .bool hs, .string t, .int .u64 block, .int .i64 passed] ∧ Chg (fun k => k = b) w w' := by
  have c2 := hB.cell 2
  have c3 := hB.cell 3
  have c4 := hB.cell 4
  have c5 := hB.cell 5
  have c6 := hB.cell 6
  have f3 := hB.frozen 3
  have f4 := hB.frozen 4
  have f5 := hB.frozen 5
  have f6 := hB.frozen 6
  have hlt := hB.lt
  replace hB := Lib.hid hB
  go_enter Try.func126, Try.ntmps126
  go_wp2_with fail
  refine gen_world (α := fun W' => bodyPost _ _ _ _ _ W') (fun W' => Blk W' b 137 #[.int .i64 cell, .int .u64 epoch, .int .u64 block, .int .i64 6, .bool hs, .string t, .int .u64 block, .int .i64 passed] ∧ Chg (fun k => k = b) w W') ⟨?_, ?_⟩ ?_
  · exact Blk.eq_cs ((((hB.out.set_ 4 _).set_ 5 _).set_ 6 _).set_ 3 _) rfl
  · exact chg_setCell (chg_setCell (chg_setCell (chg_setCell (Chg.refl _ _) _ _) _ _) _ _) _ _
  rintro W' ⟨g1, g2⟩
  exact bodyPost_end (v := .tuple #[]) (results_none (by kernel_rfl) _ _ _) rfl ⟨rfl, g1, g2⟩
set_option maxRecDepth 100000 in
set_option maxHeartbeats 16000000 in
theorem chainTake_any {w : World} {b : Nat} {s : PChain} (h : ChainIn w b s) (g : PGot) (hg : g.Ok) : Calls Try.prog 125 #[.pointer (some ⟨b, 0, none⟩), g.val] w fun e w' => e = .returned (.tuple #[]) ∧ ChainIn w' b (s.take g) ∧ Chg (fun k => k = b) w w' := by
  obtain ⟨gw, gt⟩ := g
  rw [show PGot.val ⟨gw, gt⟩ = .agg #[.int .u64 gw, .string gt] from rfl]
  have hT : s.take ⟨gw, gt⟩ = if s.part = 1 then s.down gw else if s.part = 2 then (if s.epoch < gw then { s with part := 3 } else { s with part := 4 }) else if s.part = 3 then PChain.down { s with passed := IntKind.i64.wrap (s.passed + 1) } gw else if s.part = 4 then (if gw = 0 then PChain.done_ { s with part := 5 } false ByteArray.empty else { s with part := 5 }) else if s.part = 5 then s.done_ true gt else s := rfl
  rw [hT]
  clear hT
  have hz : Below w.heap.size w (w.alloc (.cells #[.int .u64 gw, .string gt] 45)) := (Below.refl _ _).alloc (Nat.le_refl _) _
  have hp := h.part
  have hcl := h.cell
  have hep := h.epoch
  have hbl := h.block
  obtain ⟨cell, epoch, block, part, has, text, vblock, passed⟩ := s
  simp only at hp hcl hep hbl ⊢
  have hB : Blk w b 137 #[.int .i64 cell, .int .u64 epoch, .int .u64 block, .int .i64 part, .bool has, .string text, .int .u64 vblock, .int .i64 passed] := h.blk
  have c1 := hB.cell 1
  have c2 := hB.cell 2
  have c3 := hB.cell 3
  have c7 := hB.cell 7
  have f2 := hB.frozen 2
  have f3 := hB.frozen 3
  have f7 := hB.frozen 7
  have hlt := hB.lt
  generalize hpw : IntKind.i64.wrap (passed + 1) = pw at *
  have hpw2 : wrap64 (passed + 1) = pw := by rw [← IntWalk.i64_left]; exact hpw
  replace hpw := Lib.hid hpw
  have hg0 : 0 ≤ gw ∧ gw ≤ 18446744073709551615 := hg
  replace h := Lib.hid h
  replace hB := Lib.hid hB
  replace hz := Lib.hid hz
  have hcase : part = 0 ∨ part = 1 ∨ part = 2 ∨ part = 3 ∨ part = 4 ∨ part = 5 ∨ part = 6 := by omega
  rcases hcase with rfl | rfl | rfl | rfl | rfl | rfl | rfl
  · simp (config := { decide := true }) only [if_false]
    as_aux_lemma =>
      go_enter Try.func125, Try.ntmps125
      go_wp2_with fail
      exact bodyPost_end (v := .tuple #[]) (results_none (by kernel_rfl) _ _ _) rfl ⟨rfl, h.out.below hz.out, Chg.of_below hz.out _⟩
  · simp (config := { decide := true }) only [if_true, if_false]
    by_cases hc : gw = 0
    · subst hc
      rw [show PChain.down _ 0 = _ from if_pos rfl]
      as_aux_lemma =>
        go_enter Try.func125, Try.ntmps125
        go_wp2_with fail
        refine (end_any (cell := cell) (epoch := epoch) (block := 0) (part := 2) (vblock := vblock) (passed := passed) (has := has) (text := text) ?_ false ⟨#[]⟩).mono ?_
        · refine Blk.eq_cs (cs := (((#[.int .i64 cell, .int .u64 epoch, .int .u64 block, .int .i64 1, .bool has, .string text, .int .u64 vblock, .int .i64 passed] : Array Value).setIfInBounds 2 (.int .u64 0)).setIfInBounds 3 (.int .i64 2))) ?_ rfl
          have hB := hB.out
          (repeat first | with_reducible exact hB | with_reducible refine Blk.drewN ?_ _ | with_reducible refine Blk.drew ?_ | with_reducible refine Blk.alloc ?_ _ | with_reducible refine Blk.set_ ?_ _ _ | refine Blk.far ?_ (by simp; omega) _)
        rintro e w1 ⟨rfl, g1, g2⟩
        have g3 : Chg (fun k => k = b) w w1 := Chg.trans (by
          have hC := Chg.refl (fun k => k = b) w
          repeat first | with_reducible exact hC | with_reducible refine Chg.drew ?_ | with_reducible refine Chg.drewN ?_ _ | with_reducible refine Chg.alloc ?_ _ | refine Chg.setCell ?_ (by left; rfl) _) g2 fun i hi => Or.inl hi
        clear g2
        replace g1 := Lib.hid g1
        replace g3 := Lib.hid g3
        go_wp2_with fail
        exact bodyPost_end (v := .tuple #[]) (results_none (by kernel_rfl) _ _ _) rfl ⟨rfl, ⟨g1.out, hcl, hep, by show (0 : Int) ≤ 0 ∧ (0 : Int) ≤ 18446744073709551615; decide, by show (0 : Int) ≤ 6 ∧ (6 : Int) ≤ 6; decide⟩, g3.out⟩
    · rw [show PChain.down _ gw = _ from if_neg hc]
      have d1 : (gw == 0) = false := by simp [hc]
      replace hc := Lib.hid hc
      as_aux_lemma =>
        go_enter Try.func125, Try.ntmps125
        go_wp2_with fail
        refine gen_world (α := fun W' => bodyPost _ _ _ _ _ W') (fun W' => Blk W' b 137 #[.int .i64 cell, .int .u64 epoch, .int .u64 gw, .int .i64 2, .bool has, .string text, .int .u64 vblock, .int .i64 passed] ∧ Chg (fun k => k = b) w W') ⟨?_, ?_⟩ ?_
        · refine Blk.eq_cs (cs := (((#[.int .i64 cell, .int .u64 epoch, .int .u64 block, .int .i64 1, .bool has, .string text, .int .u64 vblock, .int .i64 passed] : Array Value).setIfInBounds 2 (.int .u64 gw)).setIfInBounds 3 (.int .i64 2))) ?_ rfl
          have hB := hB.out
          (repeat first | with_reducible exact hB | with_reducible refine Blk.drewN ?_ _ | with_reducible refine Blk.drew ?_ | with_reducible refine Blk.alloc ?_ _ | with_reducible refine Blk.set_ ?_ _ _ | refine Blk.far ?_ (by simp; omega) _)
        · have hC := Chg.refl (fun k => k = b) w
          repeat first | with_reducible exact hC | with_reducible refine Chg.drew ?_ | with_reducible refine Chg.drewN ?_ _ | with_reducible refine Chg.alloc ?_ _ | refine Chg.setCell ?_ (by left; rfl) _
        rintro W' ⟨g1, g2⟩
        exact bodyPost_end (v := .tuple #[]) (results_none (by kernel_rfl) _ _ _) rfl ⟨rfl, ⟨g1, hcl, hep, hg0, by show (0 : Int) ≤ 2 ∧ (2 : Int) ≤ 6; decide⟩, g2⟩
  · simp (config := { decide := true }) only [if_true, if_false]
    by_cases hc : epoch < gw
    · rw [if_pos hc]
      have d1 : decide (epoch < gw) = true := by simp [hc]
      replace hc := Lib.hid hc
      as_aux_lemma =>
        go_enter Try.func125, Try.ntmps125
        go_wp2_with fail
        go_quiet (fail)
        go_wp2_with fail
        refine gen_world (α := fun W' => bodyPost _ _ _ _ _ W') (fun W' => Blk W' b 137 #[.int .i64 cell, .int .u64 epoch, .int .u64 block, .int .i64 3, .bool has, .string text, .int .u64 vblock, .int .i64 passed] ∧ Chg (fun k => k = b) w W') ⟨?_, ?_⟩ ?_
        · refine Blk.eq_cs (cs := (((#[.int .i64 cell, .int .u64 epoch, .int .u64 block, .int .i64 2, .bool has, .string text, .int .u64 vblock, .int .i64 passed] : Array Value).setIfInBounds 3 (.int .i64 4)).setIfInBounds 3 (.int .i64 3))) ?_ rfl
          have hB := hB.out
          (repeat first | with_reducible exact hB | with_reducible refine Blk.drewN ?_ _ | with_reducible refine Blk.drew ?_ | with_reducible refine Blk.alloc ?_ _ | with_reducible refine Blk.set_ ?_ _ _ | refine Blk.far ?_ (by simp; omega) _)
        · have hC := Chg.refl (fun k => k = b) w
          repeat first | with_reducible exact hC | with_reducible refine Chg.drew ?_ | with_reducible refine Chg.drewN ?_ _ | with_reducible refine Chg.alloc ?_ _ | refine Chg.setCell ?_ (by left; rfl) _
        rintro W' ⟨g1, g2⟩
        exact bodyPost_end (v := .tuple #[]) (results_none (by kernel_rfl) _ _ _) rfl ⟨rfl, ⟨g1, hcl, hep, hbl, by show (0 : Int) ≤ 3 ∧ (3 : Int) ≤ 6; decide⟩, g2⟩
    · rw [if_neg hc]
      have d1 : decide (epoch < gw) = false := by simp [hc]
      replace hc := Lib.hid hc
      as_aux_lemma =>
        go_enter Try.func125, Try.ntmps125
        go_wp2_with fail
        go_quiet (fail)
        go_wp2_with fail
        refine gen_world (α := fun W' => bodyPost _ _ _ _ _ W') (fun W' => Blk W' b 137 #[.int .i64 cell, .int .u64 epoch, .int .u64 block, .int .i64 4, .bool has, .string text, .int .u64 vblock, .int .i64 passed] ∧ Chg (fun k => k = b) w W') ⟨?_, ?_⟩ ?_
        · refine Blk.eq_cs (cs := ((#[.int .i64 cell, .int .u64 epoch, .int .u64 block, .int .i64 2, .bool has, .string text, .int .u64 vblock, .int .i64 passed] : Array Value).setIfInBounds 3 (.int .i64 4))) ?_ rfl
          have hB := hB.out
          (repeat first | with_reducible exact hB | with_reducible refine Blk.drewN ?_ _ | with_reducible refine Blk.drew ?_ | with_reducible refine Blk.alloc ?_ _ | with_reducible refine Blk.set_ ?_ _ _ | refine Blk.far ?_ (by simp; omega) _)
        · have hC := Chg.refl (fun k => k = b) w
          repeat first | with_reducible exact hC | with_reducible refine Chg.drew ?_ | with_reducible refine Chg.drewN ?_ _ | with_reducible refine Chg.alloc ?_ _ | refine Chg.setCell ?_ (by left; rfl) _
        rintro W' ⟨g1, g2⟩
        exact bodyPost_end (v := .tuple #[]) (results_none (by kernel_rfl) _ _ _) rfl ⟨rfl, ⟨g1, hcl, hep, hbl, by show (0 : Int) ≤ 4 ∧ (4 : Int) ≤ 6; decide⟩, g2⟩
  · simp (config := { decide := true }) only [if_true, if_false]
    by_cases hc : gw = 0
    · subst hc
      rw [show PChain.down _ 0 = _ from if_pos rfl]
      as_aux_lemma =>
        go_enter Try.func125, Try.ntmps125
        go_wp2_with fail
        refine (end_any (cell := cell) (epoch := epoch) (block := 0) (part := 2) (vblock := vblock) (passed := pw) (has := has) (text := text) ?_ false ⟨#[]⟩).mono ?_
        · refine Blk.eq_cs (cs := ((((#[.int .i64 cell, .int .u64 epoch, .int .u64 block, .int .i64 3, .bool has, .string text, .int .u64 vblock, .int .i64 passed] : Array Value).setIfInBounds 7 (.int .i64 pw)).setIfInBounds 2 (.int .u64 0)).setIfInBounds 3 (.int .i64 2))) ?_ rfl
          have hB := hB.out
          (repeat first | with_reducible exact hB | with_reducible refine Blk.drewN ?_ _ | with_reducible refine Blk.drew ?_ | with_reducible refine Blk.alloc ?_ _ | with_reducible refine Blk.set_ ?_ _ _ | refine Blk.far ?_ (by simp; omega) _)
        rintro e w1 ⟨rfl, g1, g2⟩
        have g3 : Chg (fun k => k = b) w w1 := Chg.trans (by
          have hC := Chg.refl (fun k => k = b) w
          repeat first | with_reducible exact hC | with_reducible refine Chg.drew ?_ | with_reducible refine Chg.drewN ?_ _ | with_reducible refine Chg.alloc ?_ _ | refine Chg.setCell ?_ (by left; rfl) _) g2 fun i hi => Or.inl hi
        clear g2
        replace g1 := Lib.hid g1
        replace g3 := Lib.hid g3
        go_wp2_with fail
        exact bodyPost_end (v := .tuple #[]) (results_none (by kernel_rfl) _ _ _) rfl ⟨rfl, ⟨g1.out, hcl, hep, by show (0 : Int) ≤ 0 ∧ (0 : Int) ≤ 18446744073709551615; decide, by show (0 : Int) ≤ 6 ∧ (6 : Int) ≤ 6; decide⟩, g3.out⟩
    · rw [show PChain.down _ gw = _ from if_neg hc]
      have d1 : (gw == 0) = false := by simp [hc]
      replace hc := Lib.hid hc
      as_aux_lemma =>
        go_enter Try.func125, Try.ntmps125
        go_wp2_with fail
        refine gen_world (α := fun W' => bodyPost _ _ _ _ _ W') (fun W' => Blk W' b 137 #[.int .i64 cell, .int .u64 epoch, .int .u64 gw, .int .i64 2, .bool has, .string text, .int .u64 vblock, .int .i64 pw] ∧ Chg (fun k => k = b) w W') ⟨?_, ?_⟩ ?_
        · refine Blk.eq_cs (cs := ((((#[.int .i64 cell, .int .u64 epoch, .int .u64 block, .int .i64 3, .bool has, .string text, .int .u64 vblock, .int .i64 passed] : Array Value).setIfInBounds 7 (.int .i64 pw)).setIfInBounds 2 (.int .u64 gw)).setIfInBounds 3 (.int .i64 2))) ?_ rfl
          have hB := hB.out
          (repeat first | with_reducible exact hB | with_reducible refine Blk.drewN ?_ _ | with_reducible refine Blk.drew ?_ | with_reducible refine Blk.alloc ?_ _ | with_reducible refine Blk.set_ ?_ _ _ | refine Blk.far ?_ (by simp; omega) _)
        · have hC := Chg.refl (fun k => k = b) w
          repeat first | with_reducible exact hC | with_reducible refine Chg.drew ?_ | with_reducible refine Chg.drewN ?_ _ | with_reducible refine Chg.alloc ?_ _ | refine Chg.setCell ?_ (by left; rfl) _
        rintro W' ⟨g1, g2⟩
        exact bodyPost_end (v := .tuple #[]) (results_none (by kernel_rfl) _ _ _) rfl ⟨rfl, ⟨g1, hcl, hep, hg0, by show (0 : Int) ≤ 2 ∧ (2 : Int) ≤ 6; decide⟩, g2⟩
  · simp (config := { decide := true }) only [if_true, if_false]
    by_cases hc : gw = 0
    · subst hc
      simp only [if_true]
      as_aux_lemma =>
        go_enter Try.func125, Try.ntmps125
        go_wp2_with fail
        refine (end_any (cell := cell) (epoch := epoch) (block := block) (part := 5) (vblock := vblock) (passed := passed) (has := has) (text := text) ?_ false ⟨#[]⟩).mono ?_
        · refine Blk.eq_cs (cs := ((#[.int .i64 cell, .int .u64 epoch, .int .u64 block, .int .i64 4, .bool has, .string text, .int .u64 vblock, .int .i64 passed] : Array Value).setIfInBounds 3 (.int .i64 5))) ?_ rfl
          have hB := hB.out
          (repeat first | with_reducible exact hB | with_reducible refine Blk.drewN ?_ _ | with_reducible refine Blk.drew ?_ | with_reducible refine Blk.alloc ?_ _ | with_reducible refine Blk.set_ ?_ _ _ | refine Blk.far ?_ (by simp; omega) _)
        rintro e w1 ⟨rfl, g1, g2⟩
        have g3 : Chg (fun k => k = b) w w1 := Chg.trans (by
          have hC := Chg.refl (fun k => k = b) w
          repeat first | with_reducible exact hC | with_reducible refine Chg.drew ?_ | with_reducible refine Chg.drewN ?_ _ | with_reducible refine Chg.alloc ?_ _ | refine Chg.setCell ?_ (by left; rfl) _) g2 fun i hi => Or.inl hi
        clear g2
        replace g1 := Lib.hid g1
        replace g3 := Lib.hid g3
        go_wp2_with fail
        exact bodyPost_end (v := .tuple #[]) (results_none (by kernel_rfl) _ _ _) rfl ⟨rfl, ⟨g1.out, hcl, hep, hbl, by show (0 : Int) ≤ 6 ∧ (6 : Int) ≤ 6; decide⟩, g3.out⟩
    · rw [if_neg hc]
      have d1 : (gw == 0) = false := by simp [hc]
      replace hc := Lib.hid hc
      as_aux_lemma =>
        go_enter Try.func125, Try.ntmps125
        go_wp2_with fail
        refine gen_world (α := fun W' => bodyPost _ _ _ _ _ W') (fun W' => Blk W' b 137 #[.int .i64 cell, .int .u64 epoch, .int .u64 block, .int .i64 5, .bool has, .string text, .int .u64 vblock, .int .i64 passed] ∧ Chg (fun k => k = b) w W') ⟨?_, ?_⟩ ?_
        · refine Blk.eq_cs (cs := ((#[.int .i64 cell, .int .u64 epoch, .int .u64 block, .int .i64 4, .bool has, .string text, .int .u64 vblock, .int .i64 passed] : Array Value).setIfInBounds 3 (.int .i64 5))) ?_ rfl
          have hB := hB.out
          (repeat first | with_reducible exact hB | with_reducible refine Blk.drewN ?_ _ | with_reducible refine Blk.drew ?_ | with_reducible refine Blk.alloc ?_ _ | with_reducible refine Blk.set_ ?_ _ _ | refine Blk.far ?_ (by simp; omega) _)
        · have hC := Chg.refl (fun k => k = b) w
          repeat first | with_reducible exact hC | with_reducible refine Chg.drew ?_ | with_reducible refine Chg.drewN ?_ _ | with_reducible refine Chg.alloc ?_ _ | refine Chg.setCell ?_ (by left; rfl) _
        rintro W' ⟨g1, g2⟩
        exact bodyPost_end (v := .tuple #[]) (results_none (by kernel_rfl) _ _ _) rfl ⟨rfl, ⟨g1, hcl, hep, hbl, by show (0 : Int) ≤ 5 ∧ (5 : Int) ≤ 6; decide⟩, g2⟩
  · simp (config := { decide := true }) only [if_true, if_false]
    as_aux_lemma =>
      go_enter Try.func125, Try.ntmps125
      go_wp2_with fail
      refine (end_any (cell := cell) (epoch := epoch) (block := block) (part := 5) (vblock := vblock) (passed := passed) (has := has) (text := text) ?_ true gt).mono ?_
      · refine Blk.eq_cs (cs := (#[.int .i64 cell, .int .u64 epoch, .int .u64 block, .int .i64 5, .bool has, .string text, .int .u64 vblock, .int .i64 passed] : Array Value)) ?_ rfl
        have hB := hB.out
        (repeat first | with_reducible exact hB | with_reducible refine Blk.drewN ?_ _ | with_reducible refine Blk.drew ?_ | with_reducible refine Blk.alloc ?_ _ | with_reducible refine Blk.set_ ?_ _ _ | refine Blk.far ?_ (by simp; omega) _)
      rintro e w1 ⟨rfl, g1, g2⟩
      have g3 : Chg (fun k => k = b) w w1 := Chg.trans (by
        have hC := Chg.refl (fun k => k = b) w
        repeat first | with_reducible exact hC | with_reducible refine Chg.drew ?_ | with_reducible refine Chg.drewN ?_ _ | with_reducible refine Chg.alloc ?_ _ | refine Chg.setCell ?_ (by left; rfl) _) g2 fun i hi => Or.inl hi
      clear g2
      replace g1 := Lib.hid g1
      replace g3 := Lib.hid g3
      go_wp2_with fail
      exact bodyPost_end (v := .tuple #[]) (results_none (by kernel_rfl) _ _ _) rfl ⟨rfl, ⟨g1.out, hcl, hep, hbl, by show (0 : Int) ≤ 6 ∧ (6 : Int) ≤ 6; decide⟩, g3.out⟩
  · simp (config := { decide := true }) only [if_false]
    as_aux_lemma =>
      go_enter Try.func125, Try.ntmps125
      go_wp2_with fail
      exact bodyPost_end (v := .tuple #[]) (results_none (by kernel_rfl) _ _ _) rfl ⟨rfl, h.out.below hz.out, Chg.of_below hz.out _⟩
end Go.Proofs.Ytpldnbdcpihjcaa
