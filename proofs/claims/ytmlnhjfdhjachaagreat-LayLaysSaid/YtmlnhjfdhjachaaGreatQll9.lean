import Derived.BigQuiet
import Derived.Deep.RegionWith
import Derived.Test.YtmlnhjfdhjachaaGreatRows
import Derived.WalkMore
import Derived.Test.YtmlnhjfdhjachaaGreatQll8
/-
  The routine that reads a chain of versions (layer 24): what each of its functions does. No condition.
-/
namespace Go.Proofs.YtmlnhjfdhjachaaGreat
set_option linter.unusedVariables false
open Go.ChangeShapes Go.WideShapes Go.ChangeAt Go.RowKit
open Go.ChangeMaps (setBlock)

structure PChain where
  cell : Int
  epoch : Int
  block : Int
  part : Int
  has : Bool
  text : ByteArray
  vblock : Int
  passed : Int
def PChain.cells (s : PChain) : Array Value := #[.int .i64 s.cell, .int .u64 s.epoch, .int .u64 s.block, .int .i64 s.part, .bool s.has, .string s.text, .int .u64 s.vblock, .int .i64 s.passed]
structure ChainIn (w : World) (b : Nat) (s : PChain) : Prop where
  blk : Blk w b 151 s.cells
  cell : -9223372036854775808 ≤ s.cell ∧ s.cell ≤ 9223372036854775807
  epoch : 0 ≤ s.epoch ∧ s.epoch ≤ 18446744073709551615
  block : 0 ≤ s.block ∧ s.block ≤ 18446744073709551615
  part : 0 ≤ s.part ∧ s.part ≤ 6
theorem ChainIn.keep {w w' : World} {b : Nat} {s : PChain} (h : ChainIn w b s) (hb : w'.heap[b]? = w.heap[b]?) : ChainIn w' b s := ⟨h.blk.keep hb, h.cell, h.epoch, h.block, h.part⟩
theorem ChainIn.below {w w' : World} {b : Nat} {s : PChain} (h : ChainIn w b s) (hb : Below w.heap.size w w') : ChainIn w' b s := h.keep (hb.block _ h.blk.lt)
/-- What it does next. -/
def PChain.act (s : PChain) : PAct × Bool :=
  if s.part = 1 then (⟨1, 1, s.cell, 0, 0, ByteArray.empty⟩, true)
  else if s.part = 2 then (⟨1, s.block, 0, 0, 0, ByteArray.empty⟩, true)
  else if s.part = 3 then (⟨1, s.block, 1, 0, 0, ByteArray.empty⟩, true)
  else if s.part = 4 then (⟨1, s.block, 2, 0, 0, ByteArray.empty⟩, true)
  else if s.part = 5 then (⟨6, s.block, 0, 0, 0, ByteArray.empty⟩, true)
  else (noAct, false)
/-- What was read is put down. -/
def PChain.done_ (s : PChain) (has : Bool) (t : ByteArray) : PChain := { s with has := has, text := t, vblock := s.block, part := 6 }
def PChain.down (s : PChain) (x : Int) : PChain := if x = 0 then PChain.done_ { s with block := x, part := 2 } false ByteArray.empty else { s with block := x, part := 2 }
/-- What it takes. -/
def PChain.take (s : PChain) (g : PGot) : PChain :=
  if s.part = 1 then s.down g.word
  else if s.part = 2 then (if s.epoch < g.word then { s with part := 3 } else { s with part := 4 })
  else if s.part = 3 then PChain.down { s with passed := IntKind.i64.wrap (s.passed + 1) } g.word
  else if s.part = 4 then (if g.word = 0 then PChain.done_ { s with part := 5 } false ByteArray.empty else { s with part := 5 })
  else if s.part = 5 then s.done_ true g.text
  else s
def PChain.result (s : PChain) : (Bool × ByteArray × Int) × Bool := if s.part = 6 then ((s.has, s.text, s.vblock), true) else ((false, ByteArray.empty, 0), false)
set_option maxHeartbeats 1000000 in
theorem chainResult_any {w : World} {b : Nat} {s : PChain} (h : ChainIn w b s) : Calls Tryz.prog 84 #[.pointer (some ⟨b, 0, none⟩)] w fun e w' => e = .returned (.tuple #[.agg #[.bool s.result.1.1, .string s.result.1.2.1, .int .u64 s.result.1.2.2], .bool s.result.2]) ∧ Below w.heap.size w w' := by
  have hr : s.result = if s.part = 6 then ((s.has, s.text, s.vblock), true) else ((false, ByteArray.empty, 0), false) := rfl
  rw [hr]
  clear hr
  obtain ⟨cell, epoch, block, part, has, text, vblock, passed⟩ := s
  have hB : Blk w b 151 #[.int .i64 cell, .int .u64 epoch, .int .u64 block, .int .i64 part, .bool has, .string text, .int .u64 vblock, .int .i64 passed] := h.blk
  have c3 := hB.cell 3
  have c4 := hB.cell 4
  have c5 := hB.cell 5
  have c6 := hB.cell 6
  have hlt := hB.lt
  replace h := Lib.hid h
  replace hB := Lib.hid hB
  by_cases hp : part = 6
  · subst hp
    go_enter Tryz.func84, Tryz.ntmps84
    go_wp2_with fail
    refine bodyPost_ret (v := .tuple #[.agg #[.bool has, .string text, .int .u64 vblock], .bool true]) (by simp [results, Tryz.results84, go_sem]) rfl ⟨by simp, ?_⟩
    (repeat first | exact Below.refl _ _ | assumption | refine Below.drew ?_ | refine below_drewN ?_ _ | refine Below.more_ ?_ _ | refine Below.setCell ?_ (by first | exact Nat.le_refl _ | (simp; done) | (simp; omega)) _)
  · have d1 : (part == 6) = false := by simp [hp]
    simp only [hp, if_false]
    replace hp' := Lib.hid hp
    go_enter Tryz.func84, Tryz.ntmps84
    go_wp2_with fail
    refine bodyPost_ret (v := .tuple #[.agg #[.bool false, .string ⟨#[]⟩, .int .u64 0], .bool false]) (by simp [results, Tryz.results84, go_sem]) rfl ⟨rfl, ?_⟩
    (repeat first | exact Below.refl _ _ | assumption | refine Below.drew ?_ | refine below_drewN ?_ _ | refine Below.more_ ?_ _ | refine Below.setCell ?_ (by first | exact Nat.le_refl _ | (simp; done) | (simp; omega)) _)
set_option maxRecDepth 100000 in
set_option maxHeartbeats 8000000 in
theorem chainAct_any {w : World} {b : Nat} {s : PChain} (h : ChainIn w b s) : Calls Tryz.prog 40 #[.pointer (some ⟨b, 0, none⟩)] w fun e w' => e = .returned (.tuple #[s.act.1.val, .bool s.act.2]) ∧ Below w.heap.size w w' := by
  have hA : s.act = if s.part = 1 then (⟨1, 1, s.cell, 0, 0, ByteArray.empty⟩, true) else if s.part = 2 then (⟨1, s.block, 0, 0, 0, ByteArray.empty⟩, true) else if s.part = 3 then (⟨1, s.block, 1, 0, 0, ByteArray.empty⟩, true) else if s.part = 4 then (⟨1, s.block, 2, 0, 0, ByteArray.empty⟩, true) else if s.part = 5 then (⟨6, s.block, 0, 0, 0, ByteArray.empty⟩, true) else (noAct, false) := rfl
  have hp5 := h.part
  rw [hA]
  clear hA
  obtain ⟨cell, epoch, block, part, has, text, vblock, passed⟩ := s
  simp only at hp5 ⊢
  have hB : Blk w b 151 #[.int .i64 cell, .int .u64 epoch, .int .u64 block, .int .i64 part, .bool has, .string text, .int .u64 vblock, .int .i64 passed] := h.blk
  have c0 := hB.cell 0
  have c2 := hB.cell 2
  have c3 := hB.cell 3
  have hlt := hB.lt
  replace h := Lib.hid h
  replace hB := Lib.hid hB
  have hcase : part = 0 ∨ part = 1 ∨ part = 2 ∨ part = 3 ∨ part = 4 ∨ part = 5 ∨ part = 6 := by omega
  rcases hcase with rfl | rfl | rfl | rfl | rfl | rfl | rfl
  · as_aux_lemma =>
      simp (config := { decide := true }) only [if_false]
      change Calls Tryz.prog _ _ _ (fun e w' => e = .returned (.tuple #[.agg #[.int .i64 0, .int .u64 0, .int .i64 0, .int .u64 0, .int .u64 0, .string ⟨#[]⟩], .bool false]) ∧ _)
      go_enter Tryz.func40, Tryz.ntmps40
      go_wp2_with fail
      refine bodyPost_ret (v := .tuple #[.agg #[.int .i64 0, .int .u64 0, .int .i64 0, .int .u64 0, .int .u64 0, .string ⟨#[]⟩], .bool false]) (by simp [results, Tryz.results40, go_sem]) rfl ⟨rfl, ?_⟩
      (repeat first | exact Below.refl _ _ | assumption | refine Below.drew ?_ | refine below_drewN ?_ _ | refine Below.more_ ?_ _ | refine Below.setCell ?_ (by first | exact Nat.le_refl _ | (simp; done) | (simp; omega)) _)
  · as_aux_lemma =>
      simp (config := { decide := true }) only [if_true, if_false]
      change Calls Tryz.prog _ _ _ (fun e w' => e = .returned (.tuple #[.agg #[.int .i64 1, .int .u64 1, .int .i64 cell, .int .u64 0, .int .u64 0, .string ⟨#[]⟩], .bool true]) ∧ _)
      go_enter Tryz.func40, Tryz.ntmps40
      go_wp2_with fail
      go_region
      go_wp2_with fail
      refine bodyPost_ret (v := .tuple #[.agg #[.int .i64 1, .int .u64 1, .int .i64 cell, .int .u64 0, .int .u64 0, .string ⟨#[]⟩], .bool true]) (by simp [results, Tryz.results40, go_sem]) rfl ⟨rfl, ?_⟩
      (repeat first | exact Below.refl _ _ | assumption | refine Below.drew ?_ | refine below_drewN ?_ _ | refine Below.more_ ?_ _ | refine Below.setCell ?_ (by first | exact Nat.le_refl _ | (simp; done) | (simp; omega)) _)
  · as_aux_lemma =>
      simp (config := { decide := true }) only [if_true, if_false]
      change Calls Tryz.prog _ _ _ (fun e w' => e = .returned (.tuple #[.agg #[.int .i64 1, .int .u64 block, .int .i64 0, .int .u64 0, .int .u64 0, .string ⟨#[]⟩], .bool true]) ∧ _)
      go_enter Tryz.func40, Tryz.ntmps40
      go_wp2_with fail
      refine bodyPost_ret (v := .tuple #[.agg #[.int .i64 1, .int .u64 block, .int .i64 0, .int .u64 0, .int .u64 0, .string ⟨#[]⟩], .bool true]) (by simp [results, Tryz.results40, go_sem]) rfl ⟨rfl, ?_⟩
      (repeat first | exact Below.refl _ _ | assumption | refine Below.drew ?_ | refine below_drewN ?_ _ | refine Below.more_ ?_ _ | refine Below.setCell ?_ (by first | exact Nat.le_refl _ | (simp; done) | (simp; omega)) _)
  · as_aux_lemma =>
      simp (config := { decide := true }) only [if_true, if_false]
      change Calls Tryz.prog _ _ _ (fun e w' => e = .returned (.tuple #[.agg #[.int .i64 1, .int .u64 block, .int .i64 1, .int .u64 0, .int .u64 0, .string ⟨#[]⟩], .bool true]) ∧ _)
      go_enter Tryz.func40, Tryz.ntmps40
      go_wp2_with fail
      refine bodyPost_ret (v := .tuple #[.agg #[.int .i64 1, .int .u64 block, .int .i64 1, .int .u64 0, .int .u64 0, .string ⟨#[]⟩], .bool true]) (by simp [results, Tryz.results40, go_sem]) rfl ⟨rfl, ?_⟩
      (repeat first | exact Below.refl _ _ | assumption | refine Below.drew ?_ | refine below_drewN ?_ _ | refine Below.more_ ?_ _ | refine Below.setCell ?_ (by first | exact Nat.le_refl _ | (simp; done) | (simp; omega)) _)
  · as_aux_lemma =>
      simp (config := { decide := true }) only [if_true, if_false]
      change Calls Tryz.prog _ _ _ (fun e w' => e = .returned (.tuple #[.agg #[.int .i64 1, .int .u64 block, .int .i64 2, .int .u64 0, .int .u64 0, .string ⟨#[]⟩], .bool true]) ∧ _)
      go_enter Tryz.func40, Tryz.ntmps40
      go_wp2_with fail
      refine bodyPost_ret (v := .tuple #[.agg #[.int .i64 1, .int .u64 block, .int .i64 2, .int .u64 0, .int .u64 0, .string ⟨#[]⟩], .bool true]) (by simp [results, Tryz.results40, go_sem]) rfl ⟨rfl, ?_⟩
      (repeat first | exact Below.refl _ _ | assumption | refine Below.drew ?_ | refine below_drewN ?_ _ | refine Below.more_ ?_ _ | refine Below.setCell ?_ (by first | exact Nat.le_refl _ | (simp; done) | (simp; omega)) _)
  · as_aux_lemma =>
      simp (config := { decide := true }) only [if_true, if_false]
      change Calls Tryz.prog _ _ _ (fun e w' => e = .returned (.tuple #[.agg #[.int .i64 6, .int .u64 block, .int .i64 0, .int .u64 0, .int .u64 0, .string ⟨#[]⟩], .bool true]) ∧ _)
      go_enter Tryz.func40, Tryz.ntmps40
      go_wp2_with fail
      refine bodyPost_ret (v := .tuple #[.agg #[.int .i64 6, .int .u64 block, .int .i64 0, .int .u64 0, .int .u64 0, .string ⟨#[]⟩], .bool true]) (by simp [results, Tryz.results40, go_sem]) rfl ⟨rfl, ?_⟩
      (repeat first | exact Below.refl _ _ | assumption | refine Below.drew ?_ | refine below_drewN ?_ _ | refine Below.more_ ?_ _ | refine Below.setCell ?_ (by first | exact Nat.le_refl _ | (simp; done) | (simp; omega)) _)
  · as_aux_lemma =>
      simp (config := { decide := true }) only [if_false]
      change Calls Tryz.prog _ _ _ (fun e w' => e = .returned (.tuple #[.agg #[.int .i64 0, .int .u64 0, .int .i64 0, .int .u64 0, .int .u64 0, .string ⟨#[]⟩], .bool false]) ∧ _)
      go_enter Tryz.func40, Tryz.ntmps40
      go_wp2_with fail
      refine bodyPost_ret (v := .tuple #[.agg #[.int .i64 0, .int .u64 0, .int .i64 0, .int .u64 0, .int .u64 0, .string ⟨#[]⟩], .bool false]) (by simp [results, Tryz.results40, go_sem]) rfl ⟨rfl, ?_⟩
      (repeat first | exact Below.refl _ _ | assumption | refine Below.drew ?_ | refine below_drewN ?_ _ | refine Below.more_ ?_ _ | refine Below.setCell ?_ (by first | exact Nat.le_refl _ | (simp; done) | (simp; omega)) _)
end Go.Proofs.YtmlnhjfdhjachaaGreat

/-
  The routine that reads a chain of versions (layer 24): what it takes. No condition.
-/
namespace Go.Proofs.YtmlnhjfdhjachaaGreat
set_option linter.unusedVariables false
open Go.ChangeShapes Go.WideShapes Go.ChangeAt Go.RowKit
open Go.ChangeMaps (setBlock)

theorem chg_setCell {w W : World} {b : Nat} (h : Chg (fun k => k = b) w W) (i : Nat) (v : Value) : Chg (fun k => k = b) w (W.setCell ⟨b, i, none⟩ v) := Chg.setCell h (by left; rfl) v
set_option maxRecDepth 100000 in
set_option maxHeartbeats 2000000 in
theorem end_any {w : World} {b : Nat} {cell epoch block part vblock passed : Int} {has : Bool} {text : ByteArray} (hB : Blk w b 151 #[.int .i64 cell, .int .u64 epoch, .int .u64 block, .int .i64 part, .bool has, .string text, .int .u64 vblock, .int .i64 passed]) (hs : Bool) (t : ByteArray) : Calls Tryz.prog 83 #[.pointer (some ⟨b, 0, none⟩), .bool hs, .string t] w fun e w' => e = .returned (.tuple #[]) ∧ Blk w' b 151 #[.int .i64 cell, .int .u64 epoch, .int .u64 block, .int .i64 6, .bool hs, .string t, .int .u64 block, .int .i64 passed] ∧ Chg (fun k => k = b) w w' := by
  have c2 := hB.cell 2
  have c3 := hB.cell 3
  have c4 := hB.cell 4
  have c5 := hB.cell 5
  have c6 := hB.cell 6
  have f3 := hB.frozen 3
  have f4 := hB.frozen 4
  have f5 := hB.frozen 5
  have f6 := hB.frozen 6
  have hlt := hB.lt
  replace hB := Lib.hid hB
  go_enter Tryz.func83, Tryz.ntmps83
  go_wp2_with fail
  refine gen_world (α := fun W' => bodyPost _ _ _ _ _ W') (fun W' => Blk W' b 151 #[.int .i64 cell, .int .u64 epoch, .int .u64 block, .int .i64 6, .bool hs, .string t, .int .u64 block, .int .i64 passed] ∧ Chg (fun k => k = b) w W') ⟨?_, ?_⟩ ?_
  · exact Blk.eq_cs ((((hB.out.set_ 4 _).set_ 5 _).set_ 6 _).set_ 3 _) rfl
  · exact chg_setCell (chg_setCell (chg_setCell (chg_setCell (Chg.refl _ _) _ _) _ _) _ _) _ _
  rintro W' ⟨g1, g2⟩
  exact bodyPost_end (v := .tuple #[]) (results_none (by kernel_rfl) _ _ _) rfl ⟨rfl, g1, g2⟩
set_option maxRecDepth 100000 in
set_option maxHeartbeats 16000000 in
theorem chainTake_any {w : World} {b : Nat} {s : PChain} (h : ChainIn w b s) (g : PGot) (hg : g.Ok) : Calls Tryz.prog 53 #[.pointer (some ⟨b, 0, none⟩), g.val] w fun e w' => e = .returned (.tuple #[]) ∧ ChainIn w' b (s.take g) ∧ Chg (fun k => k = b) w w' := by
  obtain ⟨gw, gt⟩ := g
  rw [show PGot.val ⟨gw, gt⟩ = .agg #[.int .u64 gw, .string gt] from rfl]
  have hT : s.take ⟨gw, gt⟩ = if s.part = 1 then s.down gw else if s.part = 2 then (if s.epoch < gw then { s with part := 3 } else { s with part := 4 }) else if s.part = 3 then PChain.down { s with passed := IntKind.i64.wrap (s.passed + 1) } gw else if s.part = 4 then (if gw = 0 then PChain.done_ { s with part := 5 } false ByteArray.empty else { s with part := 5 }) else if s.part = 5 then s.done_ true gt else s := rfl
  rw [hT]
  clear hT
  have hz : Below w.heap.size w (w.alloc (.cells #[.int .u64 gw, .string gt] 52)) := (Below.refl _ _).alloc (Nat.le_refl _) _
  have hp := h.part
  have hcl := h.cell
  have hep := h.epoch
  have hbl := h.block
  obtain ⟨cell, epoch, block, part, has, text, vblock, passed⟩ := s
  simp only at hp hcl hep hbl ⊢
  have hB : Blk w b 151 #[.int .i64 cell, .int .u64 epoch, .int .u64 block, .int .i64 part, .bool has, .string text, .int .u64 vblock, .int .i64 passed] := h.blk
  have c1 := hB.cell 1
  have c2 := hB.cell 2
  have c3 := hB.cell 3
  have c7 := hB.cell 7
  have f2 := hB.frozen 2
  have f3 := hB.frozen 3
  have f7 := hB.frozen 7
  have hlt := hB.lt
  generalize hpw : IntKind.i64.wrap (passed + 1) = pw at *
  have hpw2 : wrap64 (passed + 1) = pw := by rw [← IntWalk.i64_left]; exact hpw
  replace hpw := Lib.hid hpw
  have hg0 : 0 ≤ gw ∧ gw ≤ 18446744073709551615 := hg
  replace h := Lib.hid h
  replace hB := Lib.hid hB
  replace hz := Lib.hid hz
  have hcase : part = 0 ∨ part = 1 ∨ part = 2 ∨ part = 3 ∨ part = 4 ∨ part = 5 ∨ part = 6 := by omega
  rcases hcase with rfl | rfl | rfl | rfl | rfl | rfl | rfl
  · simp (config := { decide := true }) only [if_false]
    as_aux_lemma =>
      go_enter Tryz.func53, Tryz.ntmps53
      go_wp2_with fail
      exact bodyPost_end (v := .tuple #[]) (results_none (by kernel_rfl) _ _ _) rfl ⟨rfl, h.out.below hz.out, Chg.of_below hz.out _⟩
  · simp (config := { decide := true }) only [if_true, if_false]
    by_cases hc : gw = 0
    · subst hc
      rw [show PChain.down _ 0 = _ from if_pos rfl]
      as_aux_lemma =>
        go_enter Tryz.func53, Tryz.ntmps53
        go_wp2_with fail
        refine (end_any (cell := cell) (epoch := epoch) (block := 0) (part := 2) (vblock := vblock) (passed := passed) (has := has) (text := text) ?_ false ⟨#[]⟩).mono ?_
        · refine Blk.eq_cs (cs := (((#[.int .i64 cell, .int .u64 epoch, .int .u64 block, .int .i64 1, .bool has, .string text, .int .u64 vblock, .int .i64 passed] : Array Value).setIfInBounds 2 (.int .u64 0)).setIfInBounds 3 (.int .i64 2))) ?_ rfl
          have hB := hB.out
          (repeat first | with_reducible exact hB | with_reducible refine Blk.drewN ?_ _ | with_reducible refine Blk.drew ?_ | with_reducible refine Blk.alloc ?_ _ | with_reducible refine Blk.set_ ?_ _ _ | refine Blk.far ?_ (by simp; omega) _)
        rintro e w1 ⟨rfl, g1, g2⟩
        have g3 : Chg (fun k => k = b) w w1 := Chg.trans (by
          have hC := Chg.refl (fun k => k = b) w
          repeat first | with_reducible exact hC | with_reducible refine Chg.drew ?_ | with_reducible refine Chg.drewN ?_ _ | with_reducible refine Chg.alloc ?_ _ | refine Chg.setCell ?_ (by left; rfl) _) g2 fun i hi => Or.inl hi
        clear g2
        replace g1 := Lib.hid g1
        replace g3 := Lib.hid g3
        go_wp2_with fail
        exact bodyPost_end (v := .tuple #[]) (results_none (by kernel_rfl) _ _ _) rfl ⟨rfl, ⟨g1.out, hcl, hep, by show (0 : Int) ≤ 0 ∧ (0 : Int) ≤ 18446744073709551615; decide, by show (0 : Int) ≤ 6 ∧ (6 : Int) ≤ 6; decide⟩, g3.out⟩
    · rw [show PChain.down _ gw = _ from if_neg hc]
      have d1 : (gw == 0) = false := by simp [hc]
      replace hc := Lib.hid hc
      as_aux_lemma =>
        go_enter Tryz.func53, Tryz.ntmps53
        go_wp2_with fail
        refine gen_world (α := fun W' => bodyPost _ _ _ _ _ W') (fun W' => Blk W' b 151 #[.int .i64 cell, .int .u64 epoch, .int .u64 gw, .int .i64 2, .bool has, .string text, .int .u64 vblock, .int .i64 passed] ∧ Chg (fun k => k = b) w W') ⟨?_, ?_⟩ ?_
        · refine Blk.eq_cs (cs := (((#[.int .i64 cell, .int .u64 epoch, .int .u64 block, .int .i64 1, .bool has, .string text, .int .u64 vblock, .int .i64 passed] : Array Value).setIfInBounds 2 (.int .u64 gw)).setIfInBounds 3 (.int .i64 2))) ?_ rfl
          have hB := hB.out
          (repeat first | with_reducible exact hB | with_reducible refine Blk.drewN ?_ _ | with_reducible refine Blk.drew ?_ | with_reducible refine Blk.alloc ?_ _ | with_reducible refine Blk.set_ ?_ _ _ | refine Blk.far ?_ (by simp; omega) _)
        · have hC := Chg.refl (fun k => k = b) w
          repeat first | with_reducible exact hC | with_reducible refine Chg.drew ?_ | with_reducible refine Chg.drewN ?_ _ | with_reducible refine Chg.alloc ?_ _ | refine Chg.setCell ?_ (by left; rfl) _
        rintro W' ⟨g1, g2⟩
        exact bodyPost_end (v := .tuple #[]) (results_none (by kernel_rfl) _ _ _) rfl ⟨rfl, ⟨g1, hcl, hep, hg0, by show (0 : Int) ≤ 2 ∧ (2 : Int) ≤ 6; decide⟩, g2⟩
  · simp (config := { decide := true }) only [if_true, if_false]
    by_cases hc : epoch < gw
    · rw [if_pos hc]
      have d1 : decide (epoch < gw) = true := by simp [hc]
      replace hc := Lib.hid hc
      as_aux_lemma =>
        go_enter Tryz.func53, Tryz.ntmps53
        go_wp2_with fail
        go_quiet (fail)
        go_wp2_with fail
        refine gen_world (α := fun W' => bodyPost _ _ _ _ _ W') (fun W' => Blk W' b 151 #[.int .i64 cell, .int .u64 epoch, .int .u64 block, .int .i64 3, .bool has, .string text, .int .u64 vblock, .int .i64 passed] ∧ Chg (fun k => k = b) w W') ⟨?_, ?_⟩ ?_
        · refine Blk.eq_cs (cs := (((#[.int .i64 cell, .int .u64 epoch, .int .u64 block, .int .i64 2, .bool has, .string text, .int .u64 vblock, .int .i64 passed] : Array Value).setIfInBounds 3 (.int .i64 4)).setIfInBounds 3 (.int .i64 3))) ?_ rfl
          have hB := hB.out
          (repeat first | with_reducible exact hB | with_reducible refine Blk.drewN ?_ _ | with_reducible refine Blk.drew ?_ | with_reducible refine Blk.alloc ?_ _ | with_reducible refine Blk.set_ ?_ _ _ | refine Blk.far ?_ (by simp; omega) _)
        · have hC := Chg.refl (fun k => k = b) w
          repeat first | with_reducible exact hC | with_reducible refine Chg.drew ?_ | with_reducible refine Chg.drewN ?_ _ | with_reducible refine Chg.alloc ?_ _ | refine Chg.setCell ?_ (by left; rfl) _
        rintro W' ⟨g1, g2⟩
        exact bodyPost_end (v := .tuple #[]) (results_none (by kernel_rfl) _ _ _) rfl ⟨rfl, ⟨g1, hcl, hep, hbl, by show (0 : Int) ≤ 3 ∧ (3 : Int) ≤ 6; decide⟩, g2⟩
    · rw [if_neg hc]
      have d1 : decide (epoch < gw) = false := by simp [hc]
      replace hc := Lib.hid hc
      as_aux_lemma =>
        go_enter Tryz.func53, Tryz.ntmps53
        go_wp2_with fail
        go_quiet (fail)
        go_wp2_with fail
        refine gen_world (α := fun W' => bodyPost _ _ _ _ _ W') (fun W' => Blk W' b 151 #[.int .i64 cell, .int .u64 epoch, .int .u64 block, .int .i64 4, .bool has, .string text, .int .u64 vblock, .int .i64 passed] ∧ Chg (fun k => k = b) w W') ⟨?_, ?_⟩ ?_
        · refine Blk.eq_cs (cs := ((#[.int .i64 cell, .int .u64 epoch, .int .u64 block, .int .i64 2, .bool has, .string text, .int .u64 vblock, .int .i64 passed] : Array Value).setIfInBounds 3 (.int .i64 4))) ?_ rfl
          have hB := hB.out
          (repeat first | with_reducible exact hB | with_reducible refine Blk.drewN ?_ _ | with_reducible refine Blk.drew ?_ | with_reducible refine Blk.alloc ?_ _ | with_reducible refine Blk.set_ ?_ _ _ | refine Blk.far ?_ (by simp; omega) _)
        · have hC := Chg.refl (fun k => k = b) w
          repeat first | with_reducible exact hC | with_reducible refine Chg.drew ?_ | with_reducible refine Chg.drewN ?_ _ | with_reducible refine Chg.alloc ?_ _ | refine Chg.setCell ?_ (by left; rfl) _
        rintro W' ⟨g1, g2⟩
        exact bodyPost_end (v := .tuple #[]) (results_none (by kernel_rfl) _ _ _) rfl ⟨rfl, ⟨g1, hcl, hep, hbl, by show (0 : Int) ≤ 4 ∧ (4 : Int) ≤ 6; decide⟩, g2⟩
  · simp (config := { decide := true }) only [if_true, if_false]
    by_cases hc : gw = 0
    · subst hc
      rw [show PChain.down _ 0 = _ from if_pos rfl]
      as_aux_lemma =>
        go_enter Tryz.func53, Tryz.ntmps53
        go_wp2_with fail
        refine (end_any (cell := cell) (epoch := epoch) (block := 0) (part := 2) (vblock := vblock) (passed := pw) (has := has) (text := text) ?_ false ⟨#[]⟩).mono ?_
        · refine Blk.eq_cs (cs := ((((#[.int .i64 cell, .int .u64 epoch, .int .u64 block, .int .i64 3, .bool has, .string text, .int .u64 vblock, .int .i64 passed] : Array Value).setIfInBounds 7 (.int .i64 pw)).setIfInBounds 2 (.int .u64 0)).setIfInBounds 3 (.int .i64 2))) ?_ rfl
          have hB := hB.out
          (repeat first | with_reducible exact hB | with_reducible refine Blk.drewN ?_ _ | with_reducible refine Blk.drew ?_ | with_reducible refine Blk.alloc ?_ _ | with_reducible refine Blk.set_ ?_ _ _ | refine Blk.far ?_ (by simp; omega) _)
        rintro e w1 ⟨rfl, g1, g2⟩
        have g3 : Chg (fun k => k = b) w w1 := Chg.trans (by
          have hC := Chg.refl (fun k => k = b) w
          repeat first | with_reducible exact hC | with_reducible refine Chg.drew ?_ | with_reducible refine Chg.drewN ?_ _ | with_reducible refine Chg.alloc ?_ _ | refine Chg.setCell ?_ (by left; rfl) _) g2 fun i hi => Or.inl hi
        clear g2
        replace g1 := Lib.hid g1
        replace g3 := Lib.hid g3
        go_wp2_with fail
        exact bodyPost_end (v := .tuple #[]) (results_none (by kernel_rfl) _ _ _) rfl ⟨rfl, ⟨g1.out, hcl, hep, by show (0 : Int) ≤ 0 ∧ (0 : Int) ≤ 18446744073709551615; decide, by show (0 : Int) ≤ 6 ∧ (6 : Int) ≤ 6; decide⟩, g3.out⟩
    · rw [show PChain.down _ gw = _ from if_neg hc]
      have d1 : (gw == 0) = false := by simp [hc]
      replace hc := Lib.hid hc
      as_aux_lemma =>
        go_enter Tryz.func53, Tryz.ntmps53
        go_wp2_with fail
        refine gen_world (α := fun W' => bodyPost _ _ _ _ _ W') (fun W' => Blk W' b 151 #[.int .i64 cell, .int .u64 epoch, .int .u64 gw, .int .i64 2, .bool has, .string text, .int .u64 vblock, .int .i64 pw] ∧ Chg (fun k => k = b) w W') ⟨?_, ?_⟩ ?_
        · refine Blk.eq_cs (cs := ((((#[.int .i64 cell, .int .u64 epoch, .int .u64 block, .int .i64 3, .bool has, .string text, .int .u64 vblock, .int .i64 passed] : Array Value).setIfInBounds 7 (.int .i64 pw)).setIfInBounds 2 (.int .u64 gw)).setIfInBounds 3 (.int .i64 2))) ?_ rfl
          have hB := hB.out
          (repeat first | with_reducible exact hB | with_reducible refine Blk.drewN ?_ _ | with_reducible refine Blk.drew ?_ | with_reducible refine Blk.alloc ?_ _ | with_reducible refine Blk.set_ ?_ _ _ | refine Blk.far ?_ (by simp; omega) _)
        · have hC := Chg.refl (fun k => k = b) w
          repeat first | with_reducible exact hC | with_reducible refine Chg.drew ?_ | with_reducible refine Chg.drewN ?_ _ | with_reducible refine Chg.alloc ?_ _ | refine Chg.setCell ?_ (by left; rfl) _
        rintro W' ⟨g1, g2⟩
        exact bodyPost_end (v := .tuple #[]) (results_none (by kernel_rfl) _ _ _) rfl ⟨rfl, ⟨g1, hcl, hep, hg0, by show (0 : Int) ≤ 2 ∧ (2 : Int) ≤ 6; decide⟩, g2⟩
  · simp (config := { decide := true }) only [if_true, if_false]
    by_cases hc : gw = 0
    · subst hc
      simp only [if_true]
      as_aux_lemma =>
        go_enter Tryz.func53, Tryz.ntmps53
        go_wp2_with fail
        refine (end_any (cell := cell) (epoch := epoch) (block := block) (part := 5) (vblock := vblock) (passed := passed) (has := has) (text := text) ?_ false ⟨#[]⟩).mono ?_
        · refine Blk.eq_cs (cs := ((#[.int .i64 cell, .int .u64 epoch, .int .u64 block, .int .i64 4, .bool has, .string text, .int .u64 vblock, .int .i64 passed] : Array Value).setIfInBounds 3 (.int .i64 5))) ?_ rfl
          have hB := hB.out
          (repeat first | with_reducible exact hB | with_reducible refine Blk.drewN ?_ _ | with_reducible refine Blk.drew ?_ | with_reducible refine Blk.alloc ?_ _ | with_reducible refine Blk.set_ ?_ _ _ | refine Blk.far ?_ (by simp; omega) _)
        rintro e w1 ⟨rfl, g1, g2⟩
        have g3 : Chg (fun k => k = b) w w1 := Chg.trans (by
          have hC := Chg.refl (fun k => k = b) w
          repeat first | with_reducible exact hC | with_reducible refine Chg.drew ?_ | with_reducible refine Chg.drewN ?_ _ | with_reducible refine Chg.alloc ?_ _ | refine Chg.setCell ?_ (by left; rfl) _) g2 fun i hi => Or.inl hi
        clear g2
        replace g1 := Lib.hid g1
        replace g3 := Lib.hid g3
        go_wp2_with fail
        exact bodyPost_end (v := .tuple #[]) (results_none (by kernel_rfl) _ _ _) rfl ⟨rfl, ⟨g1.out, hcl, hep, hbl, by show (0 : Int) ≤ 6 ∧ (6 : Int) ≤ 6; decide⟩, g3.out⟩
    · rw [if_neg hc]
      have d1 : (gw == 0) = false := by simp [hc]
      replace hc := Lib.hid hc
      as_aux_lemma =>
        go_enter Tryz.func53, Tryz.ntmps53
        go_wp2_with fail
        refine gen_world (α := fun W' => bodyPost _ _ _ _ _ W') (fun W' => Blk W' b 151 #[.int .i64 cell, .int .u64 epoch, .int .u64 block, .int .i64 5, .bool has, .string text, .int .u64 vblock, .int .i64 passed] ∧ Chg (fun k => k = b) w W') ⟨?_, ?_⟩ ?_
        · refine Blk.eq_cs (cs := ((#[.int .i64 cell, .int .u64 epoch, .int .u64 block, .int .i64 4, .bool has, .string text, .int .u64 vblock, .int .i64 passed] : Array Value).setIfInBounds 3 (.int .i64 5))) ?_ rfl
          have hB := hB.out
          (repeat first | with_reducible exact hB | with_reducible refine Blk.drewN ?_ _ | with_reducible refine Blk.drew ?_ | with_reducible refine Blk.alloc ?_ _ | with_reducible refine Blk.set_ ?_ _ _ | refine Blk.far ?_ (by simp; omega) _)
        · have hC := Chg.refl (fun k => k = b) w
          repeat first | with_reducible exact hC | with_reducible refine Chg.drew ?_ | with_reducible refine Chg.drewN ?_ _ | with_reducible refine Chg.alloc ?_ _ | refine Chg.setCell ?_ (by left; rfl) _
        rintro W' ⟨g1, g2⟩
        exact bodyPost_end (v := .tuple #[]) (results_none (by kernel_rfl) _ _ _) rfl ⟨rfl, ⟨g1, hcl, hep, hbl, by show (0 : Int) ≤ 5 ∧ (5 : Int) ≤ 6; decide⟩, g2⟩
  · simp (config := { decide := true }) only [if_true, if_false]
    as_aux_lemma =>
      go_enter Tryz.func53, Tryz.ntmps53
      go_wp2_with fail
      refine (end_any (cell := cell) (epoch := epoch) (block := block) (part := 5) (vblock := vblock) (passed := passed) (has := has) (text := text) ?_ true gt).mono ?_
      · refine Blk.eq_cs (cs := (#[.int .i64 cell, .int .u64 epoch, .int .u64 block, .int .i64 5, .bool has, .string text, .int .u64 vblock, .int .i64 passed] : Array Value)) ?_ rfl
        have hB := hB.out
        (repeat first | with_reducible exact hB | with_reducible refine Blk.drewN ?_ _ | with_reducible refine Blk.drew ?_ | with_reducible refine Blk.alloc ?_ _ | with_reducible refine Blk.set_ ?_ _ _ | refine Blk.far ?_ (by simp; omega) _)
      rintro e w1 ⟨rfl, g1, g2⟩
      have g3 : Chg (fun k => k = b) w w1 := Chg.trans (by
        have hC := Chg.refl (fun k => k = b) w
        repeat first | with_reducible exact hC | with_reducible refine Chg.drew ?_ | with_reducible refine Chg.drewN ?_ _ | with_reducible refine Chg.alloc ?_ _ | refine Chg.setCell ?_ (by left; rfl) _) g2 fun i hi => Or.inl hi
      clear g2
      replace g1 := Lib.hid g1
      replace g3 := Lib.hid g3
      go_wp2_with fail
      exact bodyPost_end (v := .tuple #[]) (results_none (by kernel_rfl) _ _ _) rfl ⟨rfl, ⟨g1.out, hcl, hep, hbl, by show (0 : Int) ≤ 6 ∧ (6 : Int) ≤ 6; decide⟩, g3.out⟩
  · simp (config := { decide := true }) only [if_false]
    as_aux_lemma =>
      go_enter Tryz.func53, Tryz.ntmps53
      go_wp2_with fail
      exact bodyPost_end (v := .tuple #[]) (results_none (by kernel_rfl) _ _ _) rfl ⟨rfl, h.out.below hz.out, Chg.of_below hz.out _⟩
end Go.Proofs.YtmlnhjfdhjachaaGreat

/-
  The routine that reads a chain of versions (layer 24): how it is made; as a routine. No condition.
-/
namespace Go.Proofs.YtmlnhjfdhjachaaGreat
set_option linter.unusedVariables false
open Go.ChangeShapes Go.WideShapes Go.ChangeAt Go.RowKit
open Go.ChangeMaps (setBlock)

def newChain (cell epoch : Int) : PChain := ⟨cell, epoch, 0, 1, false, ByteArray.empty, 0, 0⟩
set_option maxRecDepth 100000 in
set_option maxHeartbeats 2000000 in
theorem chainNew_any (c : PCfg) (hc : c.Right) (sh : Int) (hsh : 0 ≤ sh ∧ sh < c.shelves) (epoch : Int) (he : 0 ≤ epoch ∧ epoch ≤ 18446744073709551615) (w : World) :
    Calls Tryz.prog 52 #[c.val, .int .i64 sh, .int .u64 epoch] w fun e w' => ∃ b, e = .returned (.pointer (some ⟨b, 0, none⟩)) ∧ ChainIn w' b (newChain (3 + c.pins + c.cap + 2 * sh + 1) epoch) ∧ w.heap.size ≤ b ∧ Below w.heap.size w w' := by
  have hH := fun W => planHead_any c hc sh hsh W
  have h1 := hc.pins
  have h2 := hc.cap
  have h3 := hc.shelves
  generalize hce : 3 + c.pins + c.cap + 2 * sh + 1 = ce at *
  have hce0 : 0 ≤ ce ∧ ce ≤ 1000 := by omega
  have hd0 : decide (0 ≤ ce) = true := by simp; omega
  replace hce := Lib.hid hce
  have fin : ∀ (W : World) (b : Nat), Blk W b 151 #[.int .i64 ce, .int .u64 epoch, .int .u64 0, .int .i64 1, .bool false, .string ⟨#[]⟩, .int .u64 0, .int .i64 0] → ChainIn W b (newChain ce epoch) := fun W b h =>
    ⟨h, by show -9223372036854775808 ≤ ce ∧ ce ≤ 9223372036854775807; omega, he, by show (0 : Int) ≤ 0 ∧ (0 : Int) ≤ 18446744073709551615; decide, by show (0 : Int) ≤ 1 ∧ (1 : Int) ≤ 6; decide⟩
  clear hc
  obtain ⟨a, p, s, q, t, z⟩ := c
  rw [show PCfg.val ⟨a, p, s, q, t, z⟩ = .agg #[.int .i64 a, .int .i64 p, .int .i64 s, .int .i64 q, .int .i64 t, .int .u64 z] from rfl] at *
  have hz : Below w.heap.size w (w.alloc (.cells #[.int .i64 a, .int .i64 p, .int .i64 s, .int .i64 q, .int .i64 t, .int .u64 z] 24)) := (Below.refl _ _).alloc (Nat.le_refl _) _
  replace hz := Lib.hid hz
  replace hH := Lib.hid hH
  replace fin := Lib.hid fin
  go_enter Tryz.func52, Tryz.ntmps52
  go_wp2_with fail
  refine (hH.out _).mono ?_; rintro e w1 ⟨rfl, hb⟩
  have hb' := nx hz.out (Nat.le_refl _) hb
  clear hb
  replace hb' := Lib.hid hb'
  go_wp2_with fail
  go_ret
  exact ⟨w1.heap.size, rfl, fin.out _ _ (Blk.new w1 _ _), hb'.out.size, hb'.out.alloc hb'.out.size _⟩
def ChainR (w : World) (Q : Nat → Prop) (b : Nat) (s : PChain) : Prop := In Q w ∧ Q b ∧ ChainIn w b s
theorem chainAct_ok {w : World} {b : Nat} {s : PChain} (h : ChainIn w b s) : (s.act).1.Ok := by
  have k0 : (-9223372036854775808 : Int) ≤ 0 ∧ (0 : Int) ≤ 9223372036854775807 := by decide
  have k1 : (-9223372036854775808 : Int) ≤ 1 ∧ (1 : Int) ≤ 9223372036854775807 := by decide
  have k2 : (-9223372036854775808 : Int) ≤ 2 ∧ (2 : Int) ≤ 9223372036854775807 := by decide
  have k6 : (-9223372036854775808 : Int) ≤ 6 ∧ (6 : Int) ≤ 9223372036854775807 := by decide
  have z : (0 : Int) ≤ 0 ∧ (0 : Int) ≤ 18446744073709551615 := by decide
  have z1 : (0 : Int) ≤ 1 ∧ (1 : Int) ≤ 18446744073709551615 := by decide
  have hE : ByteArray.empty.size ≤ 9223372036854775807 := by decide
  unfold PChain.act
  split
  · exact ⟨k1, z1, h.cell, z, z, hE⟩
  split
  · exact ⟨k1, h.block, k0, z, z, hE⟩
  split
  · exact ⟨k1, h.block, k1, z, z, hE⟩
  split
  · exact ⟨k1, h.block, k2, z, z, hE⟩
  split
  · exact ⟨k6, h.block, k0, z, z, hE⟩
  · exact ⟨k0, z, k0, z, z, hE⟩
def chainRout : Rout PChain where
  T := 94
  fAct := 40
  fTake := 53
  mAct := fun _ _ => by kernel_rfl
  mTake := fun _ _ => by kernel_rfl
  nAct := fun _ _ => by kernel_rfl
  nTake := fun _ _ => by kernel_rfl
  eAct := fun _ _ => by kernel_rfl
  eTake := fun _ _ => by kernel_rfl
  R := ChainR
  own := fun h => h.1
  hG := fun h => h.2.1
  keep := fun ⟨h1, h2, h3⟩ hs hk => ⟨h1.mono hs, h2, h3.keep (hk _ h2)⟩
  act := PChain.act
  take := PChain.take
  okA := fun h => chainAct_ok h.2.2
  cAct := fun ⟨_, _, h⟩ => chainAct_any h
  cTake := fun {w G b s} g ⟨h1, h2, h3⟩ hg _ => (chainTake_any h3 g hg).mono fun e w' ⟨he, hv, hc⟩ => ⟨he, ⟨h1.nw hc.size, .inl h2, hv⟩, hc.mono fun i hi => by rw [hi]; exact h2⟩
end Go.Proofs.YtmlnhjfdhjachaaGreat

/-
  Reading a chain of versions (layer 24): the plain law. No condition.
-/
namespace Go.Proofs.YtmlnhjfdhjachaaGreat
set_option linter.unusedVariables false
open Go.ChangeShapes Go.WideShapes Go.ChangeAt Go.RowKit
open Go.ChangeMaps (setBlock)

structure PVersion where
  blk : Int
  epoch : Int
  has : Bool
  text : ByteArray
/-- From a block on a row of versions lies in the heap, the newest first. -/
def Chained (S : PHeap) : Int → List PVersion → Prop
  | x, [] => x = 0
  | x, v :: l => x = v.blk ∧ 2 ≤ v.blk ∧ ∃ b, S.find v.blk = some b ∧ b.cells.length = 3 ∧ b.nth 0 = v.epoch ∧ b.nth 2 = (if v.has then 1 else 0) ∧ (v.has = true → b.text = v.text) ∧ Chained S (b.nth 1) l
theorem Chained.mono {S S' : PHeap} (h : ∀ k x, 2 ≤ k → S.find k = some x → S'.find k = some x) : ∀ {l : List PVersion} {x : Int}, Chained S x l → Chained S' x l
  | [], x, hc => hc
  | v :: l, x, hc => by
    obtain ⟨h1, h2, b, h3, h4, h5, h6, h7, h8⟩ := hc
    exact ⟨h1, h2, b, h _ _ h2 h3, h4, h5, h6, h7, Chained.mono h h8⟩
/-- What is read at an epoch; how many are passed; in how many acts. -/
def readV (e : Int) : List PVersion → Int → (Bool × ByteArray × Int) × Int × Nat
  | [], p => ((false, ByteArray.empty, 0), p, 0)
  | v :: l, p => if e < v.epoch then ((readV e l (p + 1)).1, (readV e l (p + 1)).2.1, (readV e l (p + 1)).2.2 + 2) else if v.has then ((true, v.text, v.blk), p, 3) else ((false, ByteArray.empty, v.blk), p, 2)
theorem readV_le (e : Int) : ∀ (l : List PVersion) (p : Int), (readV e l p).2.2 ≤ 2 * l.length + 1
  | [], p => by show (0 : Nat) ≤ _; omega
  | v :: l, p => by
    have h := readV_le e l (p + 1)
    unfold readV
    split
    · simp only [List.length_cons]; omega
    · split <;> simp only [List.length_cons] <;> omega
theorem right_loadB (b : Int) (i : Nat) : PAct.right ⟨1, b, i, 0, 0, ByteArray.empty⟩ = true := by simp [PAct.right, PAct.fit]
theorem act_loadB {S : PHeap} {b : Int} {x : PBlk} (h : S.find b = some x) (i : Nat) (hi : i < x.cells.length) (r : Nat) : S.act ⟨1, b, i, 0, 0, ByteArray.empty⟩ r = (⟨x.nth i, ByteArray.empty⟩, S) := by
  simp [PHeap.act, right_loadB, PHeap.load, code_hit h ⟨(by omega : (0 : Int) ≤ (i : Int)), (by omega : (i : Int) < x.cells.length)⟩, word_eq h]
theorem ready_loadB (S : PHeap) (b : Int) (i : Nat) : S.ready ⟨1, b, i, 0, 0, ByteArray.empty⟩ = true := by simp [PHeap.ready, right_loadB]
theorem right_wordsB (b : Int) : PAct.right ⟨6, b, 0, 0, 0, ByteArray.empty⟩ = true := by simp [PAct.right, PAct.fit]
theorem act_wordsB {S : PHeap} {b : Int} {x : PBlk} (h : S.find b = some x) (r : Nat) : S.act ⟨6, b, 0, 0, 0, ByteArray.empty⟩ r = (⟨0, x.text⟩, S) := by
  simp [PHeap.act, right_wordsB, PHeap.words, h]
theorem ready_wordsB (S : PHeap) (b : Int) : S.ready ⟨6, b, 0, 0, 0, ByteArray.empty⟩ = true := by simp [PHeap.ready, right_wordsB]
/-- One step of a run that is not at its end. -/
theorem chain_one {S S' : PHeap} {s s' : PChain} {xs : List (PAct × PGot)} {m : Int} {x : PAct} {g : PGot} (ha : s.act = (x, true)) (hr : S.ready x = true) (hx : ∀ r, S.act x r = (g, S)) (h : Runs chainRout S s xs S' s') (hst : m ≤ (xs.length : Nat) ∨ chainRout.can S' s' = false) (hm : 1 ≤ m) :
    ∃ l, xs.length = l.length + 1 ∧ Runs chainRout S (s.take g) l S' s' ∧ (m - 1 ≤ (l.length : Nat) ∨ chainRout.can S' s' = false) := by
  match xs, h with
  | [], h =>
    obtain ⟨rfl, rfl⟩ := h
    rcases hst with h1 | h1
    · simp at h1; omega
    · have : chainRout.can S s = true := by
        show ((PChain.act s).2 && S.ready (PChain.act s).1) = true
        rw [ha, hr]
        rfl
      rw [this] at h1
      cases h1
  | y :: l, h =>
    obtain ⟨_, r, _, h⟩ := h
    have e : S.act (chainRout.act s).1 r = (g, S) := by
      show S.act (PChain.act s).1 r = _
      rw [ha]
      exact hx r
    rw [e] at h
    refine ⟨l, rfl, h, ?_⟩
    rcases hst with h1 | h1
    · left; simp only [List.length_cons] at h1; omega
    · exact .inr h1
theorem chain_end {S S' : PHeap} {s s' : PChain} {xs : List (PAct × PGot)} (hp : s.part = 6) (h : Runs chainRout S s xs S' s') : xs = [] ∧ S' = S ∧ s' = s := by
  match xs, h with
  | [], h => exact ⟨rfl, h.1.symm, h.2.symm⟩
  | y :: l, h =>
    obtain ⟨h1, _⟩ := h
    have : chainRout.can S s = false := by
      show ((PChain.act s).2 && _) = false
      have : s.act = (noAct, false) := by unfold PChain.act; rw [hp]; simp
      rw [this]
      rfl
    rw [this] at h1
    cases h1
def ReadP (R : (Bool × ByteArray × Int) × Int × Nat) (S S' : PHeap) (s' : PChain) (n : Nat) : Prop := n = R.2.2 ∧ S' = S ∧ s'.part = 6 ∧ s'.result = (R.1, true) ∧ s'.passed = R.2.1
theorem chain_run {S : PHeap} {cell e : Int} : ∀ (l : List PVersion) (x p blk part : Int) {S' : PHeap} {s' : PChain} {xs : List (PAct × PGot)} {m : Int}, Chained S x l → 0 ≤ p ∧ p + l.length ≤ 1000 →
    Runs chainRout S (PChain.down ⟨cell, e, blk, part, false, ByteArray.empty, 0, p⟩ x) xs S' s' → (m ≤ (xs.length : Nat) ∨ chainRout.can S' s' = false) → 2 * (l.length : Int) + 2 ≤ m → ReadP (readV e l p) S S' s' xs.length
  | [], x, p, blk, part, S', s', xs, m, hc, hp, h, hst, hm => by
    have hx : x = 0 := hc
    subst hx
    rw [show PChain.down ⟨cell, e, blk, part, false, ByteArray.empty, 0, p⟩ 0 = ⟨cell, e, 0, 6, false, ByteArray.empty, 0, p⟩ from rfl] at h
    obtain ⟨rfl, rfl, rfl⟩ := chain_end rfl h
    exact ⟨rfl, rfl, rfl, rfl, rfl⟩
  | v :: l, x, p, blk, part, S', s', xs, m, hc, hp, h, hst, hm => by
    obtain ⟨rfl, hv2, b, hb, hb3, hbe, hbl, hbt, hcn⟩ := hc
    have hv0 : v.blk ≠ 0 := by omega
    simp only [List.length_cons] at hp hm
    rw [show PChain.down ⟨cell, e, blk, part, false, ByteArray.empty, 0, p⟩ v.blk = ⟨cell, e, v.blk, 2, false, ByteArray.empty, 0, p⟩ from by unfold PChain.down; rw [if_neg hv0]] at h
    obtain ⟨l1, hl1, h1, hst1⟩ := chain_one (x := ⟨1, v.blk, ((0 : Nat) : Int), 0, 0, ByteArray.empty⟩) rfl (ready_loadB _ _ _) (act_loadB hb 0 (by omega)) h hst (by omega)
    rw [hbe] at h1
    unfold readV
    by_cases he : e < v.epoch
    · rw [if_pos he]
      rw [show PChain.take ⟨cell, e, v.blk, 2, false, ByteArray.empty, 0, p⟩ ⟨v.epoch, ByteArray.empty⟩ = ⟨cell, e, v.blk, 3, false, ByteArray.empty, 0, p⟩ from by simp [PChain.take, he]] at h1
      obtain ⟨l2, hl2, h2, hst2⟩ := chain_one (x := ⟨1, v.blk, ((1 : Nat) : Int), 0, 0, ByteArray.empty⟩) rfl (ready_loadB _ _ _) (act_loadB hb 1 (by omega)) h1 hst1 (by omega)
      have hw : IntKind.i64.wrap (p + 1) = p + 1 := IntWalk.i64_in _ (by omega)
      rw [show PChain.take ⟨cell, e, v.blk, 3, false, ByteArray.empty, 0, p⟩ ⟨b.nth 1, ByteArray.empty⟩ = PChain.down ⟨cell, e, v.blk, 3, false, ByteArray.empty, 0, p + 1⟩ (b.nth 1) from by simp [PChain.take, hw]] at h2
      obtain ⟨k1, k2, k3, k4, k5⟩ := chain_run l (b.nth 1) (p + 1) v.blk 3 hcn ⟨by omega, by omega⟩ h2 hst2 (by omega)
      exact ⟨by show xs.length = _ + 2; omega, k2, k3, k4, k5⟩
    · rw [if_neg he]
      rw [show PChain.take ⟨cell, e, v.blk, 2, false, ByteArray.empty, 0, p⟩ ⟨v.epoch, ByteArray.empty⟩ = ⟨cell, e, v.blk, 4, false, ByteArray.empty, 0, p⟩ from by simp [PChain.take, he]] at h1
      obtain ⟨l2, hl2, h2, hst2⟩ := chain_one (x := ⟨1, v.blk, ((2 : Nat) : Int), 0, 0, ByteArray.empty⟩) rfl (ready_loadB _ _ _) (act_loadB hb 2 (by omega)) h1 hst1 (by omega)
      rw [hbl] at h2
      cases hh : v.has with
      | false =>
        rw [hh] at h2
        rw [show PChain.take ⟨cell, e, v.blk, 4, false, ByteArray.empty, 0, p⟩ ⟨if false = true then 1 else 0, ByteArray.empty⟩ = ⟨cell, e, v.blk, 6, false, ByteArray.empty, v.blk, p⟩ from rfl] at h2
        obtain ⟨rfl, rfl, rfl⟩ := chain_end rfl h2
        refine ⟨?_, rfl, rfl, rfl, rfl⟩
        show xs.length = 2
        simp only [List.length_nil] at hl2
        omega
      | true =>
        rw [hh] at h2
        rw [show PChain.take ⟨cell, e, v.blk, 4, false, ByteArray.empty, 0, p⟩ ⟨if true = true then 1 else 0, ByteArray.empty⟩ = ⟨cell, e, v.blk, 5, false, ByteArray.empty, 0, p⟩ from rfl] at h2
        obtain ⟨l3, hl3, h3, hst3⟩ := chain_one (x := ⟨6, v.blk, 0, 0, 0, ByteArray.empty⟩) rfl (ready_wordsB _ _) (act_wordsB hb) h2 hst2 (by omega)
        rw [show PChain.take ⟨cell, e, v.blk, 5, false, ByteArray.empty, 0, p⟩ ⟨0, b.text⟩ = ⟨cell, e, v.blk, 6, true, b.text, v.blk, p⟩ from rfl] at h3
        obtain ⟨rfl, rfl, rfl⟩ := chain_end rfl h3
        refine ⟨?_, rfl, rfl, ?_, rfl⟩
        · show xs.length = 3
          simp only [List.length_nil] at hl3
          omega
        · show ((true, b.text, v.blk), true) = _
          rw [hbt hh]
          rfl
/-- A chain that is read alone. -/
theorem chain_alone {S S' : PHeap} {i : Nat} {e x : Int} {l : List PVersion} {s' : PChain} {xs : List (PAct × PGot)} {m : Int} (hh : CtlAt S i x) (hc : Chained S x l) (hl : l.length ≤ 100) (h : Runs chainRout S (newChain i e) xs S' s') (hst : m ≤ (xs.length : Nat) ∨ chainRout.can S' s' = false) (hm : 2 * (l.length : Int) + 3 ≤ m) :
    ReadP ((readV e l 0).1, (readV e l 0).2.1, (readV e l 0).2.2 + 1) S S' s' xs.length := by
  obtain ⟨l1, hl1, h1, hst1⟩ := chain_one (x := ⟨1, 1, (i : Int), 0, 0, ByteArray.empty⟩) rfl (ready_load S i) (fun r => hh.load r) h hst (by omega)
  rw [show PChain.take (newChain i e) ⟨x, ByteArray.empty⟩ = PChain.down ⟨i, e, 0, 1, false, ByteArray.empty, 0, 0⟩ x from rfl] at h1
  obtain ⟨k1, k2, k3, k4, k5⟩ := chain_run l x 0 0 1 hc ⟨Int.le_refl _, by omega⟩ h1 hst1 (by omega)
  exact ⟨by show xs.length = _ + 1; omega, k2, k3, k4, k5⟩
end Go.Proofs.YtmlnhjfdhjachaaGreat

/-
  The walks over the layer of words: what each function computes. No condition.
-/
namespace Go.Proofs.YtmlnhjfdhjachaaGreat
set_option linter.unusedVariables false
open Go.ChangeShapes Go.WideShapes Go.ChangeAt Go.RowKit

def cameOf (a : Int) : Int := a / 65536 % 1099511627776
def inOf (a : Int) : Int := a % 65536
theorem cameOf_le (a : Int) : 0 ≤ cameOf a ∧ cameOf a ≤ 1099511627775 := by unfold cameOf; omega
def packOk (a b : Int) : Bool := decide (0 ≤ a ∧ a ≤ 1099511627775 ∧ 0 ≤ b ∧ b ≤ 65535)
def entOk (a m : Int) : Bool := decide (inOf a < m) && packOk (cameOf a + 1) (inOf a + 1)
def entV (a m : Int) : Int := if entOk a m then 65536 * (cameOf a + 1) + (inOf a + 1) else 0
end Go.Proofs.YtmlnhjfdhjachaaGreat

/-
  The routine that reserves a place (layer 28): what each of its functions does. No condition.
-/
namespace Go.Proofs.YtmlnhjfdhjachaaGreat
set_option linter.unusedVariables false
open Go.ChangeShapes Go.WideShapes Go.ChangeAt Go.RowKit
open Go.ChangeMaps (setBlock)

structure PRes where
  cfg : PCfg
  made : Bool
  seen : Bool
  was : Int
  next : Int
  tries : Int
  over : Bool
  full : Bool
  ticket : Int
def PRes.cells (s : PRes) : Array Value := #[.int .i64 s.cfg.cap, .int .i64 s.cfg.pins, .int .i64 s.cfg.shelves, .int .i64 s.cfg.queue, .int .i64 s.cfg.watchers, .int .u64 s.cfg.seed, .bool s.made, .bool s.seen, .int .u64 s.was, .int .u64 s.next, .int .i64 s.tries, .bool s.over, .bool s.full, .int .i64 s.ticket]
def PRes.idle (s : PRes) : Bool := !s.made || s.over
def PRes.act (s : PRes) : PAct × Bool :=
  if s.idle then (noAct, false) else if s.seen then (⟨3, 1, 1, s.was, s.next, ByteArray.empty⟩, true) else (⟨1, 1, 1, 0, 0, ByteArray.empty⟩, true)
def PRes.look (s : PRes) (x : Int) : PRes :=
  if entOk x s.cfg.cap then { s with seen := true, was := x, next := entV x s.cfg.cap } else { s with over := true, full := true, ticket := 0 }
def PRes.take (s : PRes) (g : PGot) : PRes :=
  if s.idle then s else if s.seen = false then s.look g.word else if g.word = s.was then { s with over := true, full := false, ticket := cameOf s.was } else PRes.look { s with tries := IntKind.i64.wrap (s.tries + 1) } g.word
def PRes.result (s : PRes) : (Bool × Int) × Bool := if s.over then ((s.full, s.ticket), true) else ((false, 0), false)
end Go.Proofs.YtmlnhjfdhjachaaGreat

/-
  The routine that reserves a place (layer 28): what it takes; how it is made; as a routine. No condition.
-/
namespace Go.Proofs.YtmlnhjfdhjachaaGreat
set_option linter.unusedVariables false
open Go.ChangeShapes Go.WideShapes Go.ChangeAt Go.RowKit
open Go.ChangeMaps (setBlock)

end Go.Proofs.YtmlnhjfdhjachaaGreat

/-
  The routine that reserves a place (layer 28), as a routine; how it is made; the document's one on a tape. No condition.
-/
namespace Go.Proofs.YtmlnhjfdhjachaaGreat
set_option linter.unusedVariables false
open Go.ChangeShapes Go.WideShapes Go.ChangeAt Go.RowKit
open Go.ChangeMaps (setBlock)

theorem look_cfg (s : PRes) (x : Int) : (s.look x).cfg = s.cfg ∧ (s.look x).made = s.made ∧ (s.look x).tries = s.tries := by
  unfold PRes.look
  split <;> exact ⟨rfl, rfl, rfl⟩
theorem PRes.take_cfg (s : PRes) (g : PGot) : (s.take g).cfg = s.cfg ∧ (s.take g).made = s.made := by
  unfold PRes.take
  split
  · exact ⟨rfl, rfl⟩
  · split
    · exact ⟨(look_cfg _ _).1, (look_cfg _ _).2.1⟩
    · split
      · exact ⟨rfl, rfl⟩
      · exact ⟨(look_cfg _ _).1, (look_cfg _ _).2.1⟩
def newRes (c : PCfg) : PRes := ⟨c, c.right, false, 0, 0, 0, false, false, 0⟩
end Go.Proofs.YtmlnhjfdhjachaaGreat

/-
  The document's reserving on a tape (layer 28); configs as the document has them. No condition.
-/
namespace Go.Proofs.YtmlnhjfdhjachaaGreat
set_option linter.unusedVariables false
open Go.ChangeShapes Go.WideShapes Go.ChangeAt Go.RowKit
open Go.ChangeMaps (setBlock)

end Go.Proofs.YtmlnhjfdhjachaaGreat

/-
  The control block's cells by name, as the document has them (layer 21). No condition.
-/
namespace Go.Proofs.YtmlnhjfdhjachaaGreat
set_option linter.unusedVariables false
open Go.ChangeShapes Go.WideShapes Go.ChangeAt Go.RowKit
open Go.ChangeMaps (setBlock)

theorem txt_ne {x y : ByteArray} (h : x ≠ y) : ¬ x.toList = y.toList := fun e => h (by rw [ByteArray.toList_eq, ByteArray.toList_eq] at e; exact ByteArray.ext (Array.toList_inj.mp e))
theorem reads_blk2 {w : World} {g : Nat} {t : TypeId} {cs : Array Value} (h : Blk w g t cs) (k m : Nat) (hk : cs.size = m * k) (hm : 0 < m) : Reads w (g + 1) k (some ⟨g, 0, none⟩) m cs.toList := by
  refine ⟨by simp [hk], fun _ => ⟨_, rfl, by show g < g + 1; omega, fun j u hu => ?_⟩⟩
  have := h.cell j
  have e : (⟨g, 0, none⟩ : Addr).add j = ⟨g, j, none⟩ := by unfold Addr.add; split <;> simp_all
  rw [e, this]
  simpa using hu
theorem owns_below {B : Nat} {w wr w1 : World} {e : TypeId} {size n : Nat} {v : Value} {xs : List Value} (hB : B ≤ w.heap.size) (h : Below B w wr) (ho : wr.ownsRow B e size v n xs) (hg : wr.grownBy w1 v.ownBlock) : Below B w w1 :=
  ⟨hg.os.trans h.os, hg.tape.trans h.tape, hg.output.trans h.output, Nat.le_trans h.size hg.size, fun i hi => (hg.block i (Nat.lt_of_lt_of_le (Nat.lt_of_lt_of_le hi hB) h.size) (fun e' => by have := (World.ownsRow.lt ho _ e'.symm).1; omega)).trans (h.block i hi)⟩
end Go.Proofs.YtmlnhjfdhjachaaGreat

/-
  Where a ticket's cell, a shelf's head stand: the program's, and the document's. No condition.
-/
namespace Go.Proofs.YtmlnhjfdhjachaaGreat
set_option linter.unusedVariables false
open Go.ChangeShapes Go.WideShapes Go.ChangeAt Go.RowKit
open Go.ChangeMaps (setBlock)

def ringAt (c : PCfg) (t : Int) : Int := 3 + c.pins + t % c.cap
end Go.Proofs.YtmlnhjfdhjachaaGreat
