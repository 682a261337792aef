import Derived.Test.YtfelkkbgbgnpaaaPlan
import Derived.Test.YtfelkkbgbgnpaaaDrive
import Derived.BigQuiet
import Derived.Deep.RegionWith
/-
  The routine that reads a chain of versions (layer 24): what each of its functions does. No condition.
-/
namespace Go.Proofs.Ytfelkkbgbgnpaaa
set_option linter.unusedVariables false
open Go.ChangeShapes Go.WideShapes Go.ChangeAt Go.RowKit
open Go.ChangeMaps (setBlock)

structure PChain where
  cell : Int
  epoch : Int
  block : Int
  part : Int
  has : Bool
  text : ByteArray
  vblock : Int
  passed : Int
def PChain.cells (s : PChain) : Array Value := #[.int .i64 s.cell, .int .u64 s.epoch, .int .u64 s.block, .int .i64 s.part, .bool s.has, .string s.text, .int .u64 s.vblock, .int .i64 s.passed]
structure ChainIn (w : World) (b : Nat) (s : PChain) : Prop where
  blk : Blk w b 198 s.cells
  cell : -9223372036854775808 ≤ s.cell ∧ s.cell ≤ 9223372036854775807
  epoch : 0 ≤ s.epoch ∧ s.epoch ≤ 18446744073709551615
  block : 0 ≤ s.block ∧ s.block ≤ 18446744073709551615
  part : 0 ≤ s.part ∧ s.part ≤ 6
theorem ChainIn.keep {w w' : World} {b : Nat} {s : PChain} (h : ChainIn w b s) (hb : w'.heap[b]? = w.heap[b]?) : ChainIn w' b s := ⟨h.blk.keep hb, h.cell, h.epoch, h.block, h.part⟩
theorem ChainIn.below {w w' : World} {b : Nat} {s : PChain} (h : ChainIn w b s) (hb : Below w.heap.size w w') : ChainIn w' b s := h.keep (hb.block _ h.blk.lt)
/-- What it does next. -/
def PChain.act (s : PChain) : PAct × Bool :=
  if s.part = 1 then (⟨1, 1, s.cell, 0, 0, ByteArray.empty⟩, true)
  else if s.part = 2 then (⟨1, s.block, 0, 0, 0, ByteArray.empty⟩, true)
  else if s.part = 3 then (⟨1, s.block, 1, 0, 0, ByteArray.empty⟩, true)
  else if s.part = 4 then (⟨1, s.block, 2, 0, 0, ByteArray.empty⟩, true)
  else if s.part = 5 then (⟨6, s.block, 0, 0, 0, ByteArray.empty⟩, true)
  else (noAct, false)
/-- What was read is put down. -/
def PChain.done_ (s : PChain) (has : Bool) (t : ByteArray) : PChain := { s with has := has, text := t, vblock := s.block, part := 6 }
def PChain.down (s : PChain) (x : Int) : PChain := if x = 0 then PChain.done_ { s with block := x, part := 2 } false ByteArray.empty else { s with block := x, part := 2 }
/-- What it takes. -/
def PChain.take (s : PChain) (g : PGot) : PChain :=
  if s.part = 1 then s.down g.word
  else if s.part = 2 then (if s.epoch < g.word then { s with part := 3 } else { s with part := 4 })
  else if s.part = 3 then PChain.down { s with passed := IntKind.i64.wrap (s.passed + 1) } g.word
  else if s.part = 4 then (if g.word = 0 then PChain.done_ { s with part := 5 } false ByteArray.empty else { s with part := 5 })
  else if s.part = 5 then s.done_ true g.text
  else s
def PChain.result (s : PChain) : (Bool × ByteArray × Int) × Bool := if s.part = 6 then ((s.has, s.text, s.vblock), true) else ((false, ByteArray.empty, 0), false)
theorem chainAct_nil (w : World) : Calls Try.prog 63 #[.pointer none] w fun e w' => e = .returned (.tuple #[.agg #[.int .i64 0, .int .u64 0, .int .i64 0, .int .u64 0, .int .u64 0, .string ⟨#[]⟩], .bool false]) ∧ Below w.heap.size w w' := by
  go_enter Try.func63, Try.ntmps63
  go_wp2_with fail
  refine bodyPost_ret (v := .tuple #[.agg #[.int .i64 0, .int .u64 0, .int .i64 0, .int .u64 0, .int .u64 0, .string ⟨#[]⟩], .bool false]) (by simp [results, Try.results63, go_sem]) rfl ⟨rfl, ?_⟩
  (repeat first | exact Below.refl _ _ | assumption | refine Below.drew ?_ | refine below_drewN ?_ _ | refine Below.more_ ?_ _ | refine Below.setCell ?_ (by first | exact Nat.le_refl _ | (simp; done) | (simp; omega)) _)
set_option maxHeartbeats 1000000 in
theorem chainResult_any {w : World} {b : Nat} {s : PChain} (h : ChainIn w b s) : Calls Try.prog 128 #[.pointer (some ⟨b, 0, none⟩)] w fun e w' => e = .returned (.tuple #[.agg #[.bool s.result.1.1, .string s.result.1.2.1, .int .u64 s.result.1.2.2], .bool s.result.2]) ∧ Below w.heap.size w w' := by
  have hr : s.result = if s.part = 6 then ((s.has, s.text, s.vblock), true) else ((false, ByteArray.empty, 0), false) := rfl
  rw [hr]
  clear hr
  obtain ⟨cell, epoch, block, part, has, text, vblock, passed⟩ := s
  have hB : Blk w b 198 #[.int .i64 cell, .int .u64 epoch, .int .u64 block, .int .i64 part, .bool has, .string text, .int .u64 vblock, .int .i64 passed] := h.blk
  have c3 := hB.cell 3
  have c4 := hB.cell 4
  have c5 := hB.cell 5
  have c6 := hB.cell 6
  have hlt := hB.lt
  replace h := Lib.hid h
  replace hB := Lib.hid hB
  by_cases hp : part = 6
  · subst hp
    go_enter Try.func128, Try.ntmps128
    go_wp2_with fail
    refine bodyPost_ret (v := .tuple #[.agg #[.bool has, .string text, .int .u64 vblock], .bool true]) (by simp [results, Try.results128, go_sem]) rfl ⟨by simp, ?_⟩
    (repeat first | exact Below.refl _ _ | assumption | refine Below.drew ?_ | refine below_drewN ?_ _ | refine Below.more_ ?_ _ | refine Below.setCell ?_ (by first | exact Nat.le_refl _ | (simp; done) | (simp; omega)) _)
  · have d1 : (part == 6) = false := by simp [hp]
    simp only [hp, if_false]
    replace hp' := Lib.hid hp
    go_enter Try.func128, Try.ntmps128
    go_wp2_with fail
    refine bodyPost_ret (v := .tuple #[.agg #[.bool false, .string ⟨#[]⟩, .int .u64 0], .bool false]) (by simp [results, Try.results128, go_sem]) rfl ⟨rfl, ?_⟩
    (repeat first | exact Below.refl _ _ | assumption | refine Below.drew ?_ | refine below_drewN ?_ _ | refine Below.more_ ?_ _ | refine Below.setCell ?_ (by first | exact Nat.le_refl _ | (simp; done) | (simp; omega)) _)
set_option maxRecDepth 100000 in
set_option maxHeartbeats 8000000 in
theorem chainAct_any {w : World} {b : Nat} {s : PChain} (h : ChainIn w b s) : Calls Try.prog 63 #[.pointer (some ⟨b, 0, none⟩)] w fun e w' => e = .returned (.tuple #[s.act.1.val, .bool s.act.2]) ∧ Below w.heap.size w w' := by
  have hA : s.act = if s.part = 1 then (⟨1, 1, s.cell, 0, 0, ByteArray.empty⟩, true) else if s.part = 2 then (⟨1, s.block, 0, 0, 0, ByteArray.empty⟩, true) else if s.part = 3 then (⟨1, s.block, 1, 0, 0, ByteArray.empty⟩, true) else if s.part = 4 then (⟨1, s.block, 2, 0, 0, ByteArray.empty⟩, true) else if s.part = 5 then (⟨6, s.block, 0, 0, 0, ByteArray.empty⟩, true) else (noAct, false) := rfl
  have hp5 := h.part
  rw [hA]
  clear hA
  obtain ⟨cell, epoch, block, part, has, text, vblock, passed⟩ := s
  simp only at hp5 ⊢
  have hB : Blk w b 198 #[.int .i64 cell, .int .u64 epoch, .int .u64 block, .int .i64 part, .bool has, .string text, .int .u64 vblock, .int .i64 passed] := h.blk
  have c0 := hB.cell 0
  have c2 := hB.cell 2
  have c3 := hB.cell 3
  have hlt := hB.lt
  replace h := Lib.hid h
  replace hB := Lib.hid hB
  have hcase : part = 0 ∨ part = 1 ∨ part = 2 ∨ part = 3 ∨ part = 4 ∨ part = 5 ∨ part = 6 := by omega
  rcases hcase with rfl | rfl | rfl | rfl | rfl | rfl | rfl
  · as_aux_lemma =>
      simp (config := { decide := true }) only [if_false]
      change Calls Try.prog _ _ _ (fun e w' => e = .returned (.tuple #[.agg #[.int .i64 0, .int .u64 0, .int .i64 0, .int .u64 0, .int .u64 0, .string ⟨#[]⟩], .bool false]) ∧ _)
      go_enter Try.func63, Try.ntmps63
      go_wp2_with fail
      refine bodyPost_ret (v := .tuple #[.agg #[.int .i64 0, .int .u64 0, .int .i64 0, .int .u64 0, .int .u64 0, .string ⟨#[]⟩], .bool false]) (by simp [results, Try.results63, go_sem]) rfl ⟨rfl, ?_⟩
      (repeat first | exact Below.refl _ _ | assumption | refine Below.drew ?_ | refine below_drewN ?_ _ | refine Below.more_ ?_ _ | refine Below.setCell ?_ (by first | exact Nat.le_refl _ | (simp; done) | (simp; omega)) _)
  · as_aux_lemma =>
      simp (config := { decide := true }) only [if_true, if_false]
      change Calls Try.prog _ _ _ (fun e w' => e = .returned (.tuple #[.agg #[.int .i64 1, .int .u64 1, .int .i64 cell, .int .u64 0, .int .u64 0, .string ⟨#[]⟩], .bool true]) ∧ _)
      go_enter Try.func63, Try.ntmps63
      go_wp2_with fail
      go_region
      go_wp2_with fail
      refine bodyPost_ret (v := .tuple #[.agg #[.int .i64 1, .int .u64 1, .int .i64 cell, .int .u64 0, .int .u64 0, .string ⟨#[]⟩], .bool true]) (by simp [results, Try.results63, go_sem]) rfl ⟨rfl, ?_⟩
      (repeat first | exact Below.refl _ _ | assumption | refine Below.drew ?_ | refine below_drewN ?_ _ | refine Below.more_ ?_ _ | refine Below.setCell ?_ (by first | exact Nat.le_refl _ | (simp; done) | (simp; omega)) _)
  · as_aux_lemma =>
      simp (config := { decide := true }) only [if_true, if_false]
      change Calls Try.prog _ _ _ (fun e w' => e = .returned (.tuple #[.agg #[.int .i64 1, .int .u64 block, .int .i64 0, .int .u64 0, .int .u64 0, .string ⟨#[]⟩], .bool true]) ∧ _)
      go_enter Try.func63, Try.ntmps63
      go_wp2_with fail
      refine bodyPost_ret (v := .tuple #[.agg #[.int .i64 1, .int .u64 block, .int .i64 0, .int .u64 0, .int .u64 0, .string ⟨#[]⟩], .bool true]) (by simp [results, Try.results63, go_sem]) rfl ⟨rfl, ?_⟩
      (repeat first | exact Below.refl _ _ | assumption | refine Below.drew ?_ | refine below_drewN ?_ _ | refine Below.more_ ?_ _ | refine Below.setCell ?_ (by first | exact Nat.le_refl _ | (simp; done) | (simp; omega)) _)
  · as_aux_lemma =>
      simp (config := { decide := true }) only [if_true, if_false]
      change Calls Try.prog _ _ _ (fun e w' => e = .returned (.tuple #[.agg #[.int .i64 1, .int .u64 block, .int .i64 1, .int .u64 0, .int .u64 0, .string ⟨#[]⟩], .bool true]) ∧ _)
      go_enter Try.func63, Try.ntmps63
      go_wp2_with fail
      refine bodyPost_ret (v := .tuple #[.agg #[.int .i64 1, .int .u64 block, .int .i64 1, .int .u64 0, .int .u64 0, .string ⟨#[]⟩], .bool true]) (by simp [results, Try.results63, go_sem]) rfl ⟨rfl, ?_⟩
      (repeat first | exact Below.refl _ _ | assumption | refine Below.drew ?_ | refine below_drewN ?_ _ | refine Below.more_ ?_ _ | refine Below.setCell ?_ (by first | exact Nat.le_refl _ | (simp; done) | (simp; omega)) _)
  · as_aux_lemma =>
      simp (config := { decide := true }) only [if_true, if_false]
      change Calls Try.prog _ _ _ (fun e w' => e = .returned (.tuple #[.agg #[.int .i64 1, .int .u64 block, .int .i64 2, .int .u64 0, .int .u64 0, .string ⟨#[]⟩], .bool true]) ∧ _)
      go_enter Try.func63, Try.ntmps63
      go_wp2_with fail
      refine bodyPost_ret (v := .tuple #[.agg #[.int .i64 1, .int .u64 block, .int .i64 2, .int .u64 0, .int .u64 0, .string ⟨#[]⟩], .bool true]) (by simp [results, Try.results63, go_sem]) rfl ⟨rfl, ?_⟩
      (repeat first | exact Below.refl _ _ | assumption | refine Below.drew ?_ | refine below_drewN ?_ _ | refine Below.more_ ?_ _ | refine Below.setCell ?_ (by first | exact Nat.le_refl _ | (simp; done) | (simp; omega)) _)
  · as_aux_lemma =>
      simp (config := { decide := true }) only [if_true, if_false]
      change Calls Try.prog _ _ _ (fun e w' => e = .returned (.tuple #[.agg #[.int .i64 6, .int .u64 block, .int .i64 0, .int .u64 0, .int .u64 0, .string ⟨#[]⟩], .bool true]) ∧ _)
      go_enter Try.func63, Try.ntmps63
      go_wp2_with fail
      refine bodyPost_ret (v := .tuple #[.agg #[.int .i64 6, .int .u64 block, .int .i64 0, .int .u64 0, .int .u64 0, .string ⟨#[]⟩], .bool true]) (by simp [results, Try.results63, go_sem]) rfl ⟨rfl, ?_⟩
      (repeat first | exact Below.refl _ _ | assumption | refine Below.drew ?_ | refine below_drewN ?_ _ | refine Below.more_ ?_ _ | refine Below.setCell ?_ (by first | exact Nat.le_refl _ | (simp; done) | (simp; omega)) _)
  · as_aux_lemma =>
      simp (config := { decide := true }) only [if_false]
      change Calls Try.prog _ _ _ (fun e w' => e = .returned (.tuple #[.agg #[.int .i64 0, .int .u64 0, .int .i64 0, .int .u64 0, .int .u64 0, .string ⟨#[]⟩], .bool false]) ∧ _)
      go_enter Try.func63, Try.ntmps63
      go_wp2_with fail
      refine bodyPost_ret (v := .tuple #[.agg #[.int .i64 0, .int .u64 0, .int .i64 0, .int .u64 0, .int .u64 0, .string ⟨#[]⟩], .bool false]) (by simp [results, Try.results63, go_sem]) rfl ⟨rfl, ?_⟩
      (repeat first | exact Below.refl _ _ | assumption | refine Below.drew ?_ | refine below_drewN ?_ _ | refine Below.more_ ?_ _ | refine Below.setCell ?_ (by first | exact Nat.le_refl _ | (simp; done) | (simp; omega)) _)
end Go.Proofs.Ytfelkkbgbgnpaaa

/-
  The routine that reads a chain of versions (layer 24): what it takes. No condition.
-/
namespace Go.Proofs.Ytfelkkbgbgnpaaa
set_option linter.unusedVariables false
open Go.ChangeShapes Go.WideShapes Go.ChangeAt Go.RowKit
open Go.ChangeMaps (setBlock)

theorem chg_setCell {w W : World} {b : Nat} (h : Chg (fun k => k = b) w W) (i : Nat) (v : Value) : Chg (fun k => k = b) w (W.setCell ⟨b, i, none⟩ v) := Chg.setCell h (by left; rfl) v
set_option maxRecDepth 100000 in
set_option maxHeartbeats 2000000 in
theorem end_any {w : World} {b : Nat} {cell epoch block part vblock passed : Int} {has : Bool} {text : ByteArray} (hB : Blk w b 198 #[.int .i64 cell, .int .u64 epoch, .int .u64 block, .int .i64 part, .bool has, .string text, .int .u64 vblock, .int .i64 passed]) (hs : Bool) (t : ByteArray) : Calls Try.prog 121 #[.pointer (some ⟨b, 0, none⟩), .bool hs, .string t] w fun e w' => e = .returned (.tuple #[]) ∧ Blk w' b 198 #[.int .i64 cell, .int .u64 epoch, .int .u64 block, .int .i64 6, .bool hs, .string t, .int .u64 block, .int .i64 passed] ∧ Chg (fun k => k = b) w w' := by
  have c2 := hB.cell 2
  have c3 := hB.cell 3
  have c4 := hB.cell 4
  have c5 := hB.cell 5
  have c6 := hB.cell 6
  have f3 := hB.frozen 3
  have f4 := hB.frozen 4
  have f5 := hB.frozen 5
  have f6 := hB.frozen 6
  have hlt := hB.lt
  replace hB := Lib.hid hB
  go_enter Try.func121, Try.ntmps121
  go_wp2_with fail
  refine gen_world (α := fun W' => bodyPost _ _ _ _ _ W') (fun W' => Blk W' b 198 #[.int .i64 cell, .int .u64 epoch, .int .u64 block, .int .i64 6, .bool hs, .string t, .int .u64 block, .int .i64 passed] ∧ Chg (fun k => k = b) w W') ⟨?_, ?_⟩ ?_
  · exact Blk.eq_cs ((((hB.out.set_ 4 _).set_ 5 _).set_ 6 _).set_ 3 _) rfl
  · exact chg_setCell (chg_setCell (chg_setCell (chg_setCell (Chg.refl _ _) _ _) _ _) _ _) _ _
  rintro W' ⟨g1, g2⟩
  exact bodyPost_end (v := .tuple #[]) (results_none (by kernel_rfl) _ _ _) rfl ⟨rfl, g1, g2⟩
set_option maxRecDepth 100000 in
set_option maxHeartbeats 16000000 in
theorem chainTake_any {w : World} {b : Nat} {s : PChain} (h : ChainIn w b s) (g : PGot) (hg : g.Ok) : Calls Try.prog 72 #[.pointer (some ⟨b, 0, none⟩), g.val] w fun e w' => e = .returned (.tuple #[]) ∧ ChainIn w' b (s.take g) ∧ Chg (fun k => k = b) w w' := by
  obtain ⟨gw, gt⟩ := g
  rw [show PGot.val ⟨gw, gt⟩ = .agg #[.int .u64 gw, .string gt] from rfl]
  have hT : s.take ⟨gw, gt⟩ = if s.part = 1 then s.down gw else if s.part = 2 then (if s.epoch < gw then { s with part := 3 } else { s with part := 4 }) else if s.part = 3 then PChain.down { s with passed := IntKind.i64.wrap (s.passed + 1) } gw else if s.part = 4 then (if gw = 0 then PChain.done_ { s with part := 5 } false ByteArray.empty else { s with part := 5 }) else if s.part = 5 then s.done_ true gt else s := rfl
  rw [hT]
  clear hT
  have hz : Below w.heap.size w (w.alloc (.cells #[.int .u64 gw, .string gt] 53)) := (Below.refl _ _).alloc (Nat.le_refl _) _
  have hp := h.part
  have hcl := h.cell
  have hep := h.epoch
  have hbl := h.block
  obtain ⟨cell, epoch, block, part, has, text, vblock, passed⟩ := s
  simp only at hp hcl hep hbl ⊢
  have hB : Blk w b 198 #[.int .i64 cell, .int .u64 epoch, .int .u64 block, .int .i64 part, .bool has, .string text, .int .u64 vblock, .int .i64 passed] := h.blk
  have c1 := hB.cell 1
  have c2 := hB.cell 2
  have c3 := hB.cell 3
  have c7 := hB.cell 7
  have f2 := hB.frozen 2
  have f3 := hB.frozen 3
  have f7 := hB.frozen 7
  have hlt := hB.lt
  generalize hpw : IntKind.i64.wrap (passed + 1) = pw at *
  have hpw2 : wrap64 (passed + 1) = pw := by rw [← IntWalk.i64_left]; exact hpw
  replace hpw := Lib.hid hpw
  have hg0 : 0 ≤ gw ∧ gw ≤ 18446744073709551615 := hg
  replace h := Lib.hid h
  replace hB := Lib.hid hB
  replace hz := Lib.hid hz
  have hcase : part = 0 ∨ part = 1 ∨ part = 2 ∨ part = 3 ∨ part = 4 ∨ part = 5 ∨ part = 6 := by omega
  rcases hcase with rfl | rfl | rfl | rfl | rfl | rfl | rfl
  · simp (config := { decide := true }) only [if_false]
    as_aux_lemma =>
      go_enter Try.func72, Try.ntmps72
      go_wp2_with fail
      exact bodyPost_end (v := .tuple #[]) (results_none (by kernel_rfl) _ _ _) rfl ⟨rfl, h.out.below hz.out, Chg.of_below hz.out _⟩
  · simp (config := { decide := true }) only [if_true, if_false]
    by_cases hc : gw = 0
    · subst hc
      rw [show PChain.down _ 0 = _ from if_pos rfl]
      as_aux_lemma =>
        go_enter Try.func72, Try.ntmps72
        go_wp2_with fail
        refine (end_any (cell := cell) (epoch := epoch) (block := 0) (part := 2) (vblock := vblock) (passed := passed) (has := has) (text := text) ?_ false ⟨#[]⟩).mono ?_
        · refine Blk.eq_cs (cs := (((#[.int .i64 cell, .int .u64 epoch, .int .u64 block, .int .i64 1, .bool has, .string text, .int .u64 vblock, .int .i64 passed] : Array Value).setIfInBounds 2 (.int .u64 0)).setIfInBounds 3 (.int .i64 2))) ?_ rfl
          have hB := hB.out
          (repeat first | with_reducible exact hB | with_reducible refine Blk.drewN ?_ _ | with_reducible refine Blk.drew ?_ | with_reducible refine Blk.alloc ?_ _ | with_reducible refine Blk.set_ ?_ _ _ | refine Blk.far ?_ (by simp; omega) _)
        rintro e w1 ⟨rfl, g1, g2⟩
        have g3 : Chg (fun k => k = b) w w1 := Chg.trans (by
          have hC := Chg.refl (fun k => k = b) w
          repeat first | with_reducible exact hC | with_reducible refine Chg.drew ?_ | with_reducible refine Chg.drewN ?_ _ | with_reducible refine Chg.alloc ?_ _ | refine Chg.setCell ?_ (by left; rfl) _) g2 fun i hi => Or.inl hi
        clear g2
        replace g1 := Lib.hid g1
        replace g3 := Lib.hid g3
        go_wp2_with fail
        exact bodyPost_end (v := .tuple #[]) (results_none (by kernel_rfl) _ _ _) rfl ⟨rfl, ⟨g1.out, hcl, hep, by show (0 : Int) ≤ 0 ∧ (0 : Int) ≤ 18446744073709551615; decide, by show (0 : Int) ≤ 6 ∧ (6 : Int) ≤ 6; decide⟩, g3.out⟩
    · rw [show PChain.down _ gw = _ from if_neg hc]
      have d1 : (gw == 0) = false := by simp [hc]
      replace hc := Lib.hid hc
      as_aux_lemma =>
        go_enter Try.func72, Try.ntmps72
        go_wp2_with fail
        refine gen_world (α := fun W' => bodyPost _ _ _ _ _ W') (fun W' => Blk W' b 198 #[.int .i64 cell, .int .u64 epoch, .int .u64 gw, .int .i64 2, .bool has, .string text, .int .u64 vblock, .int .i64 passed] ∧ Chg (fun k => k = b) w W') ⟨?_, ?_⟩ ?_
        · refine Blk.eq_cs (cs := (((#[.int .i64 cell, .int .u64 epoch, .int .u64 block, .int .i64 1, .bool has, .string text, .int .u64 vblock, .int .i64 passed] : Array Value).setIfInBounds 2 (.int .u64 gw)).setIfInBounds 3 (.int .i64 2))) ?_ rfl
          have hB := hB.out
          (repeat first | with_reducible exact hB | with_reducible refine Blk.drewN ?_ _ | with_reducible refine Blk.drew ?_ | with_reducible refine Blk.alloc ?_ _ | with_reducible refine Blk.set_ ?_ _ _ | refine Blk.far ?_ (by simp; omega) _)
        · have hC := Chg.refl (fun k => k = b) w
          repeat first | with_reducible exact hC | with_reducible refine Chg.drew ?_ | with_reducible refine Chg.drewN ?_ _ | with_reducible refine Chg.alloc ?_ _ | refine Chg.setCell ?_ (by left; rfl) _
        rintro W' ⟨g1, g2⟩
        exact bodyPost_end (v := .tuple #[]) (results_none (by kernel_rfl) _ _ _) rfl ⟨rfl, ⟨g1, hcl, hep, hg0, by show (0 : Int) ≤ 2 ∧ (2 : Int) ≤ 6; decide⟩, g2⟩
  · simp (config := { decide := true }) only [if_true, if_false]
    by_cases hc : epoch < gw
    · rw [if_pos hc]
      have d1 : decide (epoch < gw) = true := by simp [hc]
      replace hc := Lib.hid hc
      as_aux_lemma =>
        go_enter Try.func72, Try.ntmps72
        go_wp2_with fail
        go_quiet (fail)
        go_wp2_with fail
        refine gen_world (α := fun W' => bodyPost _ _ _ _ _ W') (fun W' => Blk W' b 198 #[.int .i64 cell, .int .u64 epoch, .int .u64 block, .int .i64 3, .bool has, .string text, .int .u64 vblock, .int .i64 passed] ∧ Chg (fun k => k = b) w W') ⟨?_, ?_⟩ ?_
        · refine Blk.eq_cs (cs := (((#[.int .i64 cell, .int .u64 epoch, .int .u64 block, .int .i64 2, .bool has, .string text, .int .u64 vblock, .int .i64 passed] : Array Value).setIfInBounds 3 (.int .i64 4)).setIfInBounds 3 (.int .i64 3))) ?_ rfl
          have hB := hB.out
          (repeat first | with_reducible exact hB | with_reducible refine Blk.drewN ?_ _ | with_reducible refine Blk.drew ?_ | with_reducible refine Blk.alloc ?_ _ | with_reducible refine Blk.set_ ?_ _ _ | refine Blk.far ?_ (by simp; omega) _)
        · have hC := Chg.refl (fun k => k = b) w
          repeat first | with_reducible exact hC | with_reducible refine Chg.drew ?_ | with_reducible refine Chg.drewN ?_ _ | with_reducible refine Chg.alloc ?_ _ | refine Chg.setCell ?_ (by left; rfl) _
        rintro W' ⟨g1, g2⟩
        exact bodyPost_end (v := .tuple #[]) (results_none (by kernel_rfl) _ _ _) rfl ⟨rfl, ⟨g1, hcl, hep, hbl, by show (0 : Int) ≤ 3 ∧ (3 : Int) ≤ 6; decide⟩, g2⟩
    · rw [if_neg hc]
      have d1 : decide (epoch < gw) = false := by simp [hc]
      replace hc := Lib.hid hc
      as_aux_lemma =>
        go_enter Try.func72, Try.ntmps72
        go_wp2_with fail
        go_quiet (fail)
        go_wp2_with fail
        refine gen_world (α := fun W' => bodyPost _ _ _ _ _ W') (fun W' => Blk W' b 198 #[.int .i64 cell, .int .u64 epoch, .int .u64 block, .int .i64 4, .bool has, .string text, .int .u64 vblock, .int .i64 passed] ∧ Chg (fun k => k = b) w W') ⟨?_, ?_⟩ ?_
        · refine Blk.eq_cs (cs := ((#[.int .i64 cell, .int .u64 epoch, .int .u64 block, .int .i64 2, .bool has, .string text, .int .u64 vblock, .int .i64 passed] : Array Value).setIfInBounds 3 (.int .i64 4))) ?_ rfl
          have hB := hB.out
          (repeat first | with_reducible exact hB | with_reducible refine Blk.drewN ?_ _ | with_reducible refine Blk.drew ?_ | with_reducible refine Blk.alloc ?_ _ | with_reducible refine Blk.set_ ?_ _ _ | refine Blk.far ?_ (by simp; omega) _)
        · have hC := Chg.refl (fun k => k = b) w
          repeat first | with_reducible exact hC | with_reducible refine Chg.drew ?_ | with_reducible refine Chg.drewN ?_ _ | with_reducible refine Chg.alloc ?_ _ | refine Chg.setCell ?_ (by left; rfl) _
        rintro W' ⟨g1, g2⟩
        exact bodyPost_end (v := .tuple #[]) (results_none (by kernel_rfl) _ _ _) rfl ⟨rfl, ⟨g1, hcl, hep, hbl, by show (0 : Int) ≤ 4 ∧ (4 : Int) ≤ 6; decide⟩, g2⟩
  · simp (config := { decide := true }) only [if_true, if_false]
    by_cases hc : gw = 0
    · subst hc
      rw [show PChain.down _ 0 = _ from if_pos rfl]
      as_aux_lemma =>
        go_enter Try.func72, Try.ntmps72
        go_wp2_with fail
        refine (end_any (cell := cell) (epoch := epoch) (block := 0) (part := 2) (vblock := vblock) (passed := pw) (has := has) (text := text) ?_ false ⟨#[]⟩).mono ?_
        · refine Blk.eq_cs (cs := ((((#[.int .i64 cell, .int .u64 epoch, .int .u64 block, .int .i64 3, .bool has, .string text, .int .u64 vblock, .int .i64 passed] : Array Value).setIfInBounds 7 (.int .i64 pw)).setIfInBounds 2 (.int .u64 0)).setIfInBounds 3 (.int .i64 2))) ?_ rfl
          have hB := hB.out
          (repeat first | with_reducible exact hB | with_reducible refine Blk.drewN ?_ _ | with_reducible refine Blk.drew ?_ | with_reducible refine Blk.alloc ?_ _ | with_reducible refine Blk.set_ ?_ _ _ | refine Blk.far ?_ (by simp; omega) _)
        rintro e w1 ⟨rfl, g1, g2⟩
        have g3 : Chg (fun k => k = b) w w1 := Chg.trans (by
          have hC := Chg.refl (fun k => k = b) w
          repeat first | with_reducible exact hC | with_reducible refine Chg.drew ?_ | with_reducible refine Chg.drewN ?_ _ | with_reducible refine Chg.alloc ?_ _ | refine Chg.setCell ?_ (by left; rfl) _) g2 fun i hi => Or.inl hi
        clear g2
        replace g1 := Lib.hid g1
        replace g3 := Lib.hid g3
        go_wp2_with fail
        exact bodyPost_end (v := .tuple #[]) (results_none (by kernel_rfl) _ _ _) rfl ⟨rfl, ⟨g1.out, hcl, hep, by show (0 : Int) ≤ 0 ∧ (0 : Int) ≤ 18446744073709551615; decide, by show (0 : Int) ≤ 6 ∧ (6 : Int) ≤ 6; decide⟩, g3.out⟩
    · rw [show PChain.down _ gw = _ from if_neg hc]
      have d1 : (gw == 0) = false := by simp [hc]
      replace hc := Lib.hid hc
      as_aux_lemma =>
        go_enter Try.func72, Try.ntmps72
        go_wp2_with fail
        refine gen_world (α := fun W' => bodyPost _ _ _ _ _ W') (fun W' => Blk W' b 198 #[.int .i64 cell, .int .u64 epoch, .int .u64 gw, .int .i64 2, .bool has, .string text, .int .u64 vblock, .int .i64 pw] ∧ Chg (fun k => k = b) w W') ⟨?_, ?_⟩ ?_
        · refine Blk.eq_cs (cs := ((((#[.int .i64 cell, .int .u64 epoch, .int .u64 block, .int .i64 3, .bool has, .string text, .int .u64 vblock, .int .i64 passed] : Array Value).setIfInBounds 7 (.int .i64 pw)).setIfInBounds 2 (.int .u64 gw)).setIfInBounds 3 (.int .i64 2))) ?_ rfl
          have hB := hB.out
          (repeat first | with_reducible exact hB | with_reducible refine Blk.drewN ?_ _ | with_reducible refine Blk.drew ?_ | with_reducible refine Blk.alloc ?_ _ | with_reducible refine Blk.set_ ?_ _ _ | refine Blk.far ?_ (by simp; omega) _)
        · have hC := Chg.refl (fun k => k = b) w
          repeat first | with_reducible exact hC | with_reducible refine Chg.drew ?_ | with_reducible refine Chg.drewN ?_ _ | with_reducible refine Chg.alloc ?_ _ | refine Chg.setCell ?_ (by left; rfl) _
        rintro W' ⟨g1, g2⟩
        exact bodyPost_end (v := .tuple #[]) (results_none (by kernel_rfl) _ _ _) rfl ⟨rfl, ⟨g1, hcl, hep, hg0, by show (0 : Int) ≤ 2 ∧ (2 : Int) ≤ 6; decide⟩, g2⟩
  · simp (config := { decide := true }) only [if_true, if_false]
    by_cases hc : gw = 0
    · subst hc
      simp only [if_true]
      as_aux_lemma =>
        go_enter Try.func72, Try.ntmps72
        go_wp2_with fail
        refine (end_any (cell := cell) (epoch := epoch) (block := block) (part := 5) (vblock := vblock) (passed := passed) (has := has) (text := text) ?_ false ⟨#[]⟩).mono ?_
        · refine Blk.eq_cs (cs := ((#[.int .i64 cell, .int .u64 epoch, .int .u64 block, .int .i64 4, .bool has, .string text, .int .u64 vblock, .int .i64 passed] : Array Value).setIfInBounds 3 (.int .i64 5))) ?_ rfl
          have hB := hB.out
          (repeat first | with_reducible exact hB | with_reducible refine Blk.drewN ?_ _ | with_reducible refine Blk.drew ?_ | with_reducible refine Blk.alloc ?_ _ | with_reducible refine Blk.set_ ?_ _ _ | refine Blk.far ?_ (by simp; omega) _)
        rintro e w1 ⟨rfl, g1, g2⟩
        have g3 : Chg (fun k => k = b) w w1 := Chg.trans (by
          have hC := Chg.refl (fun k => k = b) w
          repeat first | with_reducible exact hC | with_reducible refine Chg.drew ?_ | with_reducible refine Chg.drewN ?_ _ | with_reducible refine Chg.alloc ?_ _ | refine Chg.setCell ?_ (by left; rfl) _) g2 fun i hi => Or.inl hi
        clear g2
        replace g1 := Lib.hid g1
        replace g3 := Lib.hid g3
        go_wp2_with fail
        exact bodyPost_end (v := .tuple #[]) (results_none (by kernel_rfl) _ _ _) rfl ⟨rfl, ⟨g1.out, hcl, hep, hbl, by show (0 : Int) ≤ 6 ∧ (6 : Int) ≤ 6; decide⟩, g3.out⟩
    · rw [if_neg hc]
      have d1 : (gw == 0) = false := by simp [hc]
      replace hc := Lib.hid hc
      as_aux_lemma =>
        go_enter Try.func72, Try.ntmps72
        go_wp2_with fail
        refine gen_world (α := fun W' => bodyPost _ _ _ _ _ W') (fun W' => Blk W' b 198 #[.int .i64 cell, .int .u64 epoch, .int .u64 block, .int .i64 5, .bool has, .string text, .int .u64 vblock, .int .i64 passed] ∧ Chg (fun k => k = b) w W') ⟨?_, ?_⟩ ?_
        · refine Blk.eq_cs (cs := ((#[.int .i64 cell, .int .u64 epoch, .int .u64 block, .int .i64 4, .bool has, .string text, .int .u64 vblock, .int .i64 passed] : Array Value).setIfInBounds 3 (.int .i64 5))) ?_ rfl
          have hB := hB.out
          (repeat first | with_reducible exact hB | with_reducible refine Blk.drewN ?_ _ | with_reducible refine Blk.drew ?_ | with_reducible refine Blk.alloc ?_ _ | with_reducible refine Blk.set_ ?_ _ _ | refine Blk.far ?_ (by simp; omega) _)
        · have hC := Chg.refl (fun k => k = b) w
          repeat first | with_reducible exact hC | with_reducible refine Chg.drew ?_ | with_reducible refine Chg.drewN ?_ _ | with_reducible refine Chg.alloc ?_ _ | refine Chg.setCell ?_ (by left; rfl) _
        rintro W' ⟨g1, g2⟩
        exact bodyPost_end (v := .tuple #[]) (results_none (by kernel_rfl) _ _ _) rfl ⟨rfl, ⟨g1, hcl, hep, hbl, by show (0 : Int) ≤ 5 ∧ (5 : Int) ≤ 6; decide⟩, g2⟩
  · simp (config := { decide := true }) only [if_true, if_false]
    as_aux_lemma =>
      go_enter Try.func72, Try.ntmps72
      go_wp2_with fail
      refine (end_any (cell := cell) (epoch := epoch) (block := block) (part := 5) (vblock := vblock) (passed := passed) (has := has) (text := text) ?_ true gt).mono ?_
      · refine Blk.eq_cs (cs := (#[.int .i64 cell, .int .u64 epoch, .int .u64 block, .int .i64 5, .bool has, .string text, .int .u64 vblock, .int .i64 passed] : Array Value)) ?_ rfl
        have hB := hB.out
        (repeat first | with_reducible exact hB | with_reducible refine Blk.drewN ?_ _ | with_reducible refine Blk.drew ?_ | with_reducible refine Blk.alloc ?_ _ | with_reducible refine Blk.set_ ?_ _ _ | refine Blk.far ?_ (by simp; omega) _)
      rintro e w1 ⟨rfl, g1, g2⟩
      have g3 : Chg (fun k => k = b) w w1 := Chg.trans (by
        have hC := Chg.refl (fun k => k = b) w
        repeat first | with_reducible exact hC | with_reducible refine Chg.drew ?_ | with_reducible refine Chg.drewN ?_ _ | with_reducible refine Chg.alloc ?_ _ | refine Chg.setCell ?_ (by left; rfl) _) g2 fun i hi => Or.inl hi
      clear g2
      replace g1 := Lib.hid g1
      replace g3 := Lib.hid g3
      go_wp2_with fail
      exact bodyPost_end (v := .tuple #[]) (results_none (by kernel_rfl) _ _ _) rfl ⟨rfl, ⟨g1.out, hcl, hep, hbl, by show (0 : Int) ≤ 6 ∧ (6 : Int) ≤ 6; decide⟩, g3.out⟩
  · simp (config := { decide := true }) only [if_false]
    as_aux_lemma =>
      go_enter Try.func72, Try.ntmps72
      go_wp2_with fail
      exact bodyPost_end (v := .tuple #[]) (results_none (by kernel_rfl) _ _ _) rfl ⟨rfl, h.out.below hz.out, Chg.of_below hz.out _⟩
end Go.Proofs.Ytfelkkbgbgnpaaa
