/-
  The routine that reads a chain of versions (layer 24): what each of its functions does. No condition.
-/
import Derived.Test.YtpldnbdcpihjcaaPlan
import Derived.Test.YtpldnbdcpihjcaaDrive
import Derived.BigQuiet
import Derived.Deep.RegionWith
namespace Go.Proofs.Ytpldnbdcpihjcaa
set_option linter.unusedVariables false
open Go.ChangeShapes Go.WideShapes Go.ChangeAt Go.RowKit
open Go.ChangeMaps (setBlock)

structure PChain where
  cell : Int
  epoch : Int
  block : Int
  part : Int
  has : Bool
  text : ByteArray
  vblock : Int
  passed : Int
def PChain.cells (s : PChain) : Array Value := #[.int .i64 s.cell, .int .u64 s.epoch, .int .u64 s.block, .int .i64 s.part, .bool s.has, .string s.text, .int .u64 s.vblock, .int .i64 s.passed]
structure ChainIn (w : World) (b : Nat) (s : PChain) : Prop where
  blk : Blk w b 137 s.cells
  cell : -9223372036854775808 ≤ s.cell ∧ s.cell ≤ 9223372036854775807
  epoch : 0 ≤ s.epoch ∧ s.epoch ≤ 18446744073709551615
  block : 0 ≤ s.block ∧ s.block ≤ 18446744073709551615
  part : 0 ≤ s.part ∧ s.part ≤ 6
theorem ChainIn.keep {w w' : World} {b : Nat} {s : PChain} (h : ChainIn w b s) (hb : w'.heap[b]? = w.heap[b]?) : ChainIn w' b s := ⟨h.blk.keep hb, h.cell, h.epoch, h.block, h.part⟩
theorem ChainIn.below {w w' : World} {b : Nat} {s : PChain} (h : ChainIn w b s) (hb : Below w.heap.size w w') : ChainIn w' b s := h.keep (hb.block _ h.blk.lt)
/-- What it does next. -/
def PChain.act (s : PChain) : PAct × Bool :=
  if s.part = 1 then (⟨1, 1, s.cell, 0, 0, ByteArray.empty⟩, true)
  else if s.part = 2 then (⟨1, s.block, 0, 0, 0, ByteArray.empty⟩, true)
  else if s.part = 3 then (⟨1, s.block, 1, 0, 0, ByteArray.empty⟩, true)
  else if s.part = 4 then (⟨1, s.block, 2, 0, 0, ByteArray.empty⟩, true)
  else if s.part = 5 then (⟨6, s.block, 0, 0, 0, ByteArray.empty⟩, true)
  else (noAct, false)
/-- What was read is put down. -/
def PChain.done_ (s : PChain) (has : Bool) (t : ByteArray) : PChain := { s with has := has, text := t, vblock := s.block, part := 6 }
def PChain.down (s : PChain) (x : Int) : PChain := if x = 0 then PChain.done_ { s with block := x, part := 2 } false ByteArray.empty else { s with block := x, part := 2 }
/-- What it takes. -/
def PChain.take (s : PChain) (g : PGot) : PChain :=
  if s.part = 1 then s.down g.word
  else if s.part = 2 then (if s.epoch < g.word then { s with part := 3 } else { s with part := 4 })
  else if s.part = 3 then PChain.down { s with passed := IntKind.i64.wrap (s.passed + 1) } g.word
  else if s.part = 4 then (if g.word = 0 then PChain.done_ { s with part := 5 } false ByteArray.empty else { s with part := 5 })
  else if s.part = 5 then s.done_ true g.text
  else s
def PChain.result (s : PChain) : (Bool × ByteArray × Int) × Bool := if s.part = 6 then ((s.has, s.text, s.vblock), true) else ((false, ByteArray.empty, 0), false)
theorem passed_nil (w : World) : Calls Try.prog 31 #[.pointer none] w fun e w' => e = .returned (.int .i64 0) ∧ w = w' := by
  go_enter Try.func31, Try.ntmps31
  go_wp2_with fail
  go_ret
  exact ⟨rfl, rfl⟩
theorem passed_any {w : World} {b : Nat} {s : PChain} (h : ChainIn w b s) : Calls Try.prog 31 #[.pointer (some ⟨b, 0, none⟩)] w fun e w' => e = .returned (.int .i64 s.passed) ∧ w = w' := by
  have c7 : w.cell? ⟨b, 7, none⟩ = some (.int .i64 s.passed) := h.blk.cell 7
  go_enter Try.func31, Try.ntmps31
  go_wp2_with fail
  go_ret
  exact ⟨rfl, rfl⟩
theorem chainAct_nil (w : World) : Calls Try.prog 69 #[.pointer none] w fun e w' => e = .returned (.tuple #[.agg #[.int .i64 0, .int .u64 0, .int .i64 0, .int .u64 0, .int .u64 0, .string ⟨#[]⟩], .bool false]) ∧ Below w.heap.size w w' := by
  go_enter Try.func69, Try.ntmps69
  go_wp2_with fail
  refine bodyPost_ret (v := .tuple #[.agg #[.int .i64 0, .int .u64 0, .int .i64 0, .int .u64 0, .int .u64 0, .string ⟨#[]⟩], .bool false]) (by simp [results, Try.results69, go_sem]) rfl ⟨rfl, ?_⟩
  (repeat first | exact Below.refl _ _ | assumption | refine Below.drew ?_ | refine below_drewN ?_ _ | refine Below.more_ ?_ _ | refine Below.setCell ?_ (by first | exact Nat.le_refl _ | (simp; done) | (simp; omega)) _)
set_option maxHeartbeats 1000000 in
theorem chainResult_any {w : World} {b : Nat} {s : PChain} (h : ChainIn w b s) : Calls Try.prog 30 #[.pointer (some ⟨b, 0, none⟩)] w fun e w' => e = .returned (.tuple #[.agg #[.bool s.result.1.1, .string s.result.1.2.1, .int .u64 s.result.1.2.2], .bool s.result.2]) ∧ Below w.heap.size w w' := by
  have hr : s.result = if s.part = 6 then ((s.has, s.text, s.vblock), true) else ((false, ByteArray.empty, 0), false) := rfl
  rw [hr]
  clear hr
  obtain ⟨cell, epoch, block, part, has, text, vblock, passed⟩ := s
  have hB : Blk w b 137 #[.int .i64 cell, .int .u64 epoch, .int .u64 block, .int .i64 part, .bool has, .string text, .int .u64 vblock, .int .i64 passed] := h.blk
  have c3 := hB.cell 3
  have c4 := hB.cell 4
  have c5 := hB.cell 5
  have c6 := hB.cell 6
  have hlt := hB.lt
  replace h := Lib.hid h
  replace hB := Lib.hid hB
  by_cases hp : part = 6
  · subst hp
    go_enter Try.func30, Try.ntmps30
    go_wp2_with fail
    refine bodyPost_ret (v := .tuple #[.agg #[.bool has, .string text, .int .u64 vblock], .bool true]) (by simp [results, Try.results30, go_sem]) rfl ⟨by simp, ?_⟩
    (repeat first | exact Below.refl _ _ | assumption | refine Below.drew ?_ | refine below_drewN ?_ _ | refine Below.more_ ?_ _ | refine Below.setCell ?_ (by first | exact Nat.le_refl _ | (simp; done) | (simp; omega)) _)
  · have d1 : (part == 6) = false := by simp [hp]
    simp only [hp, if_false]
    replace hp' := Lib.hid hp
    go_enter Try.func30, Try.ntmps30
    go_wp2_with fail
    refine bodyPost_ret (v := .tuple #[.agg #[.bool false, .string ⟨#[]⟩, .int .u64 0], .bool false]) (by simp [results, Try.results30, go_sem]) rfl ⟨rfl, ?_⟩
    (repeat first | exact Below.refl _ _ | assumption | refine Below.drew ?_ | refine below_drewN ?_ _ | refine Below.more_ ?_ _ | refine Below.setCell ?_ (by first | exact Nat.le_refl _ | (simp; done) | (simp; omega)) _)
set_option maxRecDepth 100000 in
set_option maxHeartbeats 8000000 in
theorem chainAct_any {w : World} {b : Nat} {s : PChain} (h : ChainIn w b s) : Calls Try.prog 69 #[.pointer (some ⟨b, 0, none⟩)] w fun e w' => e = .returned (.tuple #[s.act.1.val, .bool s.act.2]) ∧ Below w.heap.size w w' := by
  have hA : s.act = if s.part = 1 then (⟨1, 1, s.cell, 0, 0, ByteArray.empty⟩, true) else if s.part = 2 then (⟨1, s.block, 0, 0, 0, ByteArray.empty⟩, true) else if s.part = 3 then (⟨1, s.block, 1, 0, 0, ByteArray.empty⟩, true) else if s.part = 4 then (⟨1, s.block, 2, 0, 0, ByteArray.empty⟩, true) else if s.part = 5 then (⟨6, s.block, 0, 0, 0, ByteArray.empty⟩, true) else (noAct, false) := rfl
  have hp5 := h.part
  rw [hA]
  clear hA
  obtain ⟨cell, epoch, block, part, has, text, vblock, passed⟩ := s
  simp only at hp5 ⊢
  have hB : Blk w b 137 #[.int .i64 cell, .int .u64 epoch, .int .u64 block, .int .i64 part, .bool has, .string text, .int .u64 vblock, .int .i64 passed] := h.blk
  have c0 := hB.cell 0
  have c2 := hB.cell 2
  have c3 := hB.cell 3
  have hlt := hB.lt
  replace h := Lib.hid h
  replace hB := Lib.hid hB
  have hcase : part = 0 ∨ part = 1 ∨ part = 2 ∨ part = 3 ∨ part = 4 ∨ part = 5 ∨ part = 6 := by omega
  rcases hcase with rfl | rfl | rfl | rfl | rfl | rfl | rfl
  · as_aux_lemma =>
      simp (config := { decide := true }) only [if_false]
      change Calls Try.prog _ _ _ (fun e w' => e = .returned (.tuple #[.agg #[.int .i64 0, .int .u64 0, .int .i64 0, .int .u64 0, .int .u64 0, .string ⟨#[]⟩], .bool false]) ∧ _)
      go_enter Try.func69, Try.ntmps69
      go_wp2_with fail
      refine bodyPost_ret (v := .tuple #[.agg #[.int .i64 0, .int .u64 0, .int .i64 0, .int .u64 0, .int .u64 0, .string ⟨#[]⟩], .bool false]) (by simp [results, Try.results69, go_sem]) rfl ⟨rfl, ?_⟩
      (repeat first | exact Below.refl _ _ | assumption | refine Below.drew ?_ | refine below_drewN ?_ _ | refine Below.more_ ?_ _ | refine Below.setCell ?_ (by first | exact Nat.le_refl _ | (simp; done) | (simp; omega)) _)
  · as_aux_lemma =>
      simp (config := { decide := true }) only [if_true, if_false]
      change Calls Try.prog _ _ _ (fun e w' => e = .returned (.tuple #[.agg #[.int .i64 1, .int .u64 1, .int .i64 cell, .int .u64 0, .int .u64 0, .string ⟨#[]⟩], .bool true]) ∧ _)
      go_enter Try.func69, Try.ntmps69
      go_wp2_with fail
      go_region
      go_wp2_with fail
      refine bodyPost_ret (v := .tuple #[.agg #[.int .i64 1, .int .u64 1, .int .i64 cell, .int .u64 0, .int .u64 0, .string ⟨#[]⟩], .bool true]) (by simp [results, Try.results69, go_sem]) rfl ⟨rfl, ?_⟩
      (repeat first | exact Below.refl _ _ | assumption | refine Below.drew ?_ | refine below_drewN ?_ _ | refine Below.more_ ?_ _ | refine Below.setCell ?_ (by first | exact Nat.le_refl _ | (simp; done) | (simp; omega)) _)
  · as_aux_lemma =>
      simp (config := { decide := true }) only [if_true, if_false]
      change Calls Try.prog _ _ _ (fun e w' => e = .returned (.tuple #[.agg #[.int .i64 1, .int .u64 block, .int .i64 0, .int .u64 0, .int .u64 0, .string ⟨#[]⟩], .bool true]) ∧ _)
      go_enter Try.func69, Try.ntmps69
      go_wp2_with fail
      refine bodyPost_ret (v := .tuple #[.agg #[.int .i64 1, .int .u64 block, .int .i64 0, .int .u64 0, .int .u64 0, .string ⟨#[]⟩], .bool true]) (by simp [results, Try.results69, go_sem]) rfl ⟨rfl, ?_⟩
      (repeat first | exact Below.refl _ _ | assumption | refine Below.drew ?_ | refine below_drewN ?_ _ | refine Below.more_ ?_ _ | refine Below.setCell ?_ (by first | exact Nat.le_refl _ | (simp; done) | (simp; omega)) _)
  · as_aux_lemma =>
      simp (config := { decide := true }) only [if_true, if_false]
      change Calls Try.prog _ _ _ (fun e w' => e = .returned (.tuple #[.agg #[.int .i64 1, .int .u64 block, .int .i64 1, .int .u64 0, .int .u64 0, .string ⟨#[]⟩], .bool true]) ∧ _)
      go_enter Try.func69, Try.ntmps69
      go_wp2_with fail
      refine bodyPost_ret (v := .tuple #[.agg #[.int .i64 1, .int .u64 block, .int .i64 1, .int .u64 0, .int .u64 0, .string ⟨#[]⟩], .bool true]) (by simp [results, Try.results69, go_sem]) rfl ⟨rfl, ?_⟩
      (repeat first | exact Below.refl _ _ | assumption | refine Below.drew ?_ | refine below_drewN ?_ _ | refine Below.more_ ?_ _ | refine Below.setCell ?_ (by first | exact Nat.le_refl _ | (simp; done) | (simp; omega)) _)
  · as_aux_lemma =>
      simp (config := { decide := true }) only [if_true, if_false]
      change Calls Try.prog _ _ _ (fun e w' => e = .returned (.tuple #[.agg #[.int .i64 1, .int .u64 block, .int .i64 2, .int .u64 0, .int .u64 0, .string ⟨#[]⟩], .bool true]) ∧ _)
      go_enter Try.func69, Try.ntmps69
      go_wp2_with fail
      refine bodyPost_ret (v := .tuple #[.agg #[.int .i64 1, .int .u64 block, .int .i64 2, .int .u64 0, .int .u64 0, .string ⟨#[]⟩], .bool true]) (by simp [results, Try.results69, go_sem]) rfl ⟨rfl, ?_⟩
      (repeat first | exact Below.refl _ _ | assumption | refine Below.drew ?_ | refine below_drewN ?_ _ | refine Below.more_ ?_ _ | refine Below.setCell ?_ (by first | exact Nat.le_refl _ | (simp; done) | (simp; omega)) _)
  · as_aux_lemma =>
      simp (config := { decide := true }) only [if_true, if_false]
      change Calls Try.prog _ _ _ (fun e w' => e = .returned (.tuple #[.agg #[.int .i64 6, .int .u64 block, .int .i64 0, .int .u64 0, .int .u64 0, .string ⟨#[]⟩], .bool true]) ∧ _)
      go_enter Try.func69, Try.ntmps69
      go_wp2_with fail
      refine bodyPost_ret (v := .tuple #[.agg #[.int .i64 6, .int .u64 block, .int .i64 0, .int .u64 0, .int .u64 0, .string ⟨#[]⟩], .bool true]) (by simp [results, Try.results69, go_sem]) rfl ⟨rfl, ?_⟩
      (repeat first | exact Below.refl _ _ | assumption | refine Below.drew ?_ | refine below_drewN ?_ _ | refine Below.more_ ?_ _ | refine Below.setCell ?_ (by first | exact Nat.le_refl _ | (simp; done) | (simp; omega)) _)
  · as_aux_lemma =>
      simp (config := { decide := true }) only [if_false]
      change Calls Try.prog _ _ _ (fun e w' => e = .returned (.tuple #[.agg #[.int .i64 0, .int .u64 0, .int .i64 0, .int .u64 0, .int .u64 0, .string ⟨#[]⟩], .bool false]) ∧ _)
      go_enter Try.func69, Try.ntmps69
      go_wp2_with fail
      refine bodyPost_ret (v := .tuple #[.agg #[.int .i64 0, .int .u64 0, .int .i64 0, .int .u64 0, .int .u64 0, .string ⟨#[]⟩], .bool false]) (by simp [results, Try.results69, go_sem]) rfl ⟨rfl, ?_⟩
      (repeat first | exact Below.refl _ _ | assumption | refine Below.drew ?_ | refine below_drewN ?_ _ | refine Below.more_ ?_ _ | refine Below.setCell ?_ (by first | exact Nat.le_refl _ | (simp; done) | (simp; omega)) _)
end Go.Proofs.Ytpldnbdcpihjcaa
